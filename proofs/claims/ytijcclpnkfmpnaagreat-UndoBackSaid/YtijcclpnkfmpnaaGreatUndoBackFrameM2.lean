/- Contracts and plain laws, put together: Chk4, App, Chk5, Chk6, Img5, Img6, GoodP, Chk7, Open, Open2, Rows2, Ext1, SortP, LayX, Ext2, Ext3, Heap2, Heap3, Heap4. -/
import Derived.Test.YtijcclpnkfmpnaaGreatUndoBackFrameM1
import Derived.Maps.AppendAt
import Derived.Deep.AppendLies
import Derived.OwnWalk
import Derived.Deep.LoopGhost
import Derived.Deep.RegionHeld3
import Derived.ProofKit
import Derived.OpenShut
import Derived.ShutString
import Derived.ChangeOld
import Derived.SizedLaws
import Derived.Lib.SmallJoins
import Derived.Deep.Slices
import Derived.Deep.Fields
import Derived.Shelf.SlSortCmp.WholeK
import Derived.Shelf.SlGeneric
import Derived.Ground.SlsfProg
import Derived.Shelf.SlSortCmp.NoneTotal
/- The contract of check.roots: closures and slices.Contains over names. -/
namespace Go.Proofs.YtijcclpnkfmpnaaGreat
open Go.RowKit

/-- the slice at A has the texts L -/
def RdS (w : World) (A : Option Addr) (L : List Bytes) : Prop := ∀ j (h : j < L.length), ∃ b off, A = some ⟨b, off, none⟩ ∧ w.cell? ⟨b, off + j, none⟩ = some (sv L[j])
theorem own_rdS {w : World} {base e : Nat} {v : Value} {L : List Bytes} (h : w.ownsRow base e 1 v L.length (L.map fun x => sv x)) : ∃ A c, v = .slice A L.length c ∧ L.length ≤ c ∧ RdS w A L := by
  rcases h.2 with ⟨rfl, h0⟩ | ⟨g, cap, cur, rfl, _, hh, hc, hm, hz, ht⟩
  · exact ⟨none, 0, by rw [h0], by omega, fun i hi => by omega⟩
  · refine ⟨_, cap, rfl, hc, fun i hi => ⟨g, 0, rfl, ?_⟩⟩
    have := h.cells (g := g) rfl i (sv L[i]) (by simp [hi])
    rw [Addr.add_lit] at this
    exact this
theorem indexS_any (A : Option Addr) (n c : Nat) (L : List Bytes) (s : Bytes) (w : World) (hn : L.length = n) (hl : n ≤ 1000) (hr : RdS w A L) :
    Calls Tryz.prog 197 #[.slice A n c, sv s] w fun e w' => ∃ z : Int, e = .returned (.int .i64 z) ∧ decide (0 ≤ z) = L.any (fun x => s == x) ∧ w = w' := by
  subst hn
  go_enter Tryz.func197, Tryz.ntmps197
  go_wp2_with fail
  go_loopw [8] (fun i wr => w = wr ∧ ∃ k : Nat, k ≤ L.length ∧ i = .int .i64 k ∧ Hidden (∀ x ∈ L.take k, (s == x) = false)) (fun i _ => L.length - (intOf i).toNat)
  case atStart => exact ⟨rfl, 0, Nat.zero_le _, rfl, ⟨by simp⟩⟩
  case round =>
    obtain ⟨rfl, k, hk, rfl, hnot⟩ := hrel
    by_cases hlt : k < L.length
    · obtain ⟨b, off, rfl, c0⟩ := hr k hlt
      have i0 : (0 : Int) ≤ k := by omega
      have i1 : (k : Int) < L.length := by omega
      cases he : (s == L[k]) with
      | true =>
        have hi : Hidden (true = L.any fun x => s == x) := ⟨(List.any_eq_true.2 ⟨L[k], List.getElem_mem hlt, he⟩).symm⟩
        go_wp2_with fail
        go_ret
        exact ⟨_, rfl, by rw [← hi.out]; simp, rfl⟩
      | false =>
        have hnk : Hidden (∀ x ∈ L.take (k + 1), (s == x) = false) := ⟨forall_take_succ' hlt hnot.out he⟩
        clear hnot
        go_wp2_with fail
        go_roundw
        case rel => exact ⟨by trivial, k + 1, by omega, by go_num, hnk⟩
        case measure => simp [intOf]; omega
    · have hi : Hidden (false = L.any fun x => s == x) := ⟨by
        have := hnot.out
        rw [List.take_of_length_le (by omega)] at this
        symm; simpa using this⟩
      go_wp2_with fail
      go_ret
      exact ⟨-1, rfl, by rw [← hi.out]; rfl, rfl⟩
theorem containsS_any (A : Option Addr) (n c : Nat) (L : List Bytes) (s : Bytes) (w : World) (hn : L.length = n) (hl : n ≤ 1000) (hr : RdS w A L) :
    Calls Tryz.prog 176 #[.slice A n c, sv s] w fun e w' => e = .returned (.bool (L.any (fun x => s == x))) ∧ w = w' := by
  have HC := Hidden.mk (indexS_any A n c L s w hn hl hr)
  go_enter Tryz.func176, Tryz.ntmps176
  go_wp2_with fail
  refine HC.out.mono ?_
  rintro e w1 ⟨z, rfl, hz, rfl⟩
  have HZ := Hidden.mk hz
  clear hz
  go_wp2_with fail
  go_ret
  exact ⟨congrArg (fun b => Ending.returned (.bool b)) HZ.out, rfl⟩
/-- the closure of roots -/
theorem leads1_any (r : Bytes) (hr11 : r.length = 11) (Bx p off c : Nat) (x : Int × Bytes) (W : World) (h1 : W.cell? ⟨Bx, 0, none⟩ = some (.slice (some ⟨p, off, none⟩) 11 c)) (hrd : Rd W (some ⟨p, off, none⟩) r) :
    Calls Tryz.prog 175 #[entR x.1 x.2, .pointer (some ⟨Bx, 0, none⟩)] W fun e w' => e = .returned (.bool (x.1 == ((r.getD 10 0).toNat : Int))) ∧ Below W.heap.size W w' := by
  have hlt := block_lt_of_cell h1
  have c10 := hrd.at_ 10 (by omega)
  have hx10 : Hidden (r[10]'(by omega) = r.getD 10 0) := ⟨by simp [hr11]⟩
  have hlp := block_lt_of_cell c10
  generalize r[10]'(by omega) = r10 at *
  have hw0 : IntKind.i64.wrap (r10.toNat : Int) = (r10.toNat : Int) := IntWalk.i64_in _ (by have := u8_lt r10; omega)
  have hW : Below W.heap.size W (W.alloc (.cells #[.int .i64 x.1, .int .i64 (rAt x.2), .int .i64 (rLen x.2), .int .i64 (rTag x.2)] 85)) := (Below.refl _ _).alloc (Nat.le_refl _) _
  obtain ⟨xh, xr⟩ := x
  unfold entR
  dsimp only at *
  generalize rAt xr = c1 at *
  generalize rLen xr = c2 at *
  generalize rTag xr = c3 at *
  clear hrd hr11
  go_enter Tryz.func175, Tryz.ntmps175
  go_wp2_with fail
  go_quiet (fail)
  go_wp2_with fail
  go_ret
  exact ⟨by rw [← hx10.out]; rfl, below_drewN hW _⟩

theorem rawR_len (l : Bytes) (i : Nat) (hi : i < 8) (hn : 288 ≤ l.length) : (rawR l i).length = 11 := by
  unfold rawR; simp; omega
theorem rawR_rd {w : World} {A : Option Addr} {l : Bytes} (h : Rd w A l) (i : Nat) (hi : i < 8) (hn : 288 ≤ l.length) : Rd w (A.map (·.add (200 + 11 * i))) (rawR l i) := h.cut (200 + 11 * i) 11 (by omega)
theorem rootO_k (k : Nat) : rootO (k : Int) = 200 + 11 * k := by unfold rootO; omega
def namesL (leads : UInt8 → Bool) (S : Nat → Bytes) (m : Nat) : List Bytes := ((List.range m).filter fun i => kindR leads S i == 6).map fun i => nmR (S i)
theorem namesL_succ (leads : UInt8 → Bool) (S : Nat → Bytes) (m : Nat) : namesL leads S (m + 1) = namesL leads S m ++ (if kindR leads S m = 6 then [nmR (S m)] else []) := by
  unfold namesL
  rw [List.range_succ, List.filter_append, List.map_append]
  congr 1
  by_cases h : kindR leads S m = 6 <;> simp [h]
theorem namesL_len (leads : UInt8 → Bool) (S : Nat → Bytes) (m : Nat) : (namesL leads S m).length ≤ m := by
  unfold namesL
  rw [List.length_map]
  have := List.length_filter_le (fun i => kindR leads S i == 6) (List.range m)
  rwa [List.length_range] at this
theorem namesL_any (leads : UInt8 → Bool) (S : Nat → Bytes) (s : Bytes) : ∀ m, (namesL leads S m).any (fun x => s == x) = (List.range m).any fun j => okR leads (S j) && (s == nmR (S j))
  | 0 => rfl
  | m + 1 => by
    rw [namesL_succ, List.any_append, List.range_succ, List.any_append, namesL_any leads S s m]
    by_cases h : kindR leads S m = 6
    · have hok : okR leads (S m) = true := by
        unfold kindR at h; unfold okR
        split at h
        · simp at h
        · split at h
          · simp at h
          · rename_i h1 h2; simp [h1, h2]
      simp [h, hok]
    · simp only [if_neg h, List.any_nil, List.any_cons, Bool.or_false]
      cases hok : okR leads (S m) with
      | false => simp
      | true =>
        have hz : zeroE (S m) = false := by unfold okR at hok; simp at hok; exact hok.1
        have hb : badR leads (S m) = false := by unfold okR at hok; simp at hok; exact hok.2
        have h5 : ((List.range m).any fun j => okR leads (S j) && (nmR (S m) == nmR (S j))) = true := by
          unfold kindR at h
          rw [hz, hb] at h
          simp only [Bool.false_eq_true, if_false] at h
          split at h
          · assumption
          · simp at h
        by_cases he : s = nmR (S m)
        · subst he; rw [h5]; simp
        · simp [he]
/-- two slices of the call's own: faults, names -/
structure RSt (w : World) (base : Nat) (vf vn : Value) (F : List Flt) (N : List Bytes) : Prop where
  f : w.ownsRow base 130 2 vf F.length (F.flatMap fcells)
  n : w.ownsRow base 9 1 vn N.length (N.map fun x => sv x)
section
variable {w w' : World} {base : Nat} {vf vn vf' vn' : Value} {F : List Flt} {N : List Bytes}
theorem RSt.below (h : RSt w base vf vn F N) (hb : Below w.heap.size w w') : RSt w' base vf vn F N := ⟨own_below h.f hb, own_below h.n hb⟩
theorem RSt.addF (h : RSt w base vf vn F N) {x : Flt} (hg : w.grownBy w' vf.ownBlock) (h' : w'.ownsRow base 130 2 vf' (F.length + 1) (F.flatMap fcells ++ fcells x)) : RSt w' base vf' vn (F ++ [x]) N :=
  ⟨by simpa using h', h.n.kept hg (own_apart h.n h.f (by decide))⟩
theorem RSt.addN (h : RSt w base vf vn F N) {x : Bytes} (hg : w.grownBy w' vn.ownBlock) (h' : w'.ownsRow base 9 1 vn' (N.length + 1) ((N.map fun x => sv x) ++ [sv x])) : RSt w' base vf vn' F (N ++ [x]) :=
  ⟨h.f.kept hg (own_apart h.f h.n (by decide)), by simpa using h'⟩
end
theorem string_info : (Tryz.prog.info? 9).map (fun i => (i.zero, i.size, i.bytes)) = some (some (.string ByteArray.empty), 1, 16) := by kernel_rfl
theorem RdEs.belowB {w w' : World} {A : Option Addr} {L : List (Int × Bytes)} (h : RdEs w A L) (hb : Below w.heap.size w w') : RdEs w' A L := h.below hb
set_option maxRecDepth 100000 in
set_option maxHeartbeats 1000000 in
theorem roots_ok (A Ar : Option Addr) (n c nr cr : Nat) (l : Bytes) (L : List (Int × Bytes)) (leads : UInt8 → Bool) (w : World) (hn : l.length = n) (hr : rightB n = true) (hnc : n ≤ c) (hrd : Rd w A l) (hnr : L.length = nr) (hl : nr ≤ 100) (hrl : RdEs w Ar L)
    (hleads : ∀ x : UInt8, (L.any fun e => e.1 == (x.toNat : Int)) = leads x) :
    Calls Tryz.prog 145 #[.slice A n c, .slice Ar nr cr] w fun e w' => ∃ vf, e = .returned vf ∧ w'.ownsRow w.heap.size 130 2 vf (faultsR leads (rawR l) 8).length ((faultsR leads (rawR l) 8).flatMap fcells) ∧ Below w.heap.size w w' := by
  have hnb := rightB_true.1 hr
  obtain ⟨i1, hi1, hy0, hy1, hy2⟩ := info_parts fault_info
  obtain ⟨i2, hi2, hx0, hx1, hx2⟩ := info_parts string_info
  have HRAW : Hidden (∀ k : Nat, k < 8 → ∀ W, Below w.heap.size w W → Rd W (A.map (·.add (200 + 11 * k))) (rawR l k)) := ⟨fun k hk W hW => rawR_rd (hrd.below hW) k hk (by omega)⟩
  have HLEN : Hidden (∀ k : Nat, k < 8 → (rawR l k).length = 11) := ⟨fun k hk => rawR_len l k hk (by omega)⟩
  have HLD := Hidden.mk hleads
  have HNR := Hidden.mk hnr
  have HRL := Hidden.mk hrl
  generalize rawR l = S at *
  clear hr hrd hn hleads hnr hrl
  go_enter Tryz.func145, Tryz.ntmps145
  go_wp2_with fail
  go_loopw [4, 5, 11] (fun vf vn i wr => ∃ k : Nat, k ≤ 8 ∧ i = .int .i64 (k : Int) ∧ Below w.heap.size w wr ∧ RSt wr w.heap.size vf vn (faultsR leads S k) (namesL leads S k)) (fun _ _ i _ => 8 - (intOf i).toNat)
  case atStart => exact ⟨0, by omega, rfl, Below.refl _ _, World.ownsRow_nil _ _ _ _, World.ownsRow_nil _ _ _ _⟩
  case round =>
    obtain ⟨k, hk, rfl, hbel, hst⟩ := hrel
    by_cases hlt : k < 8
    · have k0 : (k : Int) < 8 := by omega
      have s1 : IntKind.i64.wrap ((k : Int) + 1) = (k : Int) + 1 := IntWalk.i64_in _ (by omega)
      have hlF := faultsR_len leads S k
      have hlN := namesL_len leads S k
      have HSF := Hidden.mk (faultsR_succ leads S k)
      have HSN := Hidden.mk (namesL_succ leads S k)
      have hrw := HRAW.out k hlt wr hbel
      have hlen := HLEN.out k hlt
      obtain ⟨p, off, hA, hpl⟩ := hrw.lt (by omega)
      rw [hA] at hrw
      have HA := Hidden.mk hA
      clear hA hlen
      go_wp2_with fail
      refine (rawRoot_any A n c (k : Int) _ (by omega) (by omega) (by omega) hnc).mono ?_
      rintro e w1 ⟨rfl, rfl⟩
      rw [rootO_k, HA.out]
      have hal : Below wr.heap.size wr (wr.alloc (.cells #[.slice (some ⟨p, off, none⟩) 11 (c - (200 + 11 * k))] 22)) := (Below.refl _ _).alloc (Nat.le_refl _) _
      have hB2 : Below w.heap.size w (wr.alloc (.cells #[.slice (some ⟨p, off, none⟩) 11 (c - (200 + 11 * k))] 22)) := hbel.alloc hbel.size _
      have hst2 := hst.below hal
      have hrw2 := hrw.below hal
      have hbx : (wr.alloc (.cells #[.slice (some ⟨p, off, none⟩) 11 (c - (200 + 11 * k))] 22)).heap[wr.heap.size]? = some (.cells #[.slice (some ⟨p, off, none⟩) 11 (c - (200 + 11 * k))] 22 (0, 0)) := heap_alloc_new wr _
      go_wp2_with fail
      generalize hcc : c - (200 + 11 * k) = cc at *
      have hc8 : 8 ≤ cc := by omega
      generalize wr.alloc (.cells #[.slice (some ⟨p, off, none⟩) 11 cc] 22) = w2 at *
      generalize wr.heap.size = Bx at *
      clear hst hbel hal hrw hcc hpl
      refine (izero_any _ 11 _ (S k) _ (HLEN.out k hlt) (by simp [maxLen]) hrw2).mono ?_
      rintro e w3 ⟨rfl, rfl⟩
      cases hz : zeroE (S k) with
      | true =>
        have hk0 : kindR leads S k = 0 := by unfold kindR; rw [if_pos hz]
        have e1 : faultsR leads S (k + 1) = faultsR leads S k := by rw [HSF.out, hk0]; simp [fltOf]
        have e2 : namesL leads S (k + 1) = namesL leads S k := by rw [HSN.out, hk0]; simp
        have hst3 : RSt w2 w.heap.size u4 u5 (faultsR leads S (k + 1)) (namesL leads S (k + 1)) := by rw [e1, e2]; exact hst2
        have HST := Hidden.mk hst3
        clear e1 e2 hst3 hst2 hz hk0
        go_wp2_with fail
        go_roundw
        case rel => exact ⟨k + 1, by omega, by go_num, hB2, HST.out⟩
        case measure => simp [intOf]; omega
      | false =>
        have HKIND : Hidden (kindR leads S k = if badR leads (S k) = true then 4 else if (namesL leads S k).any (fun x => nmR (S k) == x) = true then 5 else 6) := ⟨by
          rw [namesL_any]; unfold kindR; rw [hz]; simp⟩
        have FIN4 : Hidden (badR leads (S k) = true → faultsR leads S (k + 1) = faultsR leads S k ++ [⟨4, k⟩] ∧ namesL leads S (k + 1) = namesL leads S k) := ⟨fun hb => ⟨by rw [HSF.out, HKIND.out, if_pos hb]; simp [fltOf], by rw [HSN.out, HKIND.out, if_pos hb]; simp⟩⟩
        have FIN5 : Hidden (badR leads (S k) = false → (namesL leads S k).any (fun x => nmR (S k) == x) = true → faultsR leads S (k + 1) = faultsR leads S k ++ [⟨5, k⟩] ∧ namesL leads S (k + 1) = namesL leads S k) := ⟨fun hb ha => ⟨by rw [HSF.out, HKIND.out, hb, ha]; simp [fltOf], by rw [HSN.out, HKIND.out, hb, ha]; simp⟩⟩
        have FIN6 : Hidden (badR leads (S k) = false → (namesL leads S k).any (fun x => nmR (S k) == x) = false → faultsR leads S (k + 1) = faultsR leads S k ∧ namesL leads S (k + 1) = namesL leads S k ++ [nmR (S k)]) := ⟨fun hb ha => ⟨by rw [HSF.out, HKIND.out, hb, ha]; simp [fltOf], by rw [HSN.out, HKIND.out, hb, ha]; simp⟩⟩
        have y0 : w2.cell? ⟨Bx, 0, none⟩ = some (.slice (some ⟨p, off, none⟩) 11 cc) := by simp [World.cell?, hbx]
        have hltx : Bx < w2.heap.size := (Array.getElem?_eq_some_iff.1 hbx).1
        clear hz HKIND
        go_wp2_with fail
        refine (getName_any (some ⟨p, off, none⟩) cc ((S k).take 8) w2 (by simp [HLEN.out k hlt]) hc8 (hrw2.take 8 (by rw [HLEN.out k hlt]; omega))).mono ?_
        rintro e w3 ⟨he, hb3⟩
        have hB3 := hB2.trans (hb3.mono hB2.size)
        have hst3 := hst2.below hb3
        have hrw3 := hrw2.below hb3
        have hbx3 := (hb3.block Bx hltx).trans hbx
        have hltx3 : Bx < w3.heap.size := (Array.getElem?_eq_some_iff.1 hbx3).1
        have hcf := cfe_leads (fun x => x.1 == (((S k).getD 10 0).toNat : Int)) Ar nr cr L (.pointer (some ⟨Bx, 0, none⟩)) w3 HNR.out (by omega) (RdEs.belowB HRL.out hB3) (fun x _ W hW => leads1_any (S k) (HLEN.out k hlt) Bx p off cc x W (by have := (hW.block Bx hltx3).trans hbx3; simp [World.cell?, this]) (hrw3.below hW))
        rw [HLD.out] at hcf
        have HCF := Hidden.mk hcf
        have HLE := HLEN.out k hlt
        have q8 := hrw3.at_ 8 (by rw [HLE]; omega)
        have q9 := hrw3.at_ 9 (by rw [HLE]; omega)
        have g8 : (S k).getD 8 0 = (S k)[8]'(by rw [HLE]; omega) := by simp [HLE]
        have g9 : (S k).getD 9 0 = (S k)[9]'(by rw [HLE]; omega) := by simp [HLE]
        have z3 : w3.cell? ⟨Bx, 0, none⟩ = some (.slice (some ⟨p, off, none⟩) 11 cc) := by simp [World.cell?, hbx3]
        have HBAD : Hidden (badR leads (S k) = (!gotName ((S k).take 8) || (((S k)[8]'(by rw [HLE]; omega)).toNat : Int) != 0 || (((S k)[9]'(by rw [HLE]; omega)).toNat : Int) != 0 || !leads ((S k).getD 10 0))) := ⟨by
          unfold badR; rw [bv_bne, bv_bne, g8, g9]; rfl⟩
        have q8l := block_lt_of_cell q8
        generalize (S k)[8]'(by rw [HLE]; omega) = x8 at *
        generalize (S k)[9]'(by rw [HLE]; omega) = x9 at *
        generalize hld : leads ((S k).getD 10 0) = ld at *
        clear hB2 hst2 hb3 hbx hltx hrw2 hcf y0 HLE g8 g9 hrw3
        have HW4 : Hidden (∀ w4, Below w3.heap.size w3 w4 → Below w.heap.size w w4 ∧ RSt w4 w.heap.size u4 u5 (faultsR leads S k) (namesL leads S k) ∧ w4.cell? ⟨Bx, 0, none⟩ = some (.slice (some ⟨p, off, none⟩) 11 cc) ∧ w4.cell? ⟨p, off + 8, none⟩ = some (bv x8) ∧ w4.cell? ⟨p, off + 9, none⟩ = some (bv x9)) := ⟨fun w4 hb4 =>
          ⟨hB3.trans (hb4.mono hB3.size), hst3.below hb4, (hb4.cell (p := ⟨Bx, 0, none⟩) hltx3).trans z3, (hb4.cell (p := ⟨p, off + 8, none⟩) q8l).trans q8, (hb4.cell (p := ⟨p, off + 9, none⟩) q8l).trans q9⟩⟩
        clear hB3 hst3 z3 q8 q9 hbx3 hltx3 q8l
        cases hg : gotName ((S k).take 8) with
        | false =>
          rw [hg] at he
          simp only [Bool.false_eq_true, if_false] at he
          subst he
          go_wp2_with fail
          refine HCF.out.mono ?_
          rintro e w4 ⟨rfl, hb4⟩
          obtain ⟨hB4, hst4, z4, q8, q9⟩ := HW4.out w4 hb4
          clear hb4
          have HE := Hidden.mk (FIN4.out (by rw [HBAD.out]; simp [hg]))
          clear hg hld
          go_wp2_with (at_builtin; refine wpList_append_lies _ rfl (.tmp 51) (.tmp 54) _ rfl w.heap.size 130 i1 _ 2 16 Tryz.underlying127 hi1 hy0 hy1 hy2 rfl (by decide) u4 (faultsR leads S k).length ((faultsR leads S k).flatMap fcells) rfl (own_below hst4.f ((Below.refl _ _).alloc (Nat.le_refl _) _)) ⟨w4.heap.size, 0, none⟩ 1 1 [.int .i64 4, .int .i64 (k : Int)] rfl rfl (World.news_of_block (cs := #[.int .i64 4, .int .i64 (k : Int)]) (t := 130) (fr := (0, 0)) (heap_alloc_new w4 _)) (by simp [Value.oneCell']) (by omega) (by simp only [maxLen]; omega) (by omega) (by have := hB4.size; simp; omega) (w4.heap.size + 1) (by simp) ?_; intro gf capf w7 hown7 hg7 hat7 hlt7)
          have hgF := grown_trans' ((Below.refl _ _).alloc (Nat.le_refl _) _) hg7
          have hst7 := hst4.addF (x := ⟨4, k⟩) hgF hown7
          have hB7 : Below w.heap.size w w7 := hB4.grown hgF hB4.size (fun q hq => (hst4.f.lt q hq).1)
          clear hown7 hg7 hat7 hlt7 hgF hst4 hB4
          go_roundw
          case rel => exact ⟨k + 1, by omega, by go_num, hB7, by rw [HE.out.1, HE.out.2]; exact hst7⟩
          case measure => simp [intOf]; omega
        | true =>
          rw [hg] at he
          simp only [if_true] at he
          subst he
          go_wp2_with fail
          refine HCF.out.mono ?_
          rintro e w4 ⟨rfl, hb4⟩
          obtain ⟨hB4, hst4, z4, q8, q9⟩ := HW4.out w4 hb4
          clear hb4
          cases h8 : ((x8.toNat : Int) != 0) with
          | true =>
            have HE := Hidden.mk (FIN4.out (by rw [HBAD.out]; simp [h8]))
            go_wp2_with (at_builtin; refine wpList_append_lies _ rfl (.tmp 51) (.tmp 54) _ rfl w.heap.size 130 i1 _ 2 16 Tryz.underlying127 hi1 hy0 hy1 hy2 rfl (by decide) u4 (faultsR leads S k).length ((faultsR leads S k).flatMap fcells) rfl (own_below hst4.f ((Below.refl _ _).alloc (Nat.le_refl _) _)) ⟨w4.heap.size, 0, none⟩ 1 1 [.int .i64 4, .int .i64 (k : Int)] rfl rfl (World.news_of_block (cs := #[.int .i64 4, .int .i64 (k : Int)]) (t := 130) (fr := (0, 0)) (heap_alloc_new w4 _)) (by simp [Value.oneCell']) (by omega) (by simp only [maxLen]; omega) (by omega) (by have := hB4.size; simp; omega) (w4.heap.size + 1) (by simp) ?_; intro gf capf w7 hown7 hg7 hat7 hlt7)
            have hgF := grown_trans' ((Below.refl _ _).alloc (Nat.le_refl _) _) hg7
            have hst7 := hst4.addF (x := ⟨4, k⟩) hgF hown7
            have hB7 : Below w.heap.size w w7 := hB4.grown hgF hB4.size (fun q hq => (hst4.f.lt q hq).1)
            clear hown7 hg7 hat7 hlt7 hgF hst4 hB4
            go_roundw
            case rel => exact ⟨k + 1, by omega, by go_num, hB7, by rw [HE.out.1, HE.out.2]; exact hst7⟩
            case measure => simp [intOf]; omega
          | false =>
            cases h9 : ((x9.toNat : Int) != 0) with
            | true =>
              have HE := Hidden.mk (FIN4.out (by rw [HBAD.out]; simp [h9]))
              go_wp2_with (at_builtin; refine wpList_append_lies _ rfl (.tmp 51) (.tmp 54) _ rfl w.heap.size 130 i1 _ 2 16 Tryz.underlying127 hi1 hy0 hy1 hy2 rfl (by decide) u4 (faultsR leads S k).length ((faultsR leads S k).flatMap fcells) rfl (own_below hst4.f ((Below.refl _ _).alloc (Nat.le_refl _) _)) ⟨w4.heap.size, 0, none⟩ 1 1 [.int .i64 4, .int .i64 (k : Int)] rfl rfl (World.news_of_block (cs := #[.int .i64 4, .int .i64 (k : Int)]) (t := 130) (fr := (0, 0)) (heap_alloc_new w4 _)) (by simp [Value.oneCell']) (by omega) (by simp only [maxLen]; omega) (by omega) (by have := hB4.size; simp; omega) (w4.heap.size + 1) (by simp) ?_; intro gf capf w7 hown7 hg7 hat7 hlt7)
              have hgF := grown_trans' ((Below.refl _ _).alloc (Nat.le_refl _) _) hg7
              have hst7 := hst4.addF (x := ⟨4, k⟩) hgF hown7
              have hB7 : Below w.heap.size w w7 := hB4.grown hgF hB4.size (fun q hq => (hst4.f.lt q hq).1)
              clear hown7 hg7 hat7 hlt7 hgF hst4 hB4
              go_roundw
              case rel => exact ⟨k + 1, by omega, by go_num, hB7, by rw [HE.out.1, HE.out.2]; exact hst7⟩
              case measure => simp [intOf]; omega
            | false =>
              cases ld with
              | false =>
                have HE := Hidden.mk (FIN4.out (by rw [HBAD.out]; simp []))
                go_wp2_with (at_builtin; refine wpList_append_lies _ rfl (.tmp 51) (.tmp 54) _ rfl w.heap.size 130 i1 _ 2 16 Tryz.underlying127 hi1 hy0 hy1 hy2 rfl (by decide) u4 (faultsR leads S k).length ((faultsR leads S k).flatMap fcells) rfl (own_below hst4.f ((Below.refl _ _).alloc (Nat.le_refl _) _)) ⟨w4.heap.size, 0, none⟩ 1 1 [.int .i64 4, .int .i64 (k : Int)] rfl rfl (World.news_of_block (cs := #[.int .i64 4, .int .i64 (k : Int)]) (t := 130) (fr := (0, 0)) (heap_alloc_new w4 _)) (by simp [Value.oneCell']) (by omega) (by simp only [maxLen]; omega) (by omega) (by have := hB4.size; simp; omega) (w4.heap.size + 1) (by simp) ?_; intro gf capf w7 hown7 hg7 hat7 hlt7)
                have hgF := grown_trans' ((Below.refl _ _).alloc (Nat.le_refl _) _) hg7
                have hst7 := hst4.addF (x := ⟨4, k⟩) hgF hown7
                have hB7 : Below w.heap.size w w7 := hB4.grown hgF hB4.size (fun q hq => (hst4.f.lt q hq).1)
                clear hown7 hg7 hat7 hlt7 hgF hst4 hB4
                go_roundw
                case rel => exact ⟨k + 1, by omega, by go_num, hB7, by rw [HE.out.1, HE.out.2]; exact hst7⟩
                case measure => simp [intOf]; omega
              | true =>
                have HB := Hidden.mk (show badR leads (S k) = false by rw [HBAD.out, hg, h8, h9]; rfl)
                obtain ⟨A4, c4, hv4, hc4, hrd4⟩ := own_rdS hst4.n
                subst hv4
                have hct := containsS_any A4 (namesL leads S k).length c4 (namesL leads S k) (nmR (S k)) w4 rfl (by omega) hrd4
                have HCT := Hidden.mk hct
                clear hct hrd4
                go_wp2_with fail
                refine HCT.out.mono ?_
                rintro e w5 ⟨rfl, rfl⟩
                cases hany : (namesL leads S k).any (fun x => nmR (S k) == x) with
                | true =>
                  have HE := Hidden.mk (FIN5.out HB.out hany)
                  clear hany
                  go_wp2_with (at_builtin; refine wpList_append_lies _ rfl (.tmp 60) (.tmp 63) _ rfl w.heap.size 130 i1 _ 2 16 Tryz.underlying127 hi1 hy0 hy1 hy2 rfl (by decide) u4 (faultsR leads S k).length ((faultsR leads S k).flatMap fcells) rfl (own_below hst4.f ((Below.refl _ _).alloc (Nat.le_refl _) _)) ⟨w4.heap.size, 0, none⟩ 1 1 [.int .i64 5, .int .i64 (k : Int)] rfl rfl (World.news_of_block (cs := #[.int .i64 5, .int .i64 (k : Int)]) (t := 130) (fr := (0, 0)) (heap_alloc_new w4 _)) (by simp [Value.oneCell']) (by omega) (by simp only [maxLen]; omega) (by omega) (by have := hB4.size; simp; omega) (w4.heap.size + 1) (by simp) ?_; intro gf capf w7 hown7 hg7 hat7 hlt7)
                  have hgF := grown_trans' ((Below.refl _ _).alloc (Nat.le_refl _) _) hg7
                  have hst7 := hst4.addF (x := ⟨5, k⟩) hgF hown7
                  have hB7 : Below w.heap.size w w7 := hB4.grown hgF hB4.size (fun q hq => (hst4.f.lt q hq).1)
                  clear hown7 hg7 hat7 hlt7 hgF hst4 hB4
                  go_roundw
                  case rel => exact ⟨k + 1, by omega, by go_num, hB7, by rw [HE.out.1, HE.out.2]; exact hst7⟩
                  case measure => simp [intOf]; omega
                | false =>
                  have HE := Hidden.mk (FIN6.out HB.out hany)
                  clear hany
                  go_wp2_with (at_builtin; refine wpList_append_lies _ rfl (.tmp 28) (.tmp 30) _ rfl w.heap.size 9 i2 _ 1 16 Tryz.underlying169 hi2 hx0 hx1 hx2 rfl (by decide) (.slice A4 (namesL leads S k).length c4) (namesL leads S k).length ((namesL leads S k).map fun x => sv x) rfl (own_below hst4.n ((Below.refl _ _).alloc (Nat.le_refl _) _)) ⟨w4.heap.size, 0, none⟩ 1 1 [sv (nmR (S k))] rfl rfl (World.news_of_block (cs := #[sv (nmR (S k))]) (t := 9) (fr := (0, 0)) (heap_alloc_new w4 _)) (by simp [Value.oneCell']) (by omega) (by simp only [maxLen]; omega) (by omega) (by have := hB4.size; simp; omega) (w4.heap.size + 1) (by simp) ?_; intro gf capf w7 hown7 hg7 hat7 hlt7)
                  have hgF := grown_trans' ((Below.refl _ _).alloc (Nat.le_refl _) _) hg7
                  have hst7 := hst4.addN (x := nmR (S k)) hgF hown7
                  have hB7 : Below w.heap.size w w7 := hB4.grown hgF hB4.size (fun q hq => (hst4.n.lt q hq).1)
                  clear hown7 hg7 hat7 hlt7 hgF hst4 hB4
                  go_roundw
                  case rel => exact ⟨k + 1, by omega, by go_num, hB7, by rw [HE.out.1, HE.out.2]; exact hst7⟩
                  case measure => simp [intOf]; omega
    · obtain rfl : k = 8 := by omega
      go_wp2_with fail
      go_ret
      exact ⟨u4, rfl, hst.f, hbel⟩
end Go.Proofs.YtijcclpnkfmpnaaGreat
/- append of whatever slice onto one of the call's own; clear of a part of a row of bytes. -/
namespace Go.Proofs.YtijcclpnkfmpnaaGreat
open Go.RowKit

/-- the slice that begins at A has these cells, each element of so many -/
structure Src (w : World) (size : Nat) (A : Option Addr) (m : Nat) (news : List Value) : Prop where
  len : news.length = m * size
  cells : ∀ j u, news[j]? = some u → ∃ ad, A = some ad ∧ w.cell? (ad.add j) = some u
theorem Src.of_own {w : World} {base e size n : Nat} {v : Value} {xs : List Value} (h : w.ownsRow base e size v n xs) : ∃ A c, v = .slice A n c ∧ n ≤ c ∧ Src w size A n xs := by
  rcases h.2 with ⟨rfl, rfl⟩ | ⟨g, cap, cur, rfl, _, hh, hc, hm, hz, ht⟩
  · have hx : xs = [] := List.eq_nil_of_length_eq_zero (by have := h.1; simpa using this)
    subst hx
    exact ⟨none, 0, rfl, Nat.le_refl _, by simp, fun j u hu => by simp at hu⟩
  · exact ⟨_, cap, rfl, hc, h.1, fun j u hu => ⟨_, rfl, h.cells (g := g) rfl j u hu⟩⟩
theorem Src.below {w w' : World} {size : Nat} {A : Option Addr} {m : Nat} {news : List Value} (h : Src w size A m news) (hb : Below w.heap.size w w') : Src w' size A m news :=
  ⟨h.len, fun j u hu => by
    obtain ⟨ad, hA, hc⟩ := h.cells j u hu
    exact ⟨ad, hA, (hb.cell (p := ad.add j) (World.block_lt_of_cell? w _ hc)).trans hc⟩⟩
theorem Src.of_rd {w : World} {A : Option Addr} {l : Bytes} (h : Rd w A l) : Src w 1 A l.length (l.map bv) :=
  ⟨by simp, fun j u hu => by
    have hj : j < l.length := by
      have := (List.getElem?_eq_some_iff.1 hu).1
      simpa using this
    obtain ⟨b, off, rfl, hc⟩ := h j hj
    refine ⟨_, rfl, ?_⟩
    rw [Addr.add_lit, hc, ← hu]
    simp [hj]⟩
section
variable {P : Program}
theorem run_append_src (w : World) (base : Nat) (t ty e : TypeId) (i : TypeInfo) (z : Value) (size bytes : Nat) (ht : P.underlying t = some (.slice e)) (hi : P.info? e = some i) (hz : i.zero = some z)
    (hsize : i.size = size) (hby : i.bytes = bytes) (hzs : z.cells.size = size) (hsz : 0 < size)
    (v : Value) (n : Nat) (xs : List Value) (hown : w.ownsRow base e size v n xs) (A : Option Addr) (m c : Nat) (news : List Value) (hr : Src w size A m news) (h1 : ∀ u ∈ news, u.oneCell' = true)
    (h63 : n + m ≤ maxLen) (hbytes : (n + m) * bytes ≤ 140737488355328) (hbase : base ≤ w.heap.size) :
    ∃ v' w', (Builtin.append_ #[t, t] ty #[v, .slice A m c]).run P w = .ok v' w' ∧ w'.ownsRow base e size v' (n + m) (xs ++ news) ∧ w.grownBy w' v.ownBlock ∧ (v'.ownBlock = v.ownBlock ∨ v'.ownBlock = some w.heap.size) := by
  rcases A with _ | ad
  · have hx : news = [] := by
      cases news with
      | nil => rfl
      | cons u r => obtain ⟨ad, h, _⟩ := hr.cells 0 u (by simp); cases h
    subst hx
    have hm : m = 0 := by
      have h2 := hr.len
      rcases Nat.eq_zero_or_pos m with h0 | h0
      · exact h0
      · have := Nat.mul_pos h0 hsz
        simp only [List.length_nil] at h2
        omega
    subst hm
    refine ⟨v, w, ?_, by simpa using hown, World.grownBy.refl w _, .inl rfl⟩
    rcases hown.2 with ⟨rfl, rfl⟩ | ⟨g, cap, cur, rfl, _, _, hnc, _⟩
    · simp [Builtin.append_, run_underlying ht, sizeOf, typeInfo, hi, Builtin.lenOf, Builtin.firstCells]
    · simp [Builtin.append_, run_underlying ht, sizeOf, typeInfo, hi, Builtin.lenOf, Builtin.firstCells, hnc, storeCells]
  · have hcells : ∀ j u, news[j]? = some u → w.cell? (ad.add j) = some u := fun j u hu => by
      obtain ⟨ad', h, hc⟩ := hr.cells j u hu
      injection h with h
      subst h
      exact hc
    obtain ⟨v', w', hrun, h2, h3, _, h5⟩ := run_append_own_at (P := P) w base t ty e i z size bytes ht hi hz hsize hby hzs hsz v n xs hown ad m c news hr.len hcells h1 h63 hbytes hbase
    exact ⟨v', w', hrun, h2, h3, h5⟩
theorem wp_append_src (w : World) {o : Oper} {a : Act} {K : Act → World → Prop} {Q : Exit → Act → World → Prop} (s x : Operand) (t : TypeId)
    (ho : o.op = .call { callee := .builtin .append, args := #[s, x], argTypes := #[t, t] })
    (base : Nat) (e : TypeId) (i : TypeInfo) (z : Value) (size bytes : Nat) (ht : P.underlying t = some (.slice e)) (hi : P.info? e = some i) (hz : i.zero = some z)
    (hsize : i.size = size) (hby : i.bytes = bytes) (hzs : z.cells.size = size) (hsz : 0 < size)
    (v : Value) (n : Nat) (xs : List Value) (hs : a.eval s = v) (hown : w.ownsRow base e size v n xs) (A : Option Addr) (m c : Nat) (news : List Value) (hx : a.eval x = .slice A m c) (hr : Src w size A m news) (h1 : ∀ u ∈ news, u.oneCell' = true)
    (h63 : n + m ≤ maxLen) (hbytes : (n + m) * bytes ≤ 140737488355328) (hbase : base ≤ w.heap.size)
    (h : ∀ v' w', w'.ownsRow base e size v' (n + m) (xs ++ news) → w.grownBy w' v.ownBlock → (v'.ownBlock = v.ownBlock ∨ v'.ownBlock = some w.heap.size) → K (a.put o.dst v') w') : o.wp P a w K Q := by
  obtain ⟨v', w', hrun, h2, h3, h4⟩ := run_append_src (P := P) w base t o.type e i z size bytes ht hi hz hsize hby hzs hsz v n xs hown A m c news hr h1 h63 hbytes hbase
  unfold Oper.wp execOp
  simp only [ho, resolve, invoke, builtin, Sem.run_bind, Sem.run_pure, Result.andThen_ok, List.map_toArray, List.map_cons, List.map_nil, hs, hx, hrun]
  exact h v' w' h2 h3 h4
theorem wpList_append_src (w : World) {ops : Array Oper} {rest : List Oper} {o : Oper} {a : Act} {Q : Exit → Act → World → Prop} (hgd : o.guard = none) (s x : Operand) (t : TypeId)
    (ho : o.op = .call { callee := .builtin .append, args := #[s, x], argTypes := #[t, t] })
    (base : Nat) (e : TypeId) (i : TypeInfo) (z : Value) (size bytes : Nat) (ht : P.underlying t = some (.slice e)) (hi : P.info? e = some i) (hz : i.zero = some z)
    (hsize : i.size = size) (hby : i.bytes = bytes) (hzs : z.cells.size = size) (hsz : 0 < size)
    (v : Value) (n : Nat) (xs : List Value) (hs : a.eval s = v) (hown : w.ownsRow base e size v n xs) (A : Option Addr) (m c : Nat) (news : List Value) (hx : a.eval x = .slice A m c) (hr : Src w size A m news) (h1 : ∀ u ∈ news, u.oneCell' = true)
    (h63 : n + m ≤ maxLen) (hbytes : (n + m) * bytes ≤ 140737488355328) (hbase : base ≤ w.heap.size)
    (h : ∀ v' w', w'.ownsRow base e size v' (n + m) (xs ++ news) → w.grownBy w' v.ownBlock → (v'.ownBlock = v.ownBlock ∨ v'.ownBlock = some w.heap.size) → wpList P ops Q rest (a.put o.dst v') w') : wpList P ops Q (o :: rest) a w :=
  wpList_plain hgd fun _ hK => wp_append_src w s x t ho base e i z size bytes ht hi hz hsize hby hzs hsz v n xs hs hown A m c news hx hr h1 h63 hbytes hbase fun v' w' h2 h3 h4 => hK _ _ (h v' w' h2 h3 h4)
theorem step_append_src (w : World) {ops : Array Oper} {o : Oper} {a : Act} {K : Act → World → Prop} {Q : Exit → Act → World → Prop} {E : Prop} (hgd : o.guard = none) (s x : Operand) (t : TypeId)
    (ho : o.op = .call { callee := .builtin .append, args := #[s, x], argTypes := #[t, t] })
    (base : Nat) (e : TypeId) (i : TypeInfo) (z : Value) (size bytes : Nat) (ht : P.underlying t = some (.slice e)) (hi : P.info? e = some i) (hz : i.zero = some z)
    (hsize : i.size = size) (hby : i.bytes = bytes) (hzs : z.cells.size = size) (hsz : 0 < size)
    (v : Value) (n : Nat) (xs : List Value) (hs : a.eval s = v) (hown : w.ownsRow base e size v n xs) (A : Option Addr) (m c : Nat) (news : List Value) (hx : a.eval x = .slice A m c) (hr : Src w size A m news) (h1 : ∀ u ∈ news, u.oneCell' = true)
    (h63 : n + m ≤ maxLen) (hbytes : (n + m) * bytes ≤ 140737488355328) (hbase : base ≤ w.heap.size)
    (h : ∀ v' w', w'.ownsRow base e size v' (n + m) (xs ++ news) → w.grownBy w' v.ownBlock → (v'.ownBlock = v.ownBlock ∨ v'.ownBlock = some w.heap.size) → K (a.put o.dst v') w') :
    if Region.wanted o (yielded ops a.tmps) = true then Oper.wp P o a w K Q else E := by
  have hw : Region.wanted o (yielded ops a.tmps) = true := by simp [Region.wanted, hgd]
  rw [if_pos hw]
  exact wp_append_src w s x t ho base e i z size bytes ht hi hz hsize hby hzs hsz v n xs hs hown A m c news hx hr h1 h63 hbytes hbase h
end

/-- n zeros -/
theorem zeros_bv (n : Nat) : (List.replicate n (0 : UInt8)).map bv = List.replicate n (.int .u8 0) := by simp
theorem zero_byte (w : World) : (zeroValue 5).run Tryz.prog w = .ok (.int .u8 0) w := by kernel_rfl
theorem run_clear_row (w : World) (g o n c : Nat) (cur : Array Value) (T : Nat) (hg : w.heap[g]? = some (.cells cur T (0, 0))) (hn : 0 < n) (hfit : o + n ≤ cur.size) (ty : TypeId) :
    (Builtin.clear_ #[22] ty #[.slice (some ⟨g, o, none⟩) n c]).run Tryz.prog w = .ok (.tuple #[]) (w.setRow g (setB cur o ((List.replicate n (0 : UInt8)).map bv))) := by
  have hst := run_storeCells_at Tryz.prog g o T (List.replicate n (.int .u8 0)) 0 cur w hg (by simp; omega) (by intro v hv; rw [List.eq_of_mem_replicate hv]; rfl)
  have hzc : (Builtin.zeroCells (Value.int IntKind.u8 0).cells n).toList = List.replicate n (.int .u8 0) := by
    rw [show (Value.int IntKind.u8 0).cells = #[Value.int IntKind.u8 0] from rfl]
    simp [Builtin.zeroCells]
    apply List.ext_getElem
    · simp
    · intro i h1 h2; simp [Nat.mod_one]
  rw [zeros_bv]
  obtain ⟨m, rfl⟩ : ∃ m, n = m + 1 := ⟨n - 1, by omega⟩
  simp only [Nat.add_zero] at hst
  have hv := zero_byte
  simp [Builtin.clear_, run_underlying Tryz.underlying22, hv, hzc, hst, setB, splice]
theorem grownBy_setRow (w : World) (g : Nat) (x : Array Value) : w.grownBy (w.setRow g x) (some g) := by
  refine ⟨rfl, rfl, rfl, ?_, fun k hk hne => ?_⟩
  · exact (below_setRow (B := g) (Below.refl _ w) (Nat.le_refl _) x).size
  · have hkg : k ≠ g := fun e => hne (by rw [e])
    rcases Nat.lt_or_gt_of_ne hkg with h | h
    · exact (below_setRow (B := g) (Below.refl _ w) (Nat.le_refl _) x).block k h
    · simp [World.setRow, Array.getElem?_modify, hkg.symm]
/-- s[i:k], s[i:] of bytes, wherever they lie -/
theorem run_cutA (A : Option Addr) (n c i k : Nat) (hik : i ≤ k) (hkc : k ≤ c) (W : World) :
    (Instr.sliceAt 22 (.slice A n c) (some (.int .i64 i)) (some (.int .i64 k)) none).run Tryz.prog W = .ok (.slice (if c = i then A else A.map (·.add i)) (k - i) (c - i)) W := by
  obtain ⟨i0, hi0, hz0, hz1, hz2⟩ := info_parts byte_info
  simp [Instr.sliceAt, Instr.slice, Instr.sliceBounds, Instr.sliceBound, run_underlying Tryz.underlying22, asIntOf, sizeOf, typeInfo, hi0, hz1, hik, hkc]
theorem run_tailA (A : Option Addr) (n c i : Nat) (hin : i ≤ n) (W : World) :
    (Instr.sliceAt 22 (.slice A n c) (some (.int .i64 i)) none none).run Tryz.prog W = .ok (.slice (if c = i then A else A.map (·.add i)) (n - i) (c - i)) W := by
  obtain ⟨i0, hi0, hz0, hz1, hz2⟩ := info_parts byte_info
  simp [Instr.sliceAt, Instr.slice, Instr.sliceBounds, Instr.sliceBound, run_underlying Tryz.underlying22, asIntOf, sizeOf, typeInfo, hi0, hz1, hin]
theorem run_headA (A : Option Addr) (n c k : Nat) (hkc : k ≤ c) (W : World) :
    (Instr.sliceAt 22 (.slice A n c) none (some (.int .i64 k)) none).run Tryz.prog W = .ok (.slice A k c) W := by
  obtain ⟨i0, hi0, hz0, hz1, hz2⟩ := info_parts byte_info
  cases A <;> simp [Instr.sliceAt, Instr.slice, Instr.sliceBounds, Instr.sliceBound, run_underlying Tryz.underlying22, asIntOf, sizeOf, typeInfo, hi0, hkc, Addr.add]
end Go.Proofs.YtijcclpnkfmpnaaGreat
/- The contract of check.Check. -/
namespace Go.Proofs.YtijcclpnkfmpnaaGreat
open Go.RowKit

theorem flt_one (F : List Flt) : ∀ u ∈ F.flatMap fcells, u.oneCell' = true := by
  intro u hu
  obtain ⟨f, _, h⟩ := List.mem_flatMap.1 hu
  simp only [fcells, List.mem_cons, List.not_mem_nil, or_false] at h
  rcases h with rfl | rfl <;> rfl
theorem right_leads (n : Nat) (R : Nat → Bytes) (x : UInt8) : ((rightL n R 40).any fun e => e.1 == (x.toNat : Int)) = leadsE n R x := by
  unfold rightL entsL leadsE
  rw [List.any_map, List.any_filter]
  congr 1
  funext k
  simp only [Function.comp]
  congr 1
  rw [Bool.eq_iff_iff]; simp; omega
theorem check_no (A : Option Addr) (n c : Nat) (w : World) (hr : rightB n = false) :
    Calls Tryz.prog 117 #[.slice A n c] w fun e w' => e = .returned (.tuple #[.slice none 0 0, .iface 76 (.int .i64 3)]) ∧ w = w' := by
  go_enter Tryz.func117, Tryz.ntmps117
  go_wp2_with fail
  refine (right_any _ _).mono ?_
  rintro e w1 ⟨rfl, rfl⟩
  rw [hr]
  go_wp2_with fail
  go_ret2
  exact ⟨rfl, rfl⟩
set_option maxRecDepth 100000 in
theorem check_yes (A : Option Addr) (n c : Nat) (l : Bytes) (w : World) (hn : l.length = n) (hr : rightB n = true) (hnc : n ≤ c) (hrd : Rd w A l) :
    Calls Tryz.prog 117 #[.slice A n c] w fun e w' => ∃ v, e = .returned (.tuple #[v, .nilIface]) ∧ w'.ownsRow w.heap.size 130 2 v (checkL l).length ((checkL l).flatMap fcells) ∧ Below w.heap.size w w' := by
  obtain ⟨i1, hi1, hy0, hy1, hy2⟩ := info_parts fault_info
  have hlF := faultsH_len n (rawE l) 40
  have hlR : (rightL n (rawE l) 40).length ≤ 40 := entsL_len _ _ 40
  have hlG := faultsR_len (leadsE n (rawE l)) (rawR l) 8
  have HCL : Hidden (checkL l = faultsH n (rawE l) 40 ++ faultsR (leadsE n (rawE l)) (rawR l) 8) := ⟨by unfold checkL; rw [hn]⟩
  go_enter Tryz.func117, Tryz.ntmps117
  go_wp2_with fail
  refine (right_any _ _).mono ?_
  rintro e w1 ⟨rfl, rfl⟩
  rw [hr]
  go_wp2_with fail
  refine (handles_ok A n c l _ hn hr hnc hrd).mono ?_
  rintro e w1 ⟨vf, vr, vw, rfl, hst, hb1⟩
  obtain ⟨Ar, cr, rfl, hcr, hre⟩ := own_rdEs hst.r
  go_wp2_with fail
  refine (roots_ok A Ar n c _ cr l (rightL n (rawE l) 40) (leadsE n (rawE l)) _ hn hr hnc (hrd.below hb1) rfl (by omega) hre (right_leads n (rawE l))).mono ?_
  rintro e w2 ⟨vg, rfl, hg2, hb2⟩
  have hf2 := own_below hst.f hb2
  obtain ⟨Ag, cg, rfl, hcg, hsrc⟩ := Src.of_own hg2
  have hB2 := hb1.trans (hb2.mono hb1.size)
  generalize faultsH n (rawE l) 40 = FH at *
  generalize faultsR (leadsE n (rawE l)) (rawR l) 8 = FR at *
  have HS := Hidden.mk hsrc
  have HF2 := Hidden.mk hf2
  clear hst hre hg2 hsrc hf2 hb1 hb2 hn hr hrd
  go_wp2_with (at_builtin; refine wpList_append_src _ rfl (.tmp 16) (.tmp 19) _ rfl w.heap.size 130 i1 _ 2 16 Tryz.underlying127 hi1 hy0 hy1 hy2 rfl (by decide) vf FH.length (FH.flatMap fcells) rfl HF2.out Ag FR.length cg (FR.flatMap fcells) rfl HS.out (flt_one _) (by simp only [maxLen]; omega) (by omega) hB2.size ?_; intro v7 w7 hown7 hg7 hat7)
  have hB7 : Below w.heap.size w w7 := hB2.grown hg7 hB2.size (fun q hq => (HF2.out.lt q hq).1)
  go_ret2
  refine ⟨_, rfl, ?_, hB7⟩
  rw [HCL.out]
  simpa using hown7
end Go.Proofs.YtijcclpnkfmpnaaGreat
/- The contract of check.Mend. -/
namespace Go.Proofs.YtijcclpnkfmpnaaGreat
open Go.RowKit

/-- the slice at A has the faults L -/
def RdFs (w : World) (A : Option Addr) (L : List Flt) : Prop := ∀ i (h : i < L.length), ∃ g off, A = some ⟨g, off, none⟩ ∧ w.cell? ⟨g, off + i * 2, none⟩ = some (.int .i64 L[i].what) ∧ w.cell? ⟨g, off + i * 2 + 1, none⟩ = some (.int .i64 L[i].which)
theorem RdFs.below {w w' : World} {A : Option Addr} {L : List Flt} (h : RdFs w A L) (hb : Below w.heap.size w w') : RdFs w' A L := fun i hi => by
  obtain ⟨g, off, hA, c0, c1⟩ := h i hi
  exact ⟨g, off, hA, (hb.cell (block_lt_of_cell c0)).trans c0, (hb.cell (block_lt_of_cell c1)).trans c1⟩
theorem fcells_at (L : List Flt) (q : Nat) (hq : q < 2) : ∀ i (h : i < L.length), (L.flatMap fcells)[i * 2 + q]? = (fcells L[i])[q]? := by
  induction L with
  | nil => intro i h; simp at h
  | cons x L ih =>
    intro i h
    rw [List.flatMap_cons]
    have hl : (fcells x).length = 2 := rfl
    cases i with
    | zero => rw [List.getElem?_append_left (by omega)]; simp
    | succ i =>
      rw [List.getElem?_append_right (by omega), hl, show (i + 1) * 2 + q - 2 = i * 2 + q from by omega, ih i (by simpa using h)]
      simp
theorem own_rdFs {w : World} {base : Nat} {v : Value} {L : List Flt} (h : w.ownsRow base 130 2 v L.length (L.flatMap fcells)) : ∃ A c, v = .slice A L.length c ∧ L.length ≤ c ∧ RdFs w A L := by
  rcases h.2 with ⟨rfl, h0⟩ | ⟨g, cap, cur, rfl, _, hh, hc, hm, hz, ht⟩
  · exact ⟨none, 0, by rw [h0], by omega, fun i hi => by omega⟩
  · refine ⟨_, cap, rfl, hc, fun i hi => ?_⟩
    have hcell : ∀ q u, q < 2 → (fcells L[i])[q]? = some u → w.cell? ⟨g, 0 + (i * 2 + q), none⟩ = some u := fun q u hq hu => by
      have := h.cells (g := g) rfl (i * 2 + q) u (by rw [fcells_at L q hq i hi]; exact hu)
      rw [Addr.add_lit] at this
      exact this
    refine ⟨g, 0, rfl, ?_, ?_⟩
    · exact hcell 0 _ (by omega) rfl
    · exact (Nat.add_assoc 0 (i * 2) 1) ▸ hcell 1 _ (by omega) rfl
theorem own_rdFs' {w : World} {base c : Nat} {A : Option Addr} {L : List Flt} (h : w.ownsRow base 130 2 (.slice A L.length c) L.length (L.flatMap fcells)) : RdFs w A L := by
  obtain ⟨A', c', hv, _, hr⟩ := own_rdFs h
  injection hv with hv
  subst hv
  exact hr
theorem flt_range {l : Bytes} {f : Flt} (h : f ∈ checkL l) : ((f.what = 4 ∨ f.what = 5) ∧ f.which < 8) ∨ (f.what ≠ 4 ∧ f.what ≠ 5 ∧ 1 ≤ f.which ∧ f.which ≤ 40) := by
  rcases mem_checkL.1 h with ⟨k, hk, hn, rfl⟩ | ⟨i, hi, hn, rfl⟩
  · have := kindH_cases l.length (rawE l) k
    right; simp only; omega
  · have := kindR_cases (leadsE l.length (rawE l)) (rawR l) i
    left; simp only; omega
theorem clearAll_snoc (l : Bytes) (F : List Flt) (j : Nat) (hj : j < F.length) : clearAll l (F.take (j + 1)) = clearF (clearAll l (F.take j)) F[j] := by
  rw [List.take_succ_eq_append_getElem hj]
  unfold clearAll
  rw [List.foldl_append]
  rfl
theorem checkL_len (l : Bytes) : (checkL l).length ≤ 48 := by
  unfold checkL
  have h1 := faultsH_len l.length (rawE l) 40
  have h2 := faultsR_len (leadsE l.length (rawE l)) (rawR l) 8
  rw [List.length_append]; omega
/-- the round of Mend's inner loop, told -/
structure MSt (w wr : World) (g cap b1 : Nat) (vf : Value) (l : Bytes) (F : List Flt) : Prop where
  bel : Below w.heap.size w wr
  row : Row wr 5 g cap l
  own : wr.ownsRow b1 130 2 vf F.length (F.flatMap fcells)
  lt : g < b1
  le : w.heap.size ≤ g
theorem MSt.alloc {w wr : World} {g cap b1 : Nat} {vf : Value} {l : Bytes} {F : List Flt} (h : MSt w wr g cap b1 vf l F) (o : Obj) : MSt w (wr.alloc o) g cap b1 vf l F :=
  ⟨h.bel.alloc h.bel.size o, h.row.below ((Below.refl _ wr).alloc (Nat.le_refl _) o) h.row.lt, h.own.alloc o, h.lt, h.le⟩
theorem MSt.clear {w wr : World} {g cap b1 : Nat} {vf : Value} {l : Bytes} {F : List Flt} (h : MSt w wr g cap b1 vf l F) (o n : Nat) (hn : 0 < n) (hin : o + n ≤ l.length) :
    ∃ w', (∀ c ty, (Builtin.clear_ #[22] ty #[.slice (some ⟨g, o, none⟩) n c]).run Tryz.prog wr = .ok (.tuple #[]) w') ∧ MSt w w' g cap b1 vf (splice l o (List.replicate n 0)) F := by
  obtain ⟨cur, hcur, hc1, _, hcs, _⟩ := id h.row
  refine ⟨wr.setRow g (setB cur o ((List.replicate n (0 : UInt8)).map bv)), fun c ty => run_clear_row wr g o n c cur _ hcur hn (by omega) ty, below_setRow h.bel h.le _, h.row.set_ o _ (by simpa using hin) cur hcur, ?_, h.lt, h.le⟩
  exact h.own.kept (grownBy_setRow wr g _) (.inr fun e => by have := (h.own.lt _ e).1; have := h.lt; omega)
end Go.Proofs.YtijcclpnkfmpnaaGreat
/- The contracts of image.Entries, Roots and Drop, and of image.Get where there is none. -/
namespace Go.Proofs.YtijcclpnkfmpnaaGreat
open Go.RowKit

/-- the entries of an image -/
def entriesL (l : Bytes) : List (Int × Bytes) := entsL (fun k => hasE (rawE l k)) (rawE l) 40
theorem ientries_no (A : Option Addr) (n c : Nat) (w : World) (hr : rightB n = false) :
    Calls Tryz.prog 120 #[.slice A n c] w fun e w' => e = .returned (.tuple #[.slice none 0 0, .iface 76 (.int .i64 3)]) ∧ w = w' := by
  go_enter Tryz.func120, Tryz.ntmps120
  go_wp2_with fail
  refine (check_e3 A n c 1 _ hr).mono ?_
  rintro e w1 ⟨rfl, rfl⟩
  go_wp2_with fail
  go_ret2
  exact ⟨rfl, rfl⟩
set_option maxRecDepth 100000 in
theorem ientries_ok (A : Option Addr) (n c : Nat) (l : Bytes) (w : World) (hn : l.length = n) (hr : rightB n = true) (hnc : n ≤ c) (hrd : Rd w A l) :
    Calls Tryz.prog 120 #[.slice A n c] w fun e w' => ∃ v, e = .returned (.tuple #[v, .nilIface]) ∧ w'.ownsRow w.heap.size 85 4 v (entriesL l).length ((entriesL l).flatMap ecells) ∧ Below w.heap.size w w' := by
  have hnb := rightB_true.1 hr
  obtain ⟨i2, hi2, hx0, hx1, hx2⟩ := info_parts entry_info
  have HF : Hidden (∀ k : Nat, k < 40 → ∀ W, Below w.heap.size w W → Calls Tryz.prog 78 #[.slice A n c, .int .i64 ((k : Int) + 1)] W fun e w' => e = .returned (.tuple #[entV ((k : Int) + 1) (rAt (rawE l k)) (rLen (rawE l k)) (rTag (rawE l k)), .bool (hasE (rawE l k))]) ∧ Below W.heap.size W w') :=
    ⟨fun k hk W hW => find_ok A n c l k W hn (by omega) hnc (hrd.below hW) hk⟩
  have HL : Hidden (entriesL l = entsL (fun k => hasE (rawE l k)) (rawE l) 40) := ⟨rfl⟩
  generalize rawE l = R at *
  clear hrd hn
  go_enter Tryz.func120, Tryz.ntmps120
  go_wp2_with fail
  refine (check_ok A n c 1 _ hr (by decide)).mono ?_
  rintro e w1 ⟨rfl, rfl⟩
  go_wp2_with fail
  go_loopg [5, 6] 40 (fun m v h wr => ∃ k : Nat, k ≤ 40 ∧ m = 40 - k ∧ h = .int .i64 ((k : Int) + 1) ∧ Below w.heap.size w wr ∧ wr.ownsRow w.heap.size 85 4 v (entsL (fun k => hasE (R k)) R k).length ((entsL (fun k => hasE (R k)) R k).flatMap ecells))
  case atStart => exact ⟨0, by omega, rfl, rfl, Below.refl _ _, World.ownsRow_nil _ _ _ _⟩
  case round =>
    obtain ⟨k, hk, rfl, rfl, hbel, hown⟩ := hrel
    by_cases hlt : k < 40
    · have k0 : ((k : Int) + 1) ≤ 40 := by omega
      have s1 : IntKind.i64.wrap ((k : Int) + 1 + 1) = (k : Int) + 1 + 1 := IntWalk.i64_in _ (by omega)
      have hll := entsL_len (fun k => hasE (R k)) R k
      have HS := Hidden.mk (entsL_succ (fun k => hasE (R k)) R k)
      have HG := Hidden.mk (HF.out k hlt wr hbel)
      have HC : Hidden (ecells (((k : Int) + 1), R k) = [.int .i64 ((k : Int) + 1), .int .i64 (rAt (R k)), .int .i64 (rLen (R k)), .int .i64 (rTag (R k))]) := ⟨rfl⟩
      generalize entsL (fun k => hasE (R k)) R k = L at *
      go_wp2_with fail
      refine HG.out.mono ?_
      rintro e w1 ⟨rfl, hb1⟩
      generalize (rAt (R k) : Int) = a1 at *
      generalize (rLen (R k) : Int) = a2 at *
      generalize rTag (R k) = a3 at *
      have hB1 := hbel.trans (hb1.mono hbel.size)
      have hown1 := own_below hown hb1
      have hal : Below w1.heap.size w1 (w1.alloc (.cells #[.int .i64 ((k : Int) + 1), .int .i64 a1, .int .i64 a2, .int .i64 a3] 85)) := (Below.refl _ _).alloc (Nat.le_refl _) _
      have hB2 : Below w.heap.size w (w1.alloc (.cells #[.int .i64 ((k : Int) + 1), .int .i64 a1, .int .i64 a2, .int .i64 a3] 85)) := hB1.alloc hB1.size _
      have hown2 := own_below hown1 hal
      have hbx : (w1.alloc (.cells #[.int .i64 ((k : Int) + 1), .int .i64 a1, .int .i64 a2, .int .i64 a3] 85)).heap[w1.heap.size]? = some (.cells #[.int .i64 ((k : Int) + 1), .int .i64 a1, .int .i64 a2, .int .i64 a3] 85 (0, 0)) := heap_alloc_new w1 _
      clear hal hown hown1 hbel hB1 hb1
      cases hE : hasE (R k) with
      | false =>
        rw [hE] at HS
        go_wp2_with fail
        generalize w1.alloc (.cells #[.int .i64 ((k : Int) + 1), .int .i64 a1, .int .i64 a2, .int .i64 a3] 85) = w2 at *
        go_roundg (40 - (k + 1))
        case measure => omega
        case rel => exact ⟨k + 1, by omega, rfl, by go_num, hB2, by rw [HS.out]; simpa using hown2⟩
      | true =>
        rw [hE] at HS
        clear hE hbx
        have hnb : ((w1.alloc (.cells #[.int .i64 ((k : Int) + 1), .int .i64 a1, .int .i64 a2, .int .i64 a3] 85)).alloc (.cells #[.int .i64 ((k : Int) + 1), .int .i64 a1, .int .i64 a2, .int .i64 a3] 85)).heap[w1.heap.size + 1]? = some (.cells #[.int .i64 ((k : Int) + 1), .int .i64 a1, .int .i64 a2, .int .i64 a3] 85) := by
          have := heap_alloc_new (w1.alloc (.cells #[.int .i64 ((k : Int) + 1), .int .i64 a1, .int .i64 a2, .int .i64 a3] 85)) (.cells #[.int .i64 ((k : Int) + 1), .int .i64 a1, .int .i64 a2, .int .i64 a3] 85)
          rwa [World.size_alloc] at this
        have HNB := Hidden.mk hnb
        have HOW := Hidden.mk hown2
        have HBB := Hidden.mk hB2
        clear hnb hown2 hB2
        go_wp2_with (at_builtin; refine wpList_append_lies _ rfl (.tmp 25) (.tmp 27) _ rfl w.heap.size 85 i2 _ 4 32 Tryz.underlying136 hi2 hx0 hx1 hx2 rfl (by decide) u5 L.length (L.flatMap ecells) rfl (own_below HOW.out ((Below.refl _ _).alloc (Nat.le_refl _) _)) ⟨w1.heap.size + 1, 0, none⟩ 1 1 [.int .i64 ((k : Int) + 1), .int .i64 a1, .int .i64 a2, .int .i64 a3] rfl rfl (World.news_of_block (cs := #[.int .i64 ((k : Int) + 1), .int .i64 a1, .int .i64 a2, .int .i64 a3]) (t := 85) (fr := (0, 0)) HNB.out) (by simp [Value.oneCell']) (by omega) (by simp only [maxLen]; omega) (by omega) (by have := HBB.out.size; simp at this ⊢; omega) (w1.heap.size + 2) (by simp) ?_; intro g8 cap8 w8 hown8 hg8 hat8 hlt8)
        have hown2 := HOW.out
        have hB2 := HBB.out
        have hgW := grown_trans' ((Below.refl _ _).alloc (Nat.le_refl _) _) hg8
        have hB8 : Below w.heap.size w w8 := hB2.grown hgW hB2.size (fun q hq => (hown2.lt q hq).1)
        clear hown2 hB2 hg8 hgW hat8 hlt8
        go_roundg (40 - (k + 1))
        case measure => omega
        case rel => exact ⟨k + 1, by omega, rfl, by go_num, hB8, by rw [HS.out]; simpa [HC.out] using hown8⟩
    · obtain rfl : k = 40 := by omega
      go_wp2_with fail
      go_ret2
      exact ⟨_, rfl, by rw [HL.out]; exact hown, hbel⟩

/-- a root: its name, its handle -/
def rootP (r : Bytes) : Bytes × Nat := (if gotName (r.take 8) = true then nmR r else [], (r.getD 10 0).toNat)
def rootsF (S : Nat → Bytes) (m : Nat) : List (Bytes × Nat) := ((List.range m).filter fun i => !zeroE (S i)).map fun i => rootP (S i)
def rootsL (l : Bytes) : List (Bytes × Nat) := rootsF (rawR l) 8
theorem rootsF_succ (S : Nat → Bytes) (m : Nat) : rootsF S (m + 1) = rootsF S m ++ (if zeroE (S m) = true then [] else [rootP (S m)]) := by
  unfold rootsF
  rw [List.range_succ, List.filter_append, List.map_append]
  congr 1
  cases h : zeroE (S m) <;> simp [h]
theorem rootsF_len (S : Nat → Bytes) (m : Nat) : (rootsF S m).length ≤ m := by
  unfold rootsF
  rw [List.length_map]
  have := List.length_filter_le (fun i => !zeroE (S i)) (List.range m)
  rwa [List.length_range] at this
def rcells (x : Bytes × Nat) : List Value := [sv x.1, .int .i64 x.2]
theorem root_info : (Tryz.prog.info? 99).map (fun i => (i.zero, i.size, i.bytes)) = some (some (.agg #[.string ByteArray.empty, .int .i64 0]), 2, 24) := by kernel_rfl
theorem iroots_no (A : Option Addr) (n c : Nat) (w : World) (hr : rightB n = false) :
    Calls Tryz.prog 85 #[.slice A n c] w fun e w' => e = .returned (.tuple #[.slice none 0 0, .iface 76 (.int .i64 3)]) ∧ w = w' := by
  go_enter Tryz.func85, Tryz.ntmps85
  go_wp2_with fail
  refine (check_e3 A n c 1 _ hr).mono ?_
  rintro e w1 ⟨rfl, rfl⟩
  go_wp2_with fail
  go_ret2
  exact ⟨rfl, rfl⟩
set_option maxRecDepth 100000 in
theorem iroots_ok (A : Option Addr) (n c : Nat) (l : Bytes) (w : World) (hn : l.length = n) (hr : rightB n = true) (hnc : n ≤ c) (hrd : Rd w A l) :
    Calls Tryz.prog 85 #[.slice A n c] w fun e w' => ∃ v, e = .returned (.tuple #[v, .nilIface]) ∧ w'.ownsRow w.heap.size 99 2 v (rootsL l).length ((rootsL l).flatMap rcells) ∧ Below w.heap.size w w' := by
  have hnb := rightB_true.1 hr
  obtain ⟨i2, hi2, hx0, hx1, hx2⟩ := info_parts root_info
  have HRAW : Hidden (∀ k : Nat, k < 8 → ∀ W, Below w.heap.size w W → Rd W (A.map (·.add (200 + 11 * k))) (rawR l k)) := ⟨fun k hk W hW => rawR_rd (hrd.below hW) k hk (by omega)⟩
  have HLEN : Hidden (∀ k : Nat, k < 8 → (rawR l k).length = 11) := ⟨fun k hk => rawR_len l k hk (by omega)⟩
  have HL : Hidden (rootsL l = rootsF (rawR l) 8) := ⟨rfl⟩
  generalize rawR l = S at *
  clear hrd hn
  go_enter Tryz.func85, Tryz.ntmps85
  go_wp2_with fail
  refine (check_ok A n c 1 _ hr (by decide)).mono ?_
  rintro e w1 ⟨rfl, rfl⟩
  go_wp2_with fail
  go_loopg [5, 15] 8 (fun m v i wr => ∃ k : Nat, k ≤ 8 ∧ m = 8 - k ∧ i = .int .i64 (k : Int) ∧ Below w.heap.size w wr ∧ wr.ownsRow w.heap.size 99 2 v (rootsF S k).length ((rootsF S k).flatMap rcells))
  case atStart => exact ⟨0, by omega, rfl, rfl, Below.refl _ _, World.ownsRow_nil _ _ _ _⟩
  case round =>
    obtain ⟨k, hk, rfl, rfl, hbel, hown⟩ := hrel
    by_cases hlt : k < 8
    · have k0 : (k : Int) < 8 := by omega
      have s1 : IntKind.i64.wrap ((k : Int) + 1) = (k : Int) + 1 := IntWalk.i64_in _ (by omega)
      have hll := rootsF_len S k
      have HS := Hidden.mk (rootsF_succ S k)
      have hrw := HRAW.out k hlt wr hbel
      have hlen := HLEN.out k hlt
      obtain ⟨p, off, hA, hpl⟩ := hrw.lt (by omega)
      rw [hA] at hrw
      have HA := Hidden.mk hA
      have q10 := hrw.at_ 10 (by omega)
      have g10 : (S k).getD 10 0 = (S k)[10]'(by omega) := by simp [hlen]
      have HP : Hidden (rootP (S k) = (if gotName ((S k).take 8) = true then nmR (S k) else [], ((S k)[10]'(by omega)).toNat)) := ⟨by unfold rootP; rw [g10]⟩
      have HLK := Hidden.mk hlen
      generalize (S k)[10]'(by omega) = x10 at *
      generalize rootsF S k = L at *
      have w10 : IntKind.i64.wrap (x10.toNat : Int) = (x10.toNat : Int) := IntWalk.i64_in _ (by have := u8_lt x10; omega)
      generalize hcc : c - (200 + 11 * k) = cc at *
      have hc8 : 8 ≤ cc := by omega
      have HCC := Hidden.mk hcc
      clear hA g10 hcc hlen
      go_wp2_with fail
      refine (rawRoot_any A n c (k : Int) _ (by omega) (by omega) (by omega) hnc).mono ?_
      rintro e w1 ⟨rfl, rfl⟩
      rw [rootO_k, HA.out, HCC.out]
      go_wp2_with fail
      refine (izero_any _ 11 _ (S k) _ HLK.out (by simp [maxLen]) hrw).mono ?_
      rintro e w1 ⟨rfl, rfl⟩
      cases hz : zeroE (S k) with
      | true =>
        rw [hz] at HS
        clear hz q10
        go_wp2_with fail
        go_roundg (8 - (k + 1))
        case measure => omega
        case rel => exact ⟨k + 1, by omega, rfl, by go_num, hbel, by rw [HS.out]; simpa using hown⟩
      | false =>
        rw [hz] at HS
        clear hz
        go_wp2_with fail
        refine (getName_any (some ⟨p, off, none⟩) cc ((S k).take 8) _ (by simp [HLK.out]) hc8 (hrw.take 8 (by rw [HLK.out]; omega))).mono ?_
        rintro e w3 ⟨he, hb3⟩
        have hB3 := hbel.trans (hb3.mono hbel.size)
        have hown3 := own_below hown hb3
        have z10 := (hb3.cell (p := ⟨p, off + 10, none⟩) hpl).trans q10
        clear hb3 hbel hown q10 hpl hrw
        cases hg : gotName ((S k).take 8)
        all_goals
          rw [hg] at he HP
          first | simp only [Bool.false_eq_true, if_false] at he | simp only [if_true] at he
          subst he
          have HG := Hidden.mk hg
          clear hg
        case false =>
          go_wp2_with (at_builtin; refine wpList_append_lies _ rfl (.tmp 29) (.tmp 36) _ rfl w.heap.size 99 i2 _ 2 24 Tryz.underlying97 hi2 hx0 hx1 hx2 rfl (by decide) u5 L.length (L.flatMap rcells) rfl (own_below hown3 ((Below.refl _ _).alloc (Nat.le_refl _) _)) ⟨w3.heap.size, 0, none⟩ 1 1 [sv [], .int .i64 x10.toNat] rfl rfl (World.news_of_block (cs := #[sv [], .int .i64 x10.toNat]) (t := 99) (fr := (0, 0)) (heap_alloc_new w3 _)) (by simp [Value.oneCell']) (by omega) (by simp only [maxLen]; omega) (by omega) (by have := hB3.size; simp; omega) (w3.heap.size + 1) (by simp) ?_; intro g8 cap8 w8 hown8 hg8 hat8 hlt8)
          have hgW := grown_trans' ((Below.refl _ _).alloc (Nat.le_refl _) _) hg8
          have hB8 : Below w.heap.size w w8 := hB3.grown hgW hB3.size (fun q hq => (hown3.lt q hq).1)
          have hpp := HP.out
          simp only [Bool.false_eq_true, if_false] at hpp
          have HPP := Hidden.mk hpp
          clear hown3 hB3 hg8 hgW hat8 hlt8 hpp
          go_roundg (8 - (k + 1))
          case measure => omega
          case rel => exact ⟨k + 1, by omega, rfl, by go_num, hB8, by rw [HS.out, HPP.out]; simpa [rcells] using hown8⟩
        case true =>
          have hpp := HP.out
          simp only [if_true] at hpp
          have HPP := Hidden.mk hpp
          have HNM : Hidden (nmR (S k) = nameAt ((S k).take 8)) := ⟨rfl⟩
          generalize nameAt ((S k).take 8) = nm at *
          clear hpp
          go_wp2_with (at_builtin; refine wpList_append_lies _ rfl (.tmp 29) (.tmp 36) _ rfl w.heap.size 99 i2 _ 2 24 Tryz.underlying97 hi2 hx0 hx1 hx2 rfl (by decide) u5 L.length (L.flatMap rcells) rfl (own_below hown3 ((Below.refl _ _).alloc (Nat.le_refl _) _)) ⟨w3.heap.size, 0, none⟩ 1 1 [sv nm, .int .i64 x10.toNat] rfl rfl (World.news_of_block (cs := #[sv nm, .int .i64 x10.toNat]) (t := 99) (fr := (0, 0)) (heap_alloc_new w3 _)) (by simp [Value.oneCell']) (by omega) (by simp only [maxLen]; omega) (by omega) (by have := hB3.size; simp; omega) (w3.heap.size + 1) (by simp) ?_; intro g8 cap8 w8 hown8 hg8 hat8 hlt8)
          have hgW := grown_trans' ((Below.refl _ _).alloc (Nat.le_refl _) _) hg8
          have hB8 : Below w.heap.size w w8 := hB3.grown hgW hB3.size (fun q hq => (hown3.lt q hq).1)
          clear hown3 hB3 hg8 hgW hat8 hlt8
          go_roundg (8 - (k + 1))
          case measure => omega
          case rel => exact ⟨k + 1, by omega, rfl, by go_num, hB8, by rw [HS.out, HPP.out, HNM.out]; simpa [rcells] using hown8⟩
    · obtain rfl : k = 8 := by omega
      go_wp2_with fail
      go_ret2
      exact ⟨_, rfl, by rw [HL.out]; exact hown, hbel⟩

/-- image.Get where the image, or the handle, is none -/
theorem iget_e3 (A : Option Addr) (n c : Nat) (h : Int) (w : World) (hr : rightB n = false) :
    Calls Tryz.prog 42 #[.slice A n c, .int .i64 h] w fun e w' => e = .returned (.tuple #[entV 0 0 0 0, .iface 76 (.int .i64 3)]) ∧ Below w.heap.size w w' := by
  have hW : Below w.heap.size w (w.alloc (.cells #[.int .i64 0, .int .i64 0, .int .i64 0, .int .i64 0] 85)) := (Below.refl _ _).alloc (Nat.le_refl _) _
  go_enter Tryz.func42, Tryz.ntmps42
  go_wp2_with fail
  refine (check_e3 A n c h _ hr).mono ?_
  rintro e w1 ⟨rfl, rfl⟩
  go_wp2_with fail
  refine bodyPost_ret (v := .tuple #[entV 0 0 0 0, .iface 76 (.int .i64 3)]) ?_ rfl ?_
  · rw [results_cell_tmp rfl]
    go_simp
  · exact ⟨rfl, hW⟩
theorem iget_e1 (A : Option Addr) (n c : Nat) (h : Int) (w : World) (hr : rightB n = true) (hh : handleB h = false) :
    Calls Tryz.prog 42 #[.slice A n c, .int .i64 h] w fun e w' => e = .returned (.tuple #[entV 0 0 0 0, .iface 76 (.int .i64 1)]) ∧ Below w.heap.size w w' := by
  have hW : Below w.heap.size w (w.alloc (.cells #[.int .i64 0, .int .i64 0, .int .i64 0, .int .i64 0] 85)) := (Below.refl _ _).alloc (Nat.le_refl _) _
  go_enter Tryz.func42, Tryz.ntmps42
  go_wp2_with fail
  refine (check_e1 A n c h _ hr hh).mono ?_
  rintro e w1 ⟨rfl, rfl⟩
  go_wp2_with fail
  refine bodyPost_ret (v := .tuple #[entV 0 0 0 0, .iface 76 (.int .i64 1)]) ?_ rfl ?_
  · rw [results_cell_tmp rfl]
    go_simp
  · exact ⟨rfl, hW⟩
end Go.Proofs.YtijcclpnkfmpnaaGreat
/- The contract of image.Drop; what puts leave of an image, in plain words. -/
namespace Go.Proofs.YtijcclpnkfmpnaaGreat
open Go.RowKit

set_option maxRecDepth 100000 in
theorem idrop_ok (A : Option Addr) (n c : Nat) (l : Bytes) (k : Nat) (w : World) (hn : l.length = n) (hr : rightB n = true) (hnc : n ≤ c) (hrd : Rd w A l) (hk : k < 40) (hE : hasE (rawE l k) = true) :
    Calls Tryz.prog 47 #[.slice A n c, .int .i64 ((k : Int) + 1)] w fun e w' => ∃ g cap, e = .returned (.tuple #[.slice (some ⟨g, 0, none⟩) n cap, .nilIface]) ∧ w.heap.size ≤ g ∧ Row w' 5 g cap (splice l (5 * k) (List.replicate 5 0)) ∧ Below w.heap.size w w' := by
  have hnb := rightB_true.1 hr
  have HG := Hidden.mk ((iget_ok A n c l k w hn hr hnc hrd hk).mono fun _ _ h => (⟨h.1 hE, h.2.2⟩ : _ ∧ _))
  unfold entR entV at HG
  generalize (rAt (rawE l k) : Int) = a1 at *
  generalize (rLen (rawE l k) : Int) = a2 at *
  generalize rTag (rawE l k) = a3 at *
  clear hE
  obtain ⟨p, off, rfl, hpl⟩ := hrd.lt (by omega)
  go_enter Tryz.func47, Tryz.ntmps47
  go_wp2_with fail
  refine HG.out.mono ?_
  rintro e w1 ⟨rfl, hb1⟩
  have hB2 : Below w.heap.size w (w1.alloc (.cells #[.int .i64 ((k : Int) + 1), .int .i64 a1, .int .i64 a2, .int .i64 a3] 85)) := hb1.alloc hb1.size _
  clear hb1
  go_wp2_with fail
  generalize w1.alloc (.cells #[.int .i64 ((k : Int) + 1), .int .i64 a1, .int .i64 a2, .int .i64 a3] 85) = w2 at *
  refine (clone_some _ n c l _ hn (by omega) (hrd.below hB2)).mono ?_
  rintro e w3 ⟨g, cap, rfl, hg, hrow, hb3⟩
  have hB3 := hB2.trans (hb3.mono hB2.size)
  have hgw : w.heap.size ≤ g := Nat.le_trans hB2.size hg
  have hlc := hrow.le.1
  clear hg hb3 hB2
  go_wp2_with fail
  refine (raw_any (some ⟨g, 0, none⟩) n cap ((k : Int) + 1) _ (by omega) (by omega) (by omega) (by omega)).mono ?_
  rintro e w4 ⟨rfl, rfl⟩
  rw [entO_k]
  simp only [Option.map_some, Addr.add_lit, Nat.zero_add]
  obtain ⟨cur, hcur, _, _, hcs, _⟩ := id hrow
  have hclear := fun c' ty => run_clear_row w3 g (5 * k) 5 c' cur _ hcur (by omega) (by omega) ty
  have hrow5 := hrow.set_ (5 * k) (List.replicate 5 0) (by simp; omega) cur hcur
  have hB5 : Below w.heap.size w (w3.setRow g (setB cur (5 * k) ((List.replicate 5 (0 : UInt8)).map bv))) := below_setRow hB3 hgw _
  have H5 := Hidden.mk (And.intro hrow5 hB5)
  clear hrow hrow5 hB5 hB3 hcur hcs hlc
  generalize w3.setRow g (setB cur (5 * k) ((List.replicate 5 (0 : UInt8)).map bv)) = w5 at *
  go_wp2_with (simp only [hclear])
  go_ret2
  exact ⟨g, cap, rfl, hgw, H5.out.1, H5.out.2⟩
theorem splice_get_ (l x : Bytes) (o p : Nat) (h : o + x.length ≤ l.length) : (splice l o x)[p]? = if o ≤ p ∧ p < o + x.length then x[p - o]? else l[p]? := splice_at l x o p h
theorem rawE_splice (l x : Bytes) (k j : Nat) (hx : x.length = 5) (hk : k < 40) (_hj : j < 40) (hl : 200 ≤ l.length) : rawE (splice l (5 * k) x) j = if j = k then x else rawE l j := by
  apply List.ext_getElem?
  intro q
  unfold rawE
  rw [List.getElem?_take, List.getElem?_drop, splice_at _ _ _ _ (by omega)]
  by_cases hq : q < 5
  · rw [if_pos hq]
    by_cases hjk : j = k
    · subst hjk
      rw [if_pos (by omega), if_pos rfl]
      congr 1; omega
    · rw [if_neg (by omega), if_neg hjk, List.getElem?_take, if_pos hq, List.getElem?_drop]
  · rw [if_neg hq]
    by_cases hjk : j = k
    · rw [if_pos hjk, List.getElem?_eq_none (by omega)]
    · rw [if_neg hjk, List.getElem?_take, if_neg hq]
theorem rawR_splice (l x : Bytes) (i j : Nat) (hx : x.length = 11) (hi : i < 8) (_hj : j < 8) (hl : 288 ≤ l.length) : rawR (splice l (200 + 11 * i) x) j = if j = i then x else rawR l j := by
  apply List.ext_getElem?
  intro q
  unfold rawR
  rw [List.getElem?_take, List.getElem?_drop, splice_at _ _ _ _ (by omega)]
  by_cases hq : q < 11
  · rw [if_pos hq]
    by_cases hji : j = i
    · subst hji
      rw [if_pos (by omega), if_pos rfl]
      congr 1; omega
    · rw [if_neg (by omega), if_neg hji, List.getElem?_take, if_pos hq, List.getElem?_drop]
  · rw [if_neg hq]
    by_cases hji : j = i
    · rw [if_pos hji, List.getElem?_eq_none (by omega)]
    · rw [if_neg hji, List.getElem?_take, if_neg hq]
theorem rawR_head (l x : Bytes) (o j : Nat) (hx : o + x.length ≤ 200) (hl : 200 ≤ l.length) : rawR (splice l o x) j = rawR l j := by
  apply List.ext_getElem?
  intro q
  unfold rawR
  rw [List.getElem?_take, List.getElem?_drop, List.getElem?_take, List.getElem?_drop]
  by_cases hq : q < 11
  · rw [if_pos hq, if_pos hq, splice_at _ _ _ _ (by omega), if_neg (by omega)]
  · rw [if_neg hq, if_neg hq]
theorem ofB_two (n : Nat) (h : n < 65536) : ofB (numB n 2) = n := by
  have h1 := ofNat_mod n
  have h2 := ofNat_mod (n / 256)
  simp only [numB, ofB, h1, h2]
  omega
theorem entB_rd (a b t : Nat) (ha : a < 65536) (hb : b < 65536) (ht : t ≤ 15) : hasE (entB a b t) = true ∧ rAt (entB a b t) = a ∧ rLen (entB a b t) = b ∧ rTag (entB a b t) = t := by
  have hd : (UInt8.ofNat (t + 1)).toNat = t + 1 := by rw [UInt8.toNat_ofNat', Nat.mod_eq_of_lt (by omega)]
  have h2 : (numB a 2).length = 2 := numB_length a 2
  have h3 : (numB b 2).length = 2 := numB_length b 2
  refine ⟨?_, ?_, ?_, ?_⟩
  · unfold hasE rHd entB
    simp only [List.headD_cons]
    rw [bne_iff_ne]
    intro e
    rw [e] at hd
    simp at hd
  · unfold rAt entB
    rw [List.drop_one, List.tail_cons, List.take_append_of_le_length (by omega), List.take_of_length_le (by omega), ofB_two a ha]
  · unfold rLen entB
    rw [List.drop_succ_cons, List.drop_append, List.drop_of_length_le (by omega), h2, List.nil_append, List.drop_zero, List.take_of_length_le (by omega), ofB_two b hb]
  · unfold rTag rHd entB
    simp only [List.headD_cons]
    omega
/-- an image in which the roots from i on are none -/
def NoRoots (l : Bytes) (i : Nat) : Prop := ∀ j, i ≤ j → j < 8 → rawR l j = List.replicate 11 0
theorem rootsF_zeros (S : Nat → Bytes) (i : Nat) (h : ∀ j, i ≤ j → j < 8 → S j = List.replicate 11 0) : ∀ m, i ≤ m → m ≤ 8 → rootsF S m = rootsF S i
  | 0, h0, _ => by rw [show i = 0 by omega]
  | m + 1, h0, h8 => by
    by_cases hm : i = m + 1
    · rw [hm]
    · rw [rootsF_succ, h m (by omega) (by omega), zeros_zero, rootsF_zeros S i h m (by omega) (by omega)]
      simp
theorem rootsF_congr (S S' : Nat → Bytes) : ∀ m, (∀ j, j < m → S j = S' j) → rootsF S m = rootsF S' m
  | 0, _ => rfl
  | m + 1, h => by rw [rootsF_succ, rootsF_succ, h m (by omega), rootsF_congr S S' m (fun j hj => h j (by omega))]
theorem roots_put (l X : Bytes) (i : Nat) (hX : X.length = 11) (hi : i < 8) (hl : 288 ≤ l.length) (hz : NoRoots l i) :
    rootsL (splice l (200 + 11 * i) X) = rootsL l ++ (if zeroE X = true then [] else [rootP X]) ∧ NoRoots (splice l (200 + 11 * i) X) (i + 1) := by
  have hS : ∀ j, j < 8 → rawR (splice l (200 + 11 * i) X) j = if j = i then X else rawR l j := fun j hj => rawR_splice l X i j hX hi hj hl
  refine ⟨?_, fun j h1 h2 => by rw [hS j h2, if_neg (by omega)]; exact hz j (by omega) h2⟩
  unfold rootsL
  rw [rootsF_zeros (rawR l) i hz 8 (by omega) (by omega), rootsF_zeros (rawR (splice l (200 + 11 * i) X)) (i + 1) (fun j h1 h2 => by rw [hS j h2, if_neg (by omega)]; exact hz j (by omega) h2) 8 (by omega) (by omega),
    rootsF_succ, hS i hi, if_pos rfl, rootsF_congr (rawR (splice l (200 + 11 * i) X)) (rawR l) i (fun j hj => by rw [hS j (by omega), if_neg (by omega)])]
theorem idrop_e (A : Option Addr) (n c : Nat) (h k : Int) (w : World) (hget : Calls Tryz.prog 42 #[.slice A n c, .int .i64 h] w fun e w' => e = .returned (.tuple #[entV 0 0 0 0, .iface 76 (.int .i64 k)]) ∧ Below w.heap.size w w') :
    Calls Tryz.prog 47 #[.slice A n c, .int .i64 h] w fun e w' => e = .returned (.tuple #[.slice none 0 0, .iface 76 (.int .i64 k)]) ∧ Below w.heap.size w w' := by
  have HG := Hidden.mk hget
  unfold entV at HG
  clear hget
  go_enter Tryz.func47, Tryz.ntmps47
  go_wp2_with fail
  refine HG.out.mono ?_
  rintro e w1 ⟨rfl, hb1⟩
  have hB2 : Below w.heap.size w (w1.alloc (.cells #[.int .i64 0, .int .i64 0, .int .i64 0, .int .i64 0] 85)) := hb1.alloc hb1.size _
  clear hb1
  go_wp2_with fail
  go_ret2
  exact ⟨rfl, hB2⟩
end Go.Proofs.YtijcclpnkfmpnaaGreat
/- An image that is right, plainly: its handles, its roots; what stays right. No walk here. -/
namespace Go.Proofs.YtijcclpnkfmpnaaGreat
open Go.RowKit

/-- which handles have an object -/
def leadsS (R : Nat → Bytes) (x : UInt8) : Bool := (List.range 40).any fun k => hasE (R k) && x.toNat == k + 1
/-- an image of n bytes that is right: R its handles, S its roots -/
structure GoodS (n : Nat) (R S : Nat → Bytes) : Prop where
  none : ∀ k, k < 40 → hasE (R k) = false → zeroE (R k) = true
  fit : ∀ k, k < 40 → hasE (R k) = true → strayE n (R k) = false
  apart : ∀ k, k < 40 → ∀ j, j < k → hasE (R k) = true → hasE (R j) = true → overE (R k) (R j) = false
  root : ∀ i, i < 8 → zeroE (S i) = false → badR (leadsS R) (S i) = false
  name : ∀ i, i < 8 → ∀ j, j < i → zeroE (S i) = false → zeroE (S j) = false → nmR (S i) ≠ nmR (S j)
structure Good (l : Bytes) : Prop where
  len : rightB l.length = true
  chk : checkL l = []
theorem checkL_nil {l : Bytes} : checkL l = [] ↔ (∀ k, k < 40 → kindH l.length (rawE l) k = 0 ∨ kindH l.length (rawE l) k = 6) ∧ (∀ i, i < 8 → kindR (leadsE l.length (rawE l)) (rawR l) i = 0 ∨ kindR (leadsE l.length (rawE l)) (rawR l) i = 6) := by
  constructor
  · intro h
    have hn : ∀ f, f ∉ checkL l := fun f hf => by rw [h] at hf; cases hf
    refine ⟨fun k hk => ?_, fun i hi => ?_⟩
    · exact Classical.byContradiction fun hc => hn _ (mem_checkL.2 (.inl ⟨k, hk, hc, rfl⟩))
    · exact Classical.byContradiction fun hc => hn _ (mem_checkL.2 (.inr ⟨i, hi, hc, rfl⟩))
  · rintro ⟨h1, h2⟩
    refine List.eq_nil_iff_forall_not_mem.2 fun f hf => ?_
    rcases mem_checkL.1 hf with ⟨k, hk, hn, _⟩ | ⟨i, hi, hn, _⟩
    · exact hn (h1 k hk)
    · exact hn (h2 i hi)
theorem overE_symm (r s : Bytes) : overE r s = overE s r := by unfold overE; rw [Bool.and_comm]
theorem kindH_has {n : Nat} {R : Nat → Bytes} {k : Nat} (h : kindH n R k = 0 ∨ kindH n R k = 6) : (hasE (R k) = true → kindH n R k = 6 ∧ strayE n (R k) = false ∧ (List.range k).any (fun j => wholeE n (R j) && overE (R k) (R j)) = false) ∧ (hasE (R k) = false → kindH n R k = 0 ∧ zeroE (R k) = true) := by
  unfold kindH at h ⊢
  constructor
  · intro hh
    rw [if_pos hh] at h ⊢
    cases hs : strayE n (R k) with
    | true => rw [hs] at h; simp at h
    | false =>
      rw [hs] at h
      cases ha : (List.range k).any (fun j => wholeE n (R j) && overE (R k) (R j)) with
      | true => rw [ha] at h; simp at h
      | false => simp
  · intro hh
    rw [if_neg (by rw [hh]; decide)] at h ⊢
    cases hz : zeroE (R k) with
    | true => simp
    | false => rw [hz] at h; simp at h
theorem leads_eq {n : Nat} {R : Nat → Bytes} (h : ∀ k, k < 40 → (kindH n R k = 6 ↔ hasE (R k) = true)) : leadsE n R = leadsS R := by
  funext x
  unfold leadsE leadsS
  have : ∀ k ∈ List.range 40, (kindH n R k == 6 && x.toNat == k + 1) = (hasE (R k) && x.toNat == k + 1) := fun k hk => by
    have := h k (List.mem_range.1 hk)
    congr 1
    rw [Bool.eq_iff_iff, beq_iff_eq]
    exact this
  rw [Bool.eq_iff_iff, List.any_eq_true, List.any_eq_true]
  constructor
  · rintro ⟨k, hk, h⟩; exact ⟨k, hk, (this k hk) ▸ h⟩
  · rintro ⟨k, hk, h⟩; exact ⟨k, hk, (this k hk).symm ▸ h⟩
theorem kinds_good {n : Nat} {R S : Nat → Bytes} : ((∀ k, k < 40 → kindH n R k = 0 ∨ kindH n R k = 6) ∧ (∀ i, i < 8 → kindR (leadsE n R) S i = 0 ∨ kindR (leadsE n R) S i = 6)) ↔ GoodS n R S := by
  constructor
  · rintro ⟨hH, hR⟩
    have hle : leadsE n R = leadsS R := leads_eq fun k hk => by
      have := kindH_has (hH k hk)
      constructor
      · intro h6
        cases hh : hasE (R k) with
        | true => rfl
        | false => have := (this.2 hh).1; omega
      · intro hh; exact (this.1 hh).1
    rw [hle] at hR
    have hr : ∀ i, i < 8 → zeroE (S i) = false → badR (leadsS R) (S i) = false ∧ (List.range i).any (fun j => okR (leadsS R) (S j) && (nmR (S i) == nmR (S j))) = false := fun i hi hz => by
      have h := hR i hi
      unfold kindR at h
      rw [if_neg (by rw [hz]; decide)] at h
      cases hb : badR (leadsS R) (S i) with
      | true => rw [hb] at h; simp at h
      | false =>
        rw [hb] at h
        cases ha : (List.range i).any (fun j => okR (leadsS R) (S j) && (nmR (S i) == nmR (S j))) with
        | true => rw [ha] at h; simp at h
        | false => simp
    refine ⟨fun k hk hh => ((kindH_has (hH k hk)).2 hh).2, fun k hk hh => ((kindH_has (hH k hk)).1 hh).2.1, fun k hk j hj hh hh' => ?_, fun i hi hz => (hr i hi hz).1, fun i hi j hj hz hz' => ?_⟩
    · have h1 := ((kindH_has (hH k hk)).1 hh).2.2
      have h2 := ((kindH_has (hH j (by omega))).1 hh').2.1
      rw [List.any_eq_false] at h1
      have h3 := h1 j (List.mem_range.2 hj)
      unfold wholeE at h3
      rw [hh', h2] at h3
      simpa using h3
    · have h1 := (hr i hi hz).2
      have h2 := (hr j (by omega) hz').1
      rw [List.any_eq_false] at h1
      have h3 := h1 j (List.mem_range.2 hj)
      unfold okR at h3
      rw [hz', h2] at h3
      simpa using h3
  · intro g
    have hH : ∀ k, k < 40 → (hasE (R k) = true → kindH n R k = 6) ∧ (hasE (R k) = false → kindH n R k = 0) := fun k hk => by
      unfold kindH
      constructor
      · intro hh
        rw [if_pos hh, if_neg (by rw [g.fit k hk hh]; decide), if_neg]
        rw [Bool.not_eq_true, List.any_eq_false]
        intro j hj
        have hj := List.mem_range.1 hj
        cases hh' : hasE (R j) with
        | false => simp [wholeE, hh']
        | true => rw [g.apart k hk j hj hh hh']; simp
      · intro hh
        rw [if_neg (by rw [hh]; decide), if_pos (g.none k hk hh)]
    have hle : leadsE n R = leadsS R := leads_eq fun k hk => by
      constructor
      · intro h6
        cases hh : hasE (R k) with
        | true => rfl
        | false => have := (hH k hk).2 hh; omega
      · intro hh; exact (hH k hk).1 hh
    rw [hle]
    refine ⟨fun k hk => ?_, fun i hi => ?_⟩
    · cases hh : hasE (R k) with
      | true => exact .inr ((hH k hk).1 hh)
      | false => exact .inl ((hH k hk).2 hh)
    · unfold kindR
      cases hz : zeroE (S i) with
      | true => left; simp
      | false =>
        right
        rw [if_neg (by decide), if_neg (by rw [g.root i hi hz]; decide), if_neg]
        rw [Bool.not_eq_true, List.any_eq_false]
        intro j hj
        have hj := List.mem_range.1 hj
        cases hz' : zeroE (S j) with
        | true => simp [okR, hz']
        | false =>
          have := g.name i hi j hj hz hz'
          simp [this]
theorem good_iff {l : Bytes} : Good l ↔ rightB l.length = true ∧ GoodS l.length (rawE l) (rawR l) := by
  constructor
  · rintro ⟨h1, h2⟩; exact ⟨h1, kinds_good.1 (checkL_nil.1 h2)⟩
  · rintro ⟨h1, h2⟩; exact ⟨h1, checkL_nil.2 (kinds_good.2 h2)⟩
theorem Good.s {l : Bytes} (h : Good l) : GoodS l.length (rawE l) (rawR l) := (good_iff.1 h).2
theorem Good.bd {l : Bytes} (h : Good l) : 288 ≤ l.length ∧ l.length ≤ 6400 := by have := rightB_true.1 h.len; omega
section
variable {n : Nat} {R R' S S' : Nat → Bytes}
theorem leadsS_iff {x : UInt8} : leadsS R x = true ↔ ∃ k, k < 40 ∧ hasE (R k) = true ∧ x.toNat = k + 1 := by
  unfold leadsS
  rw [List.any_eq_true]
  simp only [List.mem_range, Bool.and_eq_true, beq_iff_eq]
theorem badR_mono {L L' : UInt8 → Bool} {r : Bytes} (h : badR L r = false) (hm : L (r.getD 10 0) = true → L' (r.getD 10 0) = true) : badR L' r = false := by
  unfold badR at h ⊢
  simp only [Bool.or_eq_false_iff, Bool.not_eq_false'] at h ⊢
  exact ⟨h.1, hm h.2⟩
theorem badR_lead {L : UInt8 → Bool} {r : Bytes} (h : badR L r = false) : L (r.getD 10 0) = true := by
  unfold badR at h
  simp only [Bool.or_eq_false_iff, Bool.not_eq_false'] at h
  exact h.2
/-- an entry that is put -/
theorem GoodS.putE (g : GoodS n R S) (k : Nat) (hk : k < 40) (r : Bytes) (h' : ∀ j, j < 40 → R' j = if j = k then r else R j) (hr : hasE r = true) (hs : strayE n r = false) (ho : ∀ j, j < 40 → j ≠ k → hasE (R j) = true → overE r (R j) = false) : GoodS n R' S where
  none j hj hh := by
    rw [h' j hj] at hh ⊢
    by_cases e : j = k
    · rw [if_pos e, hr] at hh; cases hh
    · rw [if_neg e] at hh ⊢; exact g.none j hj hh
  fit j hj hh := by
    rw [h' j hj] at hh ⊢
    by_cases e : j = k
    · rw [if_pos e]; exact hs
    · rw [if_neg e] at hh ⊢; exact g.fit j hj hh
  apart i hi j hj hh hh' := by
    rw [h' i hi] at hh ⊢
    rw [h' j (by omega)] at hh' ⊢
    by_cases e : i = k
    · rw [if_pos e, if_neg (by omega)]
      rw [if_neg (by omega)] at hh'
      exact ho j (by omega) (by omega) hh'
    · rw [if_neg e] at hh ⊢
      by_cases e' : j = k
      · rw [if_pos e', overE_symm]
        exact ho i hi (by omega) hh
      · rw [if_neg e'] at hh' ⊢
        exact g.apart i hi j hj hh hh'
  root i hi hz := badR_mono (g.root i hi hz) fun hl => by
    obtain ⟨j, hj, hh, hx⟩ := leadsS_iff.1 hl
    refine leadsS_iff.2 ⟨j, hj, ?_, hx⟩
    rw [h' j hj]
    by_cases e : j = k
    · rw [if_pos e]; exact hr
    · rw [if_neg e]; exact hh
  name := g.name
/-- an entry that is dropped: no root leads to it -/
theorem GoodS.dropE (g : GoodS n R S) (k : Nat) (_hk : k < 40) (h' : ∀ j, j < 40 → R' j = if j = k then List.replicate 5 0 else R j) (hno : ∀ i, i < 8 → zeroE (S i) = false → ((S i).getD 10 0).toNat ≠ k + 1) : GoodS n R' S where
  none j hj hh := by
    rw [h' j hj] at hh ⊢
    by_cases e : j = k
    · rw [if_pos e]; exact zeros_zero 5
    · rw [if_neg e] at hh ⊢; exact g.none j hj hh
  fit j hj hh := by
    rw [h' j hj] at hh ⊢
    by_cases e : j = k
    · rw [if_pos e, zeros_has] at hh; cases hh
    · rw [if_neg e] at hh ⊢; exact g.fit j hj hh
  apart i hi j hj hh hh' := by
    rw [h' i hi] at hh ⊢
    rw [h' j (by omega)] at hh' ⊢
    by_cases e : i = k
    · rw [if_pos e, zeros_has] at hh; cases hh
    · by_cases e' : j = k
      · rw [if_pos e', zeros_has] at hh'; cases hh'
      · rw [if_neg e] at hh ⊢
        rw [if_neg e'] at hh' ⊢
        exact g.apart i hi j hj hh hh'
  root i hi hz := badR_mono (g.root i hi hz) fun hl => by
    obtain ⟨j, hj, hh, hx⟩ := leadsS_iff.1 hl
    refine leadsS_iff.2 ⟨j, hj, ?_, hx⟩
    rw [h' j hj]
    by_cases e : j = k
    · exact absurd (by omega) (hno i hi hz)
    · rw [if_neg e]; exact hh
  name := g.name
/-- a root that is put, or nothing in its place -/
theorem GoodS.putR (g : GoodS n R S) (i : Nat) (r : Bytes) (h' : ∀ j, j < 8 → S' j = if j = i then r else S j) (hr : zeroE r = true ∨ (badR (leadsS R) r = false ∧ ∀ j, j < 8 → j ≠ i → zeroE (S j) = false → nmR r ≠ nmR (S j))) : GoodS n R S' where
  none := g.none
  fit := g.fit
  apart := g.apart
  root j hj hz := by
    rw [h' j hj] at hz ⊢
    by_cases e : j = i
    · rw [if_pos e] at hz ⊢
      rcases hr with h | h
      · rw [h] at hz; cases hz
      · exact h.1
    · rw [if_neg e] at hz ⊢; exact g.root j hj hz
  name a ha b hb hz hz' := by
    rw [h' a ha] at hz ⊢
    rw [h' b (by omega)] at hz' ⊢
    by_cases e : a = i
    · rw [if_pos e] at hz ⊢
      rw [if_neg (by omega)] at hz' ⊢
      rcases hr with h | h
      · rw [h] at hz; cases hz
      · exact h.2 b (by omega) (by omega) hz'
    · rw [if_neg e] at hz ⊢
      by_cases e' : b = i
      · rw [if_pos e'] at hz' ⊢
        rcases hr with h | h
        · rw [h] at hz'; cases hz'
        · exact (h.2 a ha e hz).symm
      · rw [if_neg e'] at hz' ⊢; exact g.name a ha b hb hz hz'
end
theorem zeros_cut' (n a m : Nat) (h : a + m ≤ n) : ((List.replicate n (0 : UInt8)).drop a).take m = List.replicate m 0 := by
  rw [List.drop_replicate, List.take_replicate]; congr 1; omega
/-- an image of nothing -/
theorem good_zero' {n : Nat} (h : rightB n = true) : Good (List.replicate n 0) := by
  have hb := rightB_true.1 h
  have hE : ∀ k, k < 40 → rawE (List.replicate n 0) k = List.replicate 5 0 := fun k hk => zeros_cut' n (5 * k) 5 (by omega)
  have hR : ∀ i, i < 8 → rawR (List.replicate n 0) i = List.replicate 11 0 := fun i hi => zeros_cut' n (200 + 11 * i) 11 (by omega)
  refine good_iff.2 ⟨by rw [List.length_replicate]; exact h, ⟨fun k hk _ => by rw [hE k hk]; exact zeros_zero 5, fun k hk hh => ?_, fun k hk j hj hh _ => ?_, fun i hi hz => ?_, fun i hi j hj hz _ => ?_⟩⟩
  · rw [hE k hk, zeros_has] at hh; cases hh
  · rw [hE k hk, zeros_has] at hh; cases hh
  · rw [hR i hi, zeros_zero] at hz; cases hz
  · rw [hR i hi, zeros_zero] at hz; cases hz
end Go.Proofs.YtijcclpnkfmpnaaGreat
/- The contracts of check.Fine and check.Object. -/
namespace Go.Proofs.YtijcclpnkfmpnaaGreat
open Go.RowKit

theorem fine_no (A : Option Addr) (n c : Nat) (w : World) (hr : rightB n = false) :
    Calls Tryz.prog 76 #[.slice A n c] w fun e w' => e = .returned (.iface 76 (.int .i64 3)) ∧ w = w' := by
  go_enter Tryz.func76, Tryz.ntmps76
  go_wp2_with fail
  refine (check_no A n c _ hr).mono ?_
  rintro e w1 ⟨rfl, rfl⟩
  go_wp2_with fail
  go_ret
  exact ⟨rfl, rfl⟩
theorem fine_t (A : Option Addr) (n c : Nat) (l : Bytes) (w : World) (hn : l.length = n) (hr : rightB n = true) (hnc : n ≤ c) (hrd : Rd w A l) (h0 : checkL l = []) :
    Calls Tryz.prog 76 #[.slice A n c] w fun e w' => e = .returned .nilIface ∧ Below w.heap.size w w' := by
  have HC := Hidden.mk (check_yes A n c l w hn hr hnc hrd)
  rw [h0] at HC
  clear h0 hn hr hrd
  go_enter Tryz.func76, Tryz.ntmps76
  go_wp2_with fail
  refine HC.out.mono ?_
  rintro e w1 ⟨v, rfl, hown, hb⟩
  obtain ⟨A1, c1, rfl, -, -⟩ := Src.of_own hown
  simp only [List.length_nil]
  clear hown
  go_wp2_with fail
  go_ret
  exact ⟨rfl, hb⟩
theorem fine_f (A : Option Addr) (n c : Nat) (l : Bytes) (w : World) (hn : l.length = n) (hr : rightB n = true) (hnc : n ≤ c) (hrd : Rd w A l) (h0 : checkL l ≠ []) :
    Calls Tryz.prog 76 #[.slice A n c] w fun e w' => e = .returned (.iface 76 (.int .i64 6)) ∧ Below w.heap.size w w' := by
  have HC := Hidden.mk (check_yes A n c l w hn hr hnc hrd)
  have hl := List.length_pos_iff.2 h0
  generalize checkL l = F at *
  clear h0 hn hr hrd
  go_enter Tryz.func76, Tryz.ntmps76
  go_wp2_with fail
  refine HC.out.mono ?_
  rintro e w1 ⟨v, rfl, hown, hb⟩
  obtain ⟨A1, c1, rfl, -, -⟩ := Src.of_own hown
  clear hown
  have t1 : decide (0 < F.length) = true := by simpa using hl
  clear hl
  go_wp2_with fail
  go_ret
  exact ⟨rfl, hb⟩
theorem strayE_false {n : Nat} {r : Bytes} (h : strayE n r = false) : (0 ≤ rTag r ∧ rTag r ≤ 15) ∧ (1 ≤ rLen r ∧ rLen r ≤ 1000) ∧ 288 ≤ rAt r ∧ rLen r ≤ n ∧ rAt r + rLen r ≤ n := by
  unfold strayE at h
  simp only [Bool.not_eq_false', Bool.and_eq_true] at h
  obtain ⟨⟨h1, h2⟩, h3⟩ := h
  have h1 := tagB_true.1 h1
  have h2 := lenB_true.1 h2
  have h3 := withinB_true.1 h3
  omega
/-- an object's tag and bytes, behind each other -/
def objB (l r : Bytes) : Bytes := UInt8.ofNat (rTag r).toNat :: (l.drop (rAt r)).take (rLen r)
end Go.Proofs.YtijcclpnkfmpnaaGreat
/- What comes in: arguments opened to the words of the text Base. No program in sight. -/
namespace Go.Proofs.YtijcclpnkfmpnaaGreat
open Go.RowKit Go.ChangeShapes Go.WideShapes Go.ChangeAt
open Go.ChangeMaps (open_string shut_string)

section
variable {H : Type} {enc : TypeId × Value → H} {P : Program} {w : World}
theorem wf_u8 {n : Int} (h : (Lit.int .u8 n).wf = true) : 0 ≤ n ∧ n ≤ 255 := by
  simpa [Lit.wf, IntKind.min, IntKind.max, IntKind.bits, IntKind.signed] using h
theorem wf_i64' {n : Int} (h : (Lit.int .i64 n).wf = true) : -9223372036854775808 ≤ n ∧ n ≤ 9223372036854775807 := by
  simpa [Lit.wf, IntKind.min, IntKind.max, IntKind.bits, IntKind.signed] using h

def toBytes (zs : List Int) : Bytes := zs.map fun z => UInt8.ofNat z.toNat
theorem toBytes_at {zs : List Int} (hz : ∀ n ∈ zs, (Lit.int .u8 n).wf = true) (j : Nat) (hj : j < zs.length) : .int .u8 (zs.getD j 0) = bv ((toBytes zs)[j]'(by simpa [toBytes] using hj)) := by
  have h1 : zs.getD j 0 = zs[j] := by simp [hj]
  have h2 := wf_u8 (hz _ (List.getElem_mem hj))
  have h3 : (zs[j].toNat % 256 : Nat) = zs[j].toNat := Nat.mod_eq_of_lt (by omega)
  rw [h1]
  simp only [toBytes, List.getElem_map, bv]
  congr 1
  rw [UInt8.toNat_ofNat', show 2 ^ 8 = 256 from rfl, h3]
  omega

/-- a slice of bytes that came in -/
theorem open_bytes {t e : TypeId} {v : Value} {d : DataW H} {ps : List MemPlace} {base : Nat} {r : Reach} (ht : P.underlying t = some (.slice e)) (he : P.underlying e = some (.int .u8)) (hc : P.cellsOf e = 1) (hb : P.bytesOf e = 1)
    (hv : Value.okWide P w r base t v) (h : DataW.Trod enc P w 0 (fun _ => true) true t v d ps) (hz : (d.weights P t).all (· ≤ reachBytes) = true) :
    ∃ (A : Option Addr) (c : Nat) (l : Bytes), v = .slice A l.length c ∧ l.length ≤ c ∧ c ≤ 140737488351232 ∧ Rd w A l := by
  obtain ⟨a0, len0, cap0, rfl⟩ := okWide_slice ht hv
  obtain ⟨fuel, hf⟩ := h
  rcases open_ints ht he hc hf with ⟨hcs, _⟩ | ⟨x, l, c, zs, hcs, _, hl, hm, hlen, hx, hcell, hwz⟩
  · simp [Value.cells] at hcs
    obtain ⟨rfl, rfl, rfl⟩ := hcs
    exact ⟨none, 0, [], rfl, by simp, by omega, Rd.nil_⟩
  · simp [Value.cells] at hcs
    obtain ⟨rfl, rfl, rfl⟩ := hcs
    simp only [Prod.mk.injEq] at hx
    obtain ⟨rfl, rfl⟩ := hx
    have hlen' : zs.length = cap0 := by simpa using hlen
    have hreach : cap0 ≤ 140737488351232 := by
      have := List.all_eq_true.1 hz ((zs.take len0).length * 1 + (zs.drop len0).length * 1) (by
        simp [DataW.weights, ht, hb, lits, Nat.mul_one, hlen'])
      have h2 := of_decide_eq_true this
      simp [hlen'] at h2
      have h3 : reachBytes = 140737488351232 := by decide
      omega
    have hlt : len0 ≤ zs.length := by omega
    refine ⟨some x, cap0, (toBytes zs).take len0, ?_, ?_, hreach, ?_⟩
    · simp [toBytes]; omega
    · simp [toBytes]; omega
    · intro j hj
      have hj' : j < len0 := by simp [toBytes] at hj; omega
      have hc0 := hcell j (by omega)
      obtain ⟨b, off, spot⟩ := x
      have hs : spot = none := by
        have hc1 := hcell 0 (by omega)
        simpa [Addr.add] using World.cell?_spot hc1
      subst hs
      refine ⟨b, off, rfl, ?_⟩
      rw [Addr.add_lit] at hc0
      rw [hc0, toBytes_at hwz j (by omega)]
      simp
/-- a text that came in -/
theorem open_str {t : TypeId} {v : Value} {d : DataW H} {ps : List MemPlace} {base : Nat} {r : Reach} (ht : P.underlying t = some .string)
    (hv : Value.okWide P w r base t v) (h : DataW.Trod enc P w 0 (fun _ => true) true t v d ps) (hz : (d.weights P t).all (· ≤ reachBytes) = true) :
    ∃ (s : Bytes), v = sv s ∧ s.length ≤ 140737488351232 := by
  obtain ⟨s, rfl, rfl, rfl, hs⟩ := open_string ht hv h
  refine ⟨s.data.toList, rfl, ?_⟩
  have h2 := of_decide_eq_true (List.all_eq_true.1 hz s.data.toList.length (by simp [DataW.weights]))
  have h3 : reachBytes = 140737488351232 := by decide
  omega
/-- a struct of four whole numbers that came in, the two in the middle a struct of their own -/
theorem open_entry {t : TypeId} {f0 f1 f2 g0 g1 : Field} {v : Value} {d : DataW H} {ps : List MemPlace} {base : Nat} {r : Reach} (hs : P.underlying t = some (.struct #[f0, f1, f2])) (hs1 : P.underlying f1.type = some (.struct #[g0, g1])) (hC : P.cellsOf t = 4)
    (o0 : f0.offset = 0 ∧ P.cellsOf f0.type = 1) (o1 : f1.offset = 1 ∧ P.cellsOf f1.type = 2) (o2 : f2.offset = 3 ∧ P.cellsOf f2.type = 1) (p0 : g0.offset = 0 ∧ P.cellsOf g0.type = 1) (p1 : g1.offset = 1 ∧ P.cellsOf g1.type = 1)
    (i0 : P.underlying f0.type = some (.int .i64)) (i1 : P.underlying g0.type = some (.int .i64)) (i2 : P.underlying g1.type = some (.int .i64)) (i3 : P.underlying f2.type = some (.int .i64))
    (hv : Value.okWide P w r base t v) (h : DataW.Trod enc P w 0 (fun _ => true) true t v d ps) :
    ∃ a b c e : Int, v = .agg #[.int .i64 a, .int .i64 b, .int .i64 c, .int .i64 e] ∧ (-9223372036854775808 ≤ a ∧ a ≤ 9223372036854775807) ∧ (-9223372036854775808 ≤ b ∧ b ≤ 9223372036854775807) ∧ (-9223372036854775808 ≤ c ∧ c ≤ 9223372036854775807) ∧ (-9223372036854775808 ≤ e ∧ e ≤ 9223372036854775807) := by
  obtain ⟨cs, rfl, hsz⟩ := okWide_struct hs hv
  obtain ⟨l⟩ := cs
  match l, hsz.trans hC with
  | [c0, c1, c2, c3], _ =>
    obtain ⟨fuel, hf⟩ := h
    obtain ⟨xs, n, _, hx, _, hlen, hg⟩ := DataW.trod_struct hs hf
    match xs, hlen with
    | [y0, y1, y2], _ =>
      have t0 : DataW.trod enc P w 0 (fun _ => true) true n f0.type [c0] = some y0 := by simpa [Value.cells, o0.1, o0.2] using hg 0 f0 rfl
      have t1 : DataW.trod enc P w 0 (fun _ => true) true n f1.type [c1, c2] = some y1 := by simpa [Value.cells, o1.1, o1.2] using hg 1 f1 rfl
      have t2 : DataW.trod enc P w 0 (fun _ => true) true n f2.type [c3] = some y2 := by simpa [Value.cells, o2.1, o2.2] using hg 2 f2 rfl
      obtain ⟨ys, n', _, hx', _, hlen', hg'⟩ := DataW.trod_struct hs1 t1
      match ys, hlen' with
      | [z0, z1], _ =>
        have u0 : DataW.trod enc P w 0 (fun _ => true) true n' g0.type [c1] = some z0 := by simpa [Value.cells, p0.1, p0.2] using hg' 0 g0 rfl
        have u1 : DataW.trod enc P w 0 (fun _ => true) true n' g1.type [c2] = some z1 := by simpa [Value.cells, p1.1, p1.2] using hg' 1 g1 rfl
        obtain ⟨a, ha, -, wa⟩ := DataW.trod_int i0 t0
        obtain ⟨b, hb, -, wb⟩ := DataW.trod_int i1 u0
        obtain ⟨c, hc, -, wc⟩ := DataW.trod_int i2 u1
        obtain ⟨e, he, -, we⟩ := DataW.trod_int i3 t2
        simp only [List.cons.injEq, and_true] at ha hb hc he
        subst ha hb hc he
        exact ⟨a, b, c, e, rfl, wf_i64' wa, wf_i64' wb, wf_i64' wc, wf_i64' we⟩
/-- a struct of a string and a whole number that came in -/
theorem open_root {t : TypeId} {f0 f1 : Field} {v : Value} {d : DataW H} {ps : List MemPlace} {base : Nat} {r : Reach} (hs : P.underlying t = some (.struct #[f0, f1])) (hone : Go.Deep.oneCellFields P #[f0, f1] = true) (hC : P.cellsOf t = 2)
    (i0 : P.underlying f0.type = some .string) (i1 : P.underlying f1.type = some (.int .i64))
    (hv : Value.okWide P w r base t v) (h : DataW.Trod enc P w 0 (fun _ => true) true t v d ps) (hz : (d.weights P t).all (· ≤ reachBytes) = true) :
    ∃ (s : Bytes) (b : Int), v = .agg #[sv s, .int .i64 b] ∧ s.length ≤ 140737488351232 ∧ (-9223372036854775808 ≤ b ∧ b ≤ 9223372036854775807) := by
  obtain ⟨v0, v1, y0, y1, n, rfl, rfl, -, t0, t1⟩ := Go.Joins.open_agg2 hs hone hC hv h
  obtain ⟨s, ha, hy, -⟩ := DataW.trod_string i0 t0
  obtain ⟨b, hb, -, wb⟩ := DataW.trod_int i1 t1
  simp only [List.cons.injEq, and_true] at ha hb
  subst ha hb hy
  have h2 := of_decide_eq_true (List.all_eq_true.1 hz s.data.toList.length (by simp [DataW.weights, hs, DataW.weightsEach]))
  have h3 : reachBytes = 140737488351232 := by decide
  exact ⟨s.data.toList, b, rfl, by omega, wf_i64' wb⟩
end
end Go.Proofs.YtijcclpnkfmpnaaGreat
/- What comes in: slices of structs, of booleans. No program in sight. -/
namespace Go.Proofs.YtijcclpnkfmpnaaGreat
open Go.RowKit Go.ChangeShapes Go.WideShapes Go.ChangeAt

/-- the slice at A has these elements, C cells each -/
def RdX {X : Type} (cells : X → List Value) (C : Nat) (w : World) (A : Option Addr) (L : List X) : Prop :=
  ∀ i (h : i < L.length), ∃ b off, A = some ⟨b, off, none⟩ ∧ ∀ q u, (cells L[i])[q]? = some u → w.cell? ⟨b, off + i * C + q, none⟩ = some u
section
variable {X : Type} {cells : X → List Value} {C : Nat} {w w' : World} {A : Option Addr} {L : List X}
theorem RdX.block (h : RdX cells C w A L) (hb : ∀ ad, A = some ad → ad.block < w.heap.size → w'.heap[ad.block]? = w.heap[ad.block]?) : RdX cells C w' A L := fun i hi => by
  obtain ⟨b, off, hA, hc⟩ := h i hi
  exact ⟨b, off, hA, fun q u hq => (World.cell?_of_block (w := w) (a := ⟨b, off + i * C + q, none⟩) (hb ⟨b, off, none⟩ hA (show b < w.heap.size from block_lt_of_cell (hc q u hq)))).trans (hc q u hq)⟩
theorem RdX.below (h : RdX cells C w A L) (hb : Below w.heap.size w w') : RdX cells C w' A L := h.block fun _ _ hlt => hb.block _ hlt
end
section
variable {H : Type} {enc : TypeId × Value → H} {P : Program} {w : World}
theorem weights_all {e : TypeId} : ∀ (l : List (DataW H)) (n : Nat), (DataW.weightsAll P e l).all (· ≤ n) = true → ∀ d ∈ l, (d.weights P e).all (· ≤ n) = true
  | [], _, _, d, hd => by simp at hd
  | x :: r, n, h, d, hd => by
    rw [DataW.weightsAll, List.all_append, Bool.and_eq_true] at h
    rcases List.mem_cons.1 hd with rfl | hd
    · exact h.1
    · exact weights_all r n h.2 d hd
theorem open_seq {X : Type} [Inhabited X] (cells : X → List Value) (C : Nat) (ok : World → X → Prop) {t e : TypeId} {v : Value} {d : DataW H} {ps : List MemPlace} {base : Nat} {r : Reach} (ht : P.underlying t = some (.slice e)) (hC : P.cellsOf e = C) (hC0 : 0 < C) (hb : 1 ≤ P.bytesOf e)
    (hel : ∀ n cs x, cs.length = C → DataW.trod enc P w 0 (fun _ => true) true n e cs = some x → (x.1.weights P e).all (· ≤ reachBytes) = true → ∃ y : X, cs = cells y ∧ ok w y)
    (hv : Value.okWide P w r base t v) (h : DataW.Trod enc P w 0 (fun _ => true) true t v d ps) (hz : (d.weights P t).all (· ≤ reachBytes) = true) :
    ∃ (A : Option Addr) (c : Nat) (L : List X), v = .slice A L.length c ∧ L.length ≤ c ∧ c ≤ 140737488351232 ∧ (∀ x ∈ L, ok w x) ∧ RdX cells C w A L := by
  obtain ⟨a0, len0, cap0, rfl⟩ := okWide_slice ht hv
  obtain ⟨fuel, hf⟩ := h
  rcases Go.Deep.open_slice ht hf with ⟨hcs, _⟩ | ⟨a, len, cap, m, n, D, Pl, hcs, _, hl, hm, hmm, hx, hi⟩
  · simp [Value.cells] at hcs
    obtain ⟨rfl, rfl, rfl⟩ := hcs
    exact ⟨none, 0, [], rfl, by simp, by omega, fun x hx => by simp at hx, fun i hi => by simp at hi⟩
  · simp [Value.cells] at hcs
    obtain ⟨rfl, rfl, rfl⟩ := hcs
    simp only [if_true] at hmm
    subst hmm
    simp only [Prod.mk.injEq] at hx
    obtain ⟨rfl, rfl⟩ := hx
    rw [DataW.weights, ht] at hz
    simp only [List.all_cons, List.all_append, Bool.and_eq_true, decide_eq_true_eq, List.length_map, List.length_range] at hz
    have hreach : m ≤ 140737488351232 := by
      have h3 : reachBytes = 140737488351232 := by decide
      have h4 := hz.1
      rw [h3] at h4
      have h5 : (len0 + (m - len0)) * 1 ≤ (len0 + (m - len0)) * P.bytesOf e := Nat.mul_le_mul_left _ hb
      omega
    have hex : ∀ i, i < len0 → ∃ y : X, ok w y ∧ w.cells? 0 (a.add (i * C)) C = some (cells y) := fun i hil => by
      obtain ⟨cs', h1, h2⟩ := hi i (by omega)
      obtain ⟨y, hy, hok⟩ := hel n cs' _ (by rw [← hC]; exact (World.cells?_some h1).2.1) h2 (weights_all _ _ hz.2.1 _ (List.mem_map.2 ⟨i, List.mem_range.2 hil, rfl⟩))
      refine ⟨y, hok, ?_⟩
      rw [← hy, ← hC]; exact h1
    obtain ⟨Y, hY⟩ := Go.Deep.choose_lt (α := X) (p := fun i y => ok w y ∧ w.cells? 0 (a.add (i * C)) C = some (cells y)) hex
    have hlen : ((List.range len0).map Y).length = len0 := by simp
    refine ⟨some a, m, (List.range len0).map Y, by rw [hlen], by rw [hlen]; exact hl, hreach, fun x hx => ?_, fun i hil => ?_⟩
    · obtain ⟨i, hi', rfl⟩ := List.mem_map.1 hx
      exact (hY i (List.mem_range.1 hi')).1
    · rw [hlen] at hil
      obtain ⟨_, h2⟩ := hY i hil
      obtain ⟨_, hcl, hat⟩ := World.cells?_some h2
      have hYi : ((List.range len0).map Y)[i]'(by rw [hlen]; exact hil) = Y i := by simp
      rw [hYi]
      obtain ⟨b, off, spot⟩ := a
      have hcell : ∀ q u, (cells (Y i))[q]? = some u → w.cell? ((⟨b, off, spot⟩ : Addr).add (i * C + q)) = some u := fun q u hq => by
        have hql : q < C := by have := (List.getElem?_eq_some_iff.1 hq).1; omega
        rw [← Go.Deep.add_add, hat q hql, hq]
      have hs : spot = none := by
        obtain ⟨_, h20⟩ := hY 0 (by omega)
        obtain ⟨_, hcl0, hat0⟩ := World.cells?_some h20
        have h0 := hat0 0 hC0
        rw [List.getElem?_eq_getElem (by omega), Nat.zero_mul] at h0
        simpa [Addr.add] using World.cell?_spot h0
      subst hs
      refine ⟨b, off, rfl, fun q u hq => ?_⟩
      have := hcell q u hq
      rw [Addr.add_lit, ← Nat.add_assoc] at this
      exact this
/-- a page: its number, its bytes -/
structure PgX where
  num : Int
  A : Option Addr
  cap : Nat
  body : Bytes
  deriving Inhabited
def pcells (x : PgX) : List Value := [.int .i64 x.num, .slice x.A x.body.length x.cap]
structure PgOk (w : World) (x : PgX) : Prop where
  lo : -9223372036854775808 ≤ x.num
  hi : x.num ≤ 9223372036854775807
  cap : x.body.length ≤ x.cap
  le : x.cap ≤ 140737488351232
  rd : Rd w x.A x.body
/-- an entry; a root -/
structure EntX where
  h : Int
  at_ : Int
  len : Int
  tag : Int
  deriving Inhabited
def xcells (x : EntX) : List Value := [.int .i64 x.h, .int .i64 x.at_, .int .i64 x.len, .int .i64 x.tag]
structure EntOk (_w : World) (x : EntX) : Prop where
  h : -9223372036854775808 ≤ x.h ∧ x.h ≤ 9223372036854775807
  a : -9223372036854775808 ≤ x.at_ ∧ x.at_ ≤ 9223372036854775807
  l : -9223372036854775808 ≤ x.len ∧ x.len ≤ 9223372036854775807
  t : -9223372036854775808 ≤ x.tag ∧ x.tag ≤ 9223372036854775807
structure RotX where
  s : Bytes
  h : Int
  deriving Inhabited
def ycells (x : RotX) : List Value := [sv x.s, .int .i64 x.h]
structure RotOk (_w : World) (x : RotX) : Prop where
  s : x.s.length ≤ 140737488351232
  h : -9223372036854775808 ≤ x.h ∧ x.h ≤ 9223372036854775807
/-- bytes within something else -/
theorem open_bytes_in {t e : TypeId} {v : Value} {y : DataW H × List MemPlace} {n : Nat} (ht : P.underlying t = some (.slice e)) (he : P.underlying e = some (.int .u8)) (hc : P.cellsOf e = 1) (hb : P.bytesOf e = 1)
    (h : DataW.trod enc P w 0 (fun _ => true) true n t [v] = some y) (hz : (y.1.weights P t).all (· ≤ reachBytes) = true) :
    ∃ (A : Option Addr) (c : Nat) (l : Bytes), v = .slice A l.length c ∧ l.length ≤ c ∧ c ≤ 140737488351232 ∧ Rd w A l := by
  rcases open_ints ht he hc h with ⟨hcs, _⟩ | ⟨x, l, c, zs, hcs, _, hl, hm, hlen, hx, hcell, hwz⟩
  · simp at hcs
    exact ⟨none, 0, [], by simpa using hcs, by simp, by omega, Rd.nil_⟩
  · simp at hcs
    subst hcs
    have hd := congrArg Prod.fst hx
    simp only at hd
    rw [hd] at hz
    have hlen' : zs.length = c := by simpa using hlen
    have hreach : c ≤ 140737488351232 := by
      have := List.all_eq_true.1 hz ((zs.take l).length * 1 + (zs.drop l).length * 1) (by
        simp [DataW.weights, ht, hb, lits, Nat.mul_one, hlen'])
      have h2 := of_decide_eq_true this
      simp [hlen'] at h2
      have h3 : reachBytes = 140737488351232 := by decide
      omega
    refine ⟨some x, c, (toBytes zs).take l, ?_, ?_, hreach, ?_⟩
    · simp [toBytes]; omega
    · simp [toBytes]; omega
    · intro j hj
      have hj' : j < l := by simp [toBytes] at hj; omega
      have hc0 := hcell j (by omega)
      obtain ⟨b, off, spot⟩ := x
      have hs : spot = none := by
        have hc1 := hcell 0 (by omega)
        simpa [Addr.add] using World.cell?_spot hc1
      subst hs
      refine ⟨b, off, rfl, ?_⟩
      rw [Addr.add_lit] at hc0
      rw [hc0, toBytes_at hwz j (by omega)]
      simp
/-- two fields of one cell each -/
theorem open_two {e : TypeId} {f0 f1 : Field} {n : Nat} {cs : List Value} {x : DataW H × List MemPlace} (hs : P.underlying e = some (.struct #[f0, f1])) (o0 : f0.offset = 0 ∧ P.cellsOf f0.type = 1) (o1 : f1.offset = 1 ∧ P.cellsOf f1.type = 1) (hl : cs.length = 2)
    (h : DataW.trod enc P w 0 (fun _ => true) true n e cs = some x) (hz : (x.1.weights P e).all (· ≤ reachBytes) = true) :
    ∃ v0 v1 y0 y1 m, cs = [v0, v1] ∧ DataW.trod enc P w 0 (fun _ => true) true m f0.type [v0] = some y0 ∧ DataW.trod enc P w 0 (fun _ => true) true m f1.type [v1] = some y1 ∧ (y0.1.weights P f0.type).all (· ≤ reachBytes) = true ∧ (y1.1.weights P f1.type).all (· ≤ reachBytes) = true := by
  match cs, hl with
  | [c0, c1], _ =>
    obtain ⟨xs, m, _, hx, _, hlen, hg⟩ := DataW.trod_struct hs h
    match xs, hlen with
    | [y0, y1], _ =>
      have t0 : DataW.trod enc P w 0 (fun _ => true) true m f0.type [c0] = some y0 := by simpa [o0.1, o0.2] using hg 0 f0 rfl
      have t1 : DataW.trod enc P w 0 (fun _ => true) true m f1.type [c1] = some y1 := by simpa [o1.1, o1.2] using hg 1 f1 rfl
      rw [hx] at hz
      simp [DataW.weights, hs, DataW.weightsEach, List.all_append] at hz
      exact ⟨c0, c1, y0, y1, m, rfl, t0, t1, by simpa using hz.1, by simpa using hz.2⟩
end
end Go.Proofs.YtijcclpnkfmpnaaGreat
/- Slices of the call's own, element by element. -/
namespace Go.Proofs.YtijcclpnkfmpnaaGreat
open Go.RowKit

theorem flat_at {X : Type} (f : X → List Value) (C : Nat) (hC : ∀ x, (f x).length = C) : ∀ (L : List X) (i : Nat) (h : i < L.length) (q : Nat), q < C → (L.flatMap f)[i * C + q]? = (f L[i])[q]?
  | [], i, h, _, _ => absurd h (by simp)
  | x :: r, 0, _, q, hq => by
    rw [List.flatMap_cons, Nat.zero_mul, Nat.zero_add, List.getElem?_append_left (by rw [hC]; exact hq)]; rfl
  | x :: r, i + 1, h, q, hq => by
    have hx := hC x
    rw [List.flatMap_cons, List.getElem?_append_right (by rw [hx, Nat.succ_mul]; omega), hx, show (i + 1) * C + q - C = i * C + q by rw [Nat.succ_mul]; omega]
    exact flat_at f C hC r i (by simpa using h) q hq
section
variable {X : Type} {f : X → List Value} {C : Nat} {w : World} {base : Nat} {e : TypeId} {v : Value} {A : Option Addr} {n c : Nat} {L : List X}
theorem own_at (hC : ∀ x, (f x).length = C) (h : w.ownsRow base e C (.slice A n c) n (L.flatMap f)) (k : Nat) (hk : k < L.length) (h0 : 0 < n) :
    ∃ g off, A = some ⟨g, off, none⟩ ∧ base ≤ g ∧ g < w.heap.size ∧ ∀ q u, (f L[k])[q]? = some u → w.cell? ⟨g, off + k * C + q, none⟩ = some u := by
  rcases h.2 with ⟨he, hn0⟩ | ⟨g, cap, cur, he, hb, hh, _⟩
  · omega
  · injection he with he
    subst he
    refine ⟨g, 0, rfl, hb, (Array.getElem?_eq_some_iff.1 hh).1, fun q u hq => ?_⟩
    have hqC : q < C := by rw [← hC L[k]]; exact (List.getElem?_eq_some_iff.1 hq).1
    have := h.cells (g := g) rfl (k * C + q) u (by rw [flat_at f C hC L k hk q hqC]; exact hq)
    rw [Addr.add_lit] at this
    rw [Nat.add_assoc]
    exact this
theorem own_split (h : w.ownsRow base e C v n (L.flatMap f)) : ∃ A c, v = .slice A n c ∧ n ≤ c ∧ c ≤ maxLen := by
  rcases h.2 with ⟨rfl, rfl⟩ | ⟨g, cap, cur, rfl, _, hh, hc, hm, _⟩
  · exact ⟨none, 0, rfl, Nat.le_refl _, by simp [maxLen]⟩
  · exact ⟨_, cap, rfl, hc, hm⟩
theorem own_rdX3 (hC : ∀ x, (f x).length = C) (hn : L.length = n) (h : w.ownsRow base e C (.slice A n c) n (L.flatMap f)) : RdX f C w A L := fun i hi => by
  obtain ⟨g, off, hA, _, _, hc⟩ := own_at hC h i hi (by omega)
  exact ⟨g, off, hA, hc⟩
end
structure Bel (w0 w : World) : Prop where
  out : Below w0.heap.size w0 w
theorem Bel.below {w0 w w' : World} (h : Bel w0 w) (hb : Below w.heap.size w w') : Bel w0 w' := ⟨h.out.trans (hb.mono h.out.size)⟩
structure RowW (w : World) (e g cap : Nat) (l : Bytes) : Prop where
  row : Row w e g cap l
theorem RowW.below {w w' : World} {e g cap : Nat} {l : Bytes} (h : RowW w e g cap l) (hb : Below w.heap.size w w') : RowW w' e g cap l := ⟨h.row.below hb h.row.lt⟩
structure OwnR (w : World) (base e size : Nat) (v : Value) (n : Nat) (xs : List Value) : Prop where
  own : w.ownsRow base e size v n xs
theorem OwnR.below {w w' : World} {base e size : Nat} {v : Value} {n : Nat} {xs : List Value} (h : OwnR w base e size v n xs) (hb : Below w.heap.size w w') : OwnR w' base e size v n xs := ⟨own_below h.own hb⟩
end Go.Proofs.YtijcclpnkfmpnaaGreat
/- Extents: plain words; the contract of extent.Check. -/
namespace Go.Proofs.YtijcclpnkfmpnaaGreat
open Go.RowKit

abbrev Ext := Int × Int
def tcells (x : Ext) : List Value := [.int .i64 x.1, .int .i64 x.2]
theorem tcells_len (x : Ext) : (tcells x).length = 2 := rfl
def badX (n : Int) (e : Ext) : Bool := decide (e.2 < 1) || decide (e.1 < 0) || decide (n < e.2) || decide (n - e.2 < e.1)
def hitX (e o : Ext) : Bool := decide (e.1 < o.1 + o.2) && decide (o.1 < e.1 + e.2)
/-- the fault of the element k -/
def faultX (n : Int) (l : List Ext) (k : Nat) (e : Ext) : Nat := if badX n e = true then 1 else if (l.take k).any (hitX e) = true then 7 else 0
def loopX (n : Int) (l : List Ext) : Nat → Nat
  | 0 => 0
  | k + 1 => if loopX n l k = 0 then faultX n l k (l.getD k (0, 0)) else loopX n l k
/-- what is wrong with extents -/
def chkX (n : Int) (l : List Ext) : Nat := if n < 0 ∨ 6400 < n then 1 else if 200 < l.length then 4 else loopX n l l.length
theorem loopX_stop (n : Int) (l : List Ext) (k : Nat) (h : loopX n l k ≠ 0) : ∀ m, k ≤ m → loopX n l m = loopX n l k
  | 0, hm => by obtain rfl : k = 0 := by omega
                rfl
  | m + 1, hm => by
    by_cases hk : k = m + 1
    · rw [hk]
    · have := loopX_stop n l k h m (by omega)
      rw [loopX, if_neg (by rw [this]; exact h), this]
theorem loopX_zero (n : Int) (l : List Ext) : ∀ k, loopX n l k = 0 → ∀ j, j < k → faultX n l j (l.getD j (0, 0)) = 0
  | 0, _, j, hj => by omega
  | k + 1, h, j, hj => by
    rw [loopX] at h
    split at h
    · rename_i h0
      rcases Nat.lt_succ_iff_lt_or_eq.1 hj with h' | rfl
      · exact loopX_zero n l k h0 j h'
      · exact h
    · rename_i h0; exact absurd h h0
theorem badX_false {n : Int} {e : Ext} (h : badX n e = false) : 1 ≤ e.2 ∧ 0 ≤ e.1 ∧ e.2 ≤ n ∧ e.1 + e.2 ≤ n := by
  unfold badX at h
  simp only [Bool.or_eq_false_iff, decide_eq_false_iff_not] at h
  omega
theorem faultX_zero {n : Int} {l : List Ext} {k : Nat} {e : Ext} (h : faultX n l k e = 0) : badX n e = false ∧ (l.take k).any (hitX e) = false := by
  unfold faultX at h
  split at h
  · cases h
  · rename_i h1
    split at h
    · cases h
    · rename_i h2
      exact ⟨by simpa using h1, by simpa using h2⟩
theorem RdX.take {X : Type} {cells : X → List Value} {C : Nat} {w : World} {A : Option Addr} {L : List X} (h : RdX cells C w A L) (k : Nat) : RdX cells C w A (L.take k) := fun i hi => by
  have hi' : i < L.length := by rw [List.length_take] at hi; omega
  obtain ⟨b, off, hA, hc⟩ := h i hi'
  exact ⟨b, off, hA, fun q u hq => hc q u (by rwa [List.getElem_take] at hq)⟩
/-- the closure of Check -/
theorem hit1_any (e x : Ext) (Bx : Nat) (W : World) (h1 : W.cell? ⟨Bx, 0, none⟩ = some (.int .i64 e.1)) (h2 : W.cell? ⟨Bx, 1, none⟩ = some (.int .i64 e.2)) (he : 0 ≤ e.1 ∧ e.1 ≤ 6400 ∧ 0 ≤ e.2 ∧ e.2 ≤ 6400) (hx : 0 ≤ x.1 ∧ x.1 ≤ 6400 ∧ 0 ≤ x.2 ∧ x.2 ≤ 6400) :
    Calls Tryz.prog 122 #[.agg #[.int .i64 x.1, .int .i64 x.2], .pointer (some ⟨Bx, 0, none⟩)] W fun e' w' => e' = .returned (.bool (hitX e x)) ∧ Below W.heap.size W w' := by
  obtain ⟨e1, e2⟩ := e
  obtain ⟨x1, x2⟩ := x
  dsimp only at *
  have hlt := block_lt_of_cell h1
  have hW : Below W.heap.size W (W.alloc (.cells #[.int .i64 x1, .int .i64 x2] 83)) := (Below.refl _ _).alloc (Nat.le_refl _) _
  have s1 : IntKind.i64.wrap (x1 + x2) = x1 + x2 := IntWalk.i64_in _ (by omega)
  have s2 : IntKind.i64.wrap (e1 + e2) = e1 + e2 := IntWalk.i64_in _ (by omega)
  unfold hitX
  dsimp only
  by_cases hc : e1 < x1 + x2
  · have d1 : decide (e1 < x1 + x2) = true := by simpa using hc
    go_enter Tryz.func122, Tryz.ntmps122
    go_wp2_with fail
    go_ret
    exact ⟨by simp, hW⟩
  · have d1 : decide (e1 < x1 + x2) = false := by simpa using hc
    go_enter Tryz.func122, Tryz.ntmps122
    go_wp2_with fail
    go_ret
    exact ⟨by simp, hW⟩
theorem idxX_check (p : Ext → Bool) (A : Option Addr) (n c : Nat) (L : List Ext) (cap : Value) (w : World) (hn : L.length = n) (hl : n ≤ 1000) (hr : RdX tcells 2 w A L)
    (hP : ∀ x ∈ L, ∀ W, Below w.heap.size w W → Calls Tryz.prog 122 #[.agg #[.int .i64 x.1, .int .i64 x.2], cap] W fun e w' => e = .returned (.bool (p x)) ∧ Below W.heap.size W w') :
    Calls Tryz.prog 146 #[.slice A n c, .func (.func 122) #[] #[cap]] w fun e w' => ∃ z : Int, e = .returned (.int .i64 z) ∧ decide (0 ≤ z) = L.any p ∧ Below w.heap.size w w' := by
  subst hn
  have HP := Hidden.mk hP
  clear hP
  go_enter Tryz.func146, Tryz.ntmps146
  go_wp2_with fail
  go_loopw [8] (fun i wr => Below w.heap.size w wr ∧ ∃ k : Nat, k ≤ L.length ∧ i = .int .i64 k ∧ Hidden (∀ x ∈ L.take k, p x = false)) (fun i _ => L.length - (intOf i).toNat)
  case atStart => exact ⟨Below.refl _ _, 0, Nat.zero_le _, rfl, ⟨by simp⟩⟩
  case round =>
    obtain ⟨hbel, k, hk, rfl, hnot⟩ := hrel
    by_cases hlt : k < L.length
    · obtain ⟨b, off, rfl, hcx⟩ := (hr.below hbel) k hlt
      have c0 := hcx 0 _ rfl
      have c1 := hcx 1 _ rfl
      rw [Nat.add_zero] at c0
      have hp := HP.out L[k] (List.getElem_mem hlt) wr hbel
      have HPK := Hidden.mk hp
      have i0 : (0 : Int) ≤ k := by omega
      have i1 : (k : Int) < L.length := by omega
      clear hp hcx
      go_wp2_with fail
      refine (HPK.out).mono ?_
      rintro e w1 ⟨rfl, hb1⟩
      have hB1 := hbel.trans (hb1.mono hbel.size)
      cases he : p L[k] with
      | true =>
        have hi : Hidden (true = L.any p) := ⟨(List.any_eq_true.2 ⟨L[k], List.getElem_mem hlt, he⟩).symm⟩
        clear he hb1 hbel
        go_wp2_with fail
        go_ret
        exact ⟨_, rfl, by rw [← hi.out]; simp, hB1⟩
      | false =>
        have hnk : Hidden (∀ x ∈ L.take (k + 1), p x = false) := ⟨forall_take_succ' hlt hnot.out he⟩
        clear he hnot hb1 hbel
        go_wp2_with fail
        go_roundw
        case rel => exact ⟨hB1, k + 1, by omega, by go_num, hnk⟩
        case measure => simp [intOf]; omega
    · have hi : Hidden (false = L.any p) := ⟨by
        have := hnot.out
        rw [List.take_of_length_le (by omega)] at this
        symm; simpa using this⟩
      go_wp2_with fail
      go_ret
      exact ⟨-1, rfl, by rw [← hi.out]; rfl, hbel⟩
theorem cfX_check (p : Ext → Bool) (A : Option Addr) (n c : Nat) (L : List Ext) (cap : Value) (w : World) (hn : L.length = n) (hl : n ≤ 1000) (hr : RdX tcells 2 w A L)
    (hP : ∀ x ∈ L, ∀ W, Below w.heap.size w W → Calls Tryz.prog 122 #[.agg #[.int .i64 x.1, .int .i64 x.2], cap] W fun e w' => e = .returned (.bool (p x)) ∧ Below W.heap.size W w') :
    Calls Tryz.prog 121 #[.slice A n c, .func (.func 122) #[] #[cap]] w fun e w' => e = .returned (.bool (L.any p)) ∧ Below w.heap.size w w' := by
  have HC := Hidden.mk (idxX_check p A n c L cap w hn hl hr hP)
  clear hP
  go_enter Tryz.func121, Tryz.ntmps121
  go_wp2_with fail
  refine HC.out.mono ?_
  rintro e w1 ⟨z, rfl, hz, hb⟩
  have HZ := Hidden.mk hz
  clear hz
  go_wp2_with fail
  go_ret
  exact ⟨congrArg (fun b => Ending.returned (.bool b)) HZ.out, hb⟩
theorem run_headX (A : Option Addr) (n c k : Nat) (hkc : k ≤ c) (W : World) :
    (Instr.sliceAt 88 (.slice A n c) none (some (.int .i64 k)) none).run Tryz.prog W = .ok (.slice A k c) W := by
  obtain ⟨i0, hi0, hz0, hz1, hz2⟩ := info_parts (show (Tryz.prog.info? 83).map (fun i => (i.zero, i.size, i.bytes)) = some (some (.agg #[.int .i64 0, .int .i64 0]), 2, 16) by kernel_rfl)
  cases A <;> simp [Instr.sliceAt, Instr.slice, Instr.sliceBounds, Instr.sliceBound, run_underlying Tryz.underlying88, asIntOf, sizeOf, typeInfo, hi0, hkc, Addr.add]
set_option maxRecDepth 100000 in
theorem xcheck_any (n : Int) (A : Option Addr) (m c : Nat) (l : List Ext) (w : World) (hl : l.length = m) (hmc : m ≤ c) (hr : RdX tcells 2 w A l) :
    Calls Tryz.prog 80 #[.int .i64 n, .slice A m c] w fun e w' => e = .returned (errV (chkX n l)) ∧ Below w.heap.size w w' := by
  by_cases h1 : n < 0
  · have HC : Hidden (chkX n l = 1) := ⟨by unfold chkX; rw [if_pos (.inl h1)]⟩
    clear hr hl
    go_enter Tryz.func80, Tryz.ntmps80
    go_wp2_with fail
    go_ret
    exact ⟨by rw [HC.out]; rfl, Below.refl _ _⟩
  by_cases h2 : 6400 < n
  · have HC : Hidden (chkX n l = 1) := ⟨by unfold chkX; rw [if_pos (.inr h2)]⟩
    clear hr hl
    go_enter Tryz.func80, Tryz.ntmps80
    go_wp2_with fail
    go_ret
    exact ⟨by rw [HC.out]; rfl, Below.refl _ _⟩
  have d1 : decide (n < 0) = false := by simpa using h1
  have d2 : decide (6400 < n) = false := by simpa using h2
  by_cases h3 : 200 < m
  · have HC : Hidden (chkX n l = 4) := ⟨by unfold chkX; rw [if_neg (by omega), if_pos (by omega)]⟩
    have d3 : decide (200 < m) = true := by simpa using h3
    clear hr hl
    go_enter Tryz.func80, Tryz.ntmps80
    go_wp2_with fail
    go_ret
    exact ⟨by rw [HC.out]; rfl, Below.refl _ _⟩
  have d3 : decide (200 < m) = false := by simpa using h3
  have HC : Hidden (chkX n l = loopX n l m) := ⟨by unfold chkX; rw [if_neg (by omega), if_neg (by omega), hl]⟩
  have HL := Hidden.mk hl
  have HR := Hidden.mk hr
  clear hr hl
  go_enter Tryz.func80, Tryz.ntmps80
  go_wp2_with fail
  go_loopg [22] m (fun q i wr => ∃ k : Nat, k ≤ m ∧ q = m - k ∧ i = .int .i64 (k : Int) ∧ Hidden (Below w.heap.size w wr ∧ loopX n l k = 0))
  case atStart => exact ⟨0, by omega, rfl, rfl, ⟨Below.refl _ _, rfl⟩⟩
  case round =>
    obtain ⟨k, hk, rfl, rfl, hst⟩ := hrel
    by_cases hlt : k < m
    · have hkl : k < l.length := by have := HL.out; omega
      obtain ⟨p, off, rfl, hcx⟩ := (HR.out.below hst.out.1) k hkl
      have c0 := hcx 0 _ rfl
      have c1 := hcx 1 _ rfl
      rw [Nat.add_zero] at c0
      have HF : Hidden (loopX n l (k + 1) = faultX n l k l[k]) := ⟨by rw [loopX, if_pos hst.out.2]; simp [hkl]⟩
      have HG : Hidden (faultX n l k l[k] = if badX n l[k] = true then 1 else if (l.take k).any (hitX l[k]) = true then 7 else 0) := ⟨rfl⟩
      have HBX : Hidden (badX n l[k] = (decide (l[k].2 < 1) || decide (l[k].1 < 0) || decide (n < l[k].2) || decide (n - l[k].2 < l[k].1))) := ⟨rfl⟩
      have HEND : Hidden (∀ x, x ≠ 0 → loopX n l (k + 1) = x → chkX n l = x) := ⟨fun x hx he => by rw [HC.out, loopX_stop n l (k + 1) (by rw [he]; exact hx) m (by omega), he]⟩
      have k0 : (0 : Int) ≤ k := by omega
      have k1 : (k : Int) < m := by omega
      have HEL : Hidden (l[k].1 = l[k].1 ∧ l[k].2 = l[k].2) := ⟨rfl, rfl⟩
      have hall : ∀ j, j < k → badX n (l.getD j (0, 0)) = false := fun j hj => (faultX_zero (loopX_zero n l k hst.out.2 j hj)).1
      have hprev : ∀ x ∈ l.take k, 0 ≤ x.1 ∧ x.1 ≤ 6400 ∧ 0 ≤ x.2 ∧ x.2 ≤ 6400 := fun x hx => by
        obtain ⟨j, hj, rfl⟩ := List.getElem_of_mem hx
        rw [List.length_take] at hj
        have := hall j (by omega)
        rw [List.getElem_take]
        have he : l.getD j (0, 0) = l[j] := by simp [show j < l.length by omega]
        rw [he] at this
        have := badX_false this
        omega
      have HPREV := Hidden.mk hprev
      have hrt := (HR.out.below hst.out.1).take k
      have HRT := Hidden.mk hrt
      clear hcx hall hprev hrt
      have HHIT : Hidden (∀ x : Ext, hitX l[k] x = hitX (l[k].1, l[k].2) x) := ⟨fun _ => rfl⟩
      generalize hlk : l[k] = e at *
      obtain ⟨e1, e2⟩ := e
      dsimp only at HF HG HBX c0 c1 HHIT
      have hal : Below wr.heap.size wr (wr.alloc (.cells #[.int .i64 e1, .int .i64 e2] 83)) := (Below.refl _ _).alloc (Nat.le_refl _) _
      have HB2 : Hidden (Below w.heap.size w (wr.alloc (.cells #[.int .i64 e1, .int .i64 e2] 83))) := ⟨hst.out.1.trans (hal.mono hst.out.1.size)⟩
      have hbk : (wr.alloc (.cells #[.int .i64 e1, .int .i64 e2] 83)).heap[wr.heap.size]? = some (.cells #[.int .i64 e1, .int .i64 e2] 83 (0, 0)) := heap_alloc_new wr _
      have HBK := Hidden.mk hbk
      have HLK := Hidden.mk hlk
      have HRT2 := Hidden.mk (HRT.out.below hal)
      clear hal hbk hlk HEL HRT
      by_cases b1 : e2 < 1
      · have t1 : decide (e2 < 1) = true := by simpa using b1
        have HE := Hidden.mk (HEND.out 1 (by decide) (by rw [HF.out, HG.out, if_pos (by rw [HBX.out, t1]; rfl)]))
        go_wp2_with fail
        go_ret
        exact ⟨by rw [HE.out]; rfl, HB2.out⟩
      have t1 : decide (e2 < 1) = false := by simpa using b1
      by_cases b2 : e1 < 0
      · have t2 : decide (e1 < 0) = true := by simpa using b2
        have HE := Hidden.mk (HEND.out 1 (by decide) (by rw [HF.out, HG.out, if_pos (by rw [HBX.out, t1, t2]; rfl)]))
        go_wp2_with fail
        go_ret
        exact ⟨by rw [HE.out]; rfl, HB2.out⟩
      have t2 : decide (e1 < 0) = false := by simpa using b2
      by_cases b3 : n < e2
      · have t3 : decide (n < e2) = true := by simpa using b3
        have HE := Hidden.mk (HEND.out 1 (by decide) (by rw [HF.out, HG.out, if_pos (by rw [HBX.out, t1, t2, t3]; rfl)]))
        go_wp2_with fail
        go_ret
        exact ⟨by rw [HE.out]; rfl, HB2.out⟩
      have t3 : decide (n < e2) = false := by simpa using b3
      have s1 : IntKind.i64.wrap (n - e2) = n - e2 := IntWalk.i64_in _ (by omega)
      by_cases b4 : n - e2 < e1
      · have t4 : decide (n - e2 < e1) = true := by simpa using b4
        have HE := Hidden.mk (HEND.out 1 (by decide) (by rw [HF.out, HG.out, if_pos (by rw [HBX.out, t1, t2, t3, t4]; rfl)]))
        go_wp2_with fail
        go_ret
        exact ⟨by rw [HE.out]; rfl, HB2.out⟩
      have t4 : decide (n - e2 < e1) = false := by simpa using b4
      have HBAD : Hidden (badX n (e1, e2) = false) := ⟨by rw [HBX.out, t1, t2, t3, t4]; rfl⟩
      have hsl := run_headX (some ⟨p, off, none⟩) m c k (by omega)
      go_wp2_with fail
      generalize wr.alloc (.cells #[.int .i64 e1, .int .i64 e2] 83) = w2 at *
      generalize wr.heap.size = Bx at *
      clear c0 c1 b1 b2 b3 b4
      have y0 : ∀ W, Below w2.heap.size w2 W → W.cell? ⟨Bx, 0, none⟩ = some (.int .i64 e1) ∧ W.cell? ⟨Bx, 1, none⟩ = some (.int .i64 e2) := fun W hW => by
        have hb := (hW.block _ (Array.getElem?_eq_some_iff.1 HBK.out).1).trans HBK.out
        exact ⟨by simp [World.cell?, hb], by simp [World.cell?, hb]⟩
      have hb2 := badX_false HBAD.out
      have hcf := cfX_check (hitX (e1, e2)) (some ⟨p, off, none⟩) k c (l.take k) (.pointer (some ⟨Bx, 0, none⟩)) w2 (by rw [List.length_take]; omega) (by omega) HRT2.out
        (fun x hx W hW => hit1_any (e1, e2) x Bx W (y0 W hW).1 (y0 W hW).2 (by dsimp only at hb2 ⊢; omega) (HPREV.out x hx))
      have HCF := Hidden.mk hcf
      clear hcf y0 hb2
      refine HCF.out.mono ?_
      rintro e w3 ⟨rfl, hb⟩
      have HB3 := Hidden.mk (HB2.out.trans (hb.mono HB2.out.size))
      clear hb
      cases hq : (l.take k).any (hitX (e1, e2)) with
      | true =>
        have HE := Hidden.mk (HEND.out 7 (by decide) (by rw [HF.out, HG.out, if_neg (by rw [HBAD.out]; decide), if_pos hq]))
        clear hq
        go_wp2_with fail
        go_ret
        exact ⟨by rw [HE.out]; rfl, HB3.out⟩
      | false =>
        have HE : Hidden (loopX n l (k + 1) = 0) := ⟨by rw [HF.out, HG.out, if_neg (by rw [HBAD.out]; decide), if_neg (by rw [hq]; decide)]⟩
        have q1 : IntKind.i64.wrap ((k : Int) + 1) = (k : Int) + 1 := IntWalk.i64_in _ (by omega)
        clear hq
        go_wp2_with fail
        go_roundg (m - (k + 1))
        case measure => omega
        case rel => exact ⟨k + 1, by omega, rfl, by go_num, ⟨HB3.out, HE.out⟩⟩
    · obtain rfl : k = m := by omega
      have HF : Hidden (chkX n l = 0) := ⟨by rw [HC.out]; exact hst.out.2⟩
      go_wp2_with fail
      go_ret
      exact ⟨by rw [HF.out]; rfl, hst.out.1⟩
end Go.Proofs.YtijcclpnkfmpnaaGreat
/- A row of structs that the library has sorted: what it holds then. No program in sight. -/
namespace Go.Proofs.YtijcclpnkfmpnaaGreat
open Go.RowKit Go.Sort Go.Shelf Go.Lib

theorem flatK_list {α : Type} [Inhabited α] (enc : α → List Value) (k : Nat) (hk : ∀ x, (enc x).length = k) (h0 : 0 < k) (d : Array α) : (flatK enc k d).toList = d.toList.flatMap enc := by
  apply List.ext_getElem?
  intro t
  by_cases ht : t < d.size * k
  · have h1 : t / k < d.size := by rw [Nat.div_lt_iff_lt_mul h0]; exact ht
    have h2 := flat_at enc k hk d.toList (t / k) (by simpa using h1) (t % k) (Nat.mod_lt _ h0)
    rw [Nat.div_add_mod' t k] at h2
    rw [h2]
    have h3 : t < (flatK enc k d).size := by simpa using ht
    have h4 := get_flatK enc k d t ht
    rw [getElem!_pos _ t h3] at h4
    rw [Array.getElem?_toList, Array.getElem?_eq_getElem h3, h4]
    have h5 : t % k < (enc d[t / k]!).length := by rw [hk]; exact Nat.mod_lt _ h0
    have h6 : d[t / k]! = d.toList[t / k]'(by simpa using h1) := by rw [getElem!_pos d (t / k) h1, Array.getElem_toList]
    rw [getElem!_pos (enc d[t / k]!) (t % k) h5, ← h6, List.getElem?_eq_getElem h5]
  · have hl : (d.toList.flatMap enc).length = d.size * k := by
      rw [List.length_flatMap]
      have : d.toList.map (fun x => (enc x).length) = List.replicate d.size k := by
        rw [List.eq_replicate_iff]
        exact ⟨by simp, fun b hb => by obtain ⟨x, _, rfl⟩ := List.mem_map.1 hb; exact hk x⟩
      rw [this]; simp
    rw [List.getElem?_eq_none (by rw [Array.length_toList, size_flatK]; omega), List.getElem?_eq_none (by omega)]
theorem take_putCellsK (cur F : Array Value) (h : F.size ≤ cur.size) : (putCells id 0 F cur).toList.take F.size = F.toList := by
  apply List.ext_getElem?
  intro j
  by_cases hj : j < F.size
  · rw [List.getElem?_take_of_lt hj, Array.getElem?_toList]
    simp [putCells, hj, show j < cur.size by omega]
  · rw [List.getElem?_take_eq_none (by omega), List.getElem?_eq_none (by simp; omega)]
theorem holdsK_own {α : Type} [Inhabited α] {enc : α → List Value} {k : Nat} (hk : ∀ x, (enc x).length = k) (h0 : 0 < k) {w : World} {base : Nat} {e : TypeId} {g n cap : Nat} {L : List α} (h : w.ownsRow base e k (.slice (some ⟨g, 0, none⟩) n cap) n (L.flatMap enc)) :
    HoldsK enc k w g 0 L.toArray := by
  rcases h.2 with ⟨h1, _⟩ | ⟨g', cap', cur, he, _, hh, _⟩
  · cases h1
  · injection he with he _ hcap
    injection he with he
    injection he with he
    subst he hcap
    intro j hj
    have hf := flatK_list enc k hk h0 L.toArray
    have hj' : j < L.length * k := by simpa using hj
    have hc : (L.flatMap enc)[j]? = some ((flatK enc k L.toArray)[j]!) := by
      have : (flatK enc k L.toArray).toList[j]? = some ((flatK enc k L.toArray)[j]!) := by
        rw [getElem!_pos _ j hj, Array.getElem?_toList, Array.getElem?_eq_getElem hj]
      rw [hf] at this
      simpa using this
    have := h.cells (g := g) rfl j _ hc
    rw [Addr.add_lit] at this
    exact ⟨this, by simp [World.frozen?, hh]⟩
theorem own_sortedK {α : Type} [Inhabited α] {enc : α → List Value} {k : Nat} (hk : ∀ x, (enc x).length = k) (h0 : 0 < k) {w : World} {base : Nat} {e : TypeId} {g n cap m : Nat} {L : List α} {d : Array α} {os : Array Obj} (hd : d.size = n) (h : w.ownsRow base e k (.slice (some ⟨g, 0, none⟩) n cap) n (L.flatMap enc)) :
    (sortWorldK enc k w g 0 m d os).ownsRow base e k (.slice (some ⟨g, 0, none⟩) n cap) n (d.toList.flatMap enc) ∧ w.grownBy (sortWorldK enc k w g 0 m d os) (some g) := by
  rcases h.2 with ⟨h1, _⟩ | ⟨g', cap', cur, he, hb, hh, hc, hm, hz, ht⟩
  · cases h1
  · injection he with he _ hcap
    injection he with he
    injection he with he
    subst he hcap
    have hg : g < w.heap.size := (Array.getElem?_eq_some_iff.1 hh).1
    have hfs : (flatK enc k d).size = n * k := by simp [hd]
    have hheap : (sortWorldK enc k w g 0 m d os).heap[g]? = some (.cells (putCells id 0 (flatK enc k d) cur) e (0, 0)) := by
      unfold sortWorldK
      rw [heap_grow_old _ _ (by simpa [putRowK] using hg)]
      simp [putRowK, putRow, mapBlock, Sort.ahead, Array.getElem?_modify, hh, onCells]
    have hle : n * k ≤ cap * k := Nat.mul_le_mul_right _ hc
    refine ⟨⟨?_, .inr ⟨g, cap, _, rfl, hb, hheap, hc, hm, by simp [putCells, hz], ?_⟩⟩, ?_⟩
    · rw [← flatK_list enc k hk h0 d, Array.length_toList, hfs]
    · rw [← hfs, take_putCellsK _ _ (by rw [hfs, hz]; exact hle), flatK_list enc k hk h0 d]
    · unfold sortWorldK
      refine ⟨rfl, rfl, rfl, by simp [putRowK], fun q hq hne => ?_⟩
      rw [heap_grow_old _ _ (by simpa [putRowK] using hq)]
      have : g ≠ q := fun e => hne (by rw [e])
      simp [putRowK, putRow, mapBlock, Sort.ahead, Array.getElem?_modify, this]
/-- sorted as the library sorts -/
def pdqL {α : Type} [Inhabited α] (cf : α → α → Int) (l : List α) : List α := (pdq (ltOf cf) l.toArray 0 l.length (Lib.bitLen l.length) true true).toList
theorem pdqL_perm {α : Type} [Inhabited α] (cf : α → α → Int) (hO : SWO (ltOf cf)) (l : List α) : (pdqL cf l).Perm l ∧ (pdqL cf l).Pairwise (fun a b => ltOf cf b a = false) := by
  have h := pdq_sorts (ltOf cf) hO l.toArray 0 l.length (Lib.bitLen l.length) true true (Nat.zero_le _) (by simp) (Or.inl rfl)
  obtain ⟨⟨hs, _, hp⟩, hsort⟩ := h
  have hs' : (pdq (ltOf cf) l.toArray 0 l.length (Lib.bitLen l.length) true true).size = l.length := by simpa using hs
  refine ⟨?_, ?_⟩
  · unfold pdqL
    have e1 : ∀ d : Array α, d.size = l.length → (d.extract 0 l.length).toList = d.toList := fun d hd => by
      rw [← hd]; simp
    rw [e1 _ hs', e1 _ (by simp)] at hp
    simpa using hp
  · unfold pdqL
    rw [List.pairwise_iff_getElem]
    intro i j hi hj hij
    have h1 := hsort i j (Nat.zero_le _) hij (by rw [Array.length_toList] at hj; omega)
    rw [getElem!_pos _ j (by simpa using hj), getElem!_pos _ i (by simpa using hi)] at h1
    simpa using h1
end Go.Proofs.YtijcclpnkfmpnaaGreat
/- Laid: library functions whose contracts are proved over whatever program: the table of numbers, and a field a function or a type. -/
namespace Go.Proofs.YtijcclpnkfmpnaaGreat
open Go.Shelf
def layX_ren : Go.Shelf.Ren := ⟨fun | 6 => 124 | 15 => 134 | 14 => 147 | 28 => 157 | 29 => 158 | 20 => 177 | 21 => 178 | 22 => 179 | 23 => 180 | 24 => 181 | 25 => 182 | 26 => 183 | 27 => 184 | 46 => 198 | 47 => 186 | 48 => 187 | 49 => 199 | 50 => 200 | 57 => 204 | n => n, fun | 22 => 88 | 24 => 83 | 25 => 181 | 3 => 3 | 39 => 189 | 0 => 0 | 53 => 212 | 55 => 214 | 4 => 4 | 46 => 206 | 45 => 205 | 50 => 194 | 5 => 5 | 9 => 9 | 66 => 233 | 70 => 237 | 76 => 246 | 77 => 105 | n => n, fun | n => n⟩
theorem layX : Go.Proofs.SlLaysF0.n6 Tryz.prog layX_ren := {
  mixed := by kernel_rfl
  f6 := ⟨Tryz.f124.name, by decide, Tryz.func124.trans (congrArg some (by kernel_rfl))⟩
  f14 := ⟨Tryz.f147.name, by decide, Tryz.func147.trans (congrArg some (by kernel_rfl))⟩
  f15 := Tryz.func134.trans (congrArg some (by kernel_rfl))
  f20 := ⟨Tryz.f177.name, by decide, Tryz.func177.trans (congrArg some (by kernel_rfl))⟩
  f21 := ⟨Tryz.f178.name, by decide, Tryz.func178.trans (congrArg some (by kernel_rfl))⟩
  f22 := ⟨Tryz.f179.name, by decide, Tryz.func179.trans (congrArg some (by kernel_rfl))⟩
  f23 := ⟨Tryz.f180.name, by decide, Tryz.func180.trans (congrArg some (by kernel_rfl))⟩
  f24 := ⟨Tryz.f181.name, by decide, Tryz.func181.trans (congrArg some (by kernel_rfl))⟩
  f25 := ⟨Tryz.f182.name, by decide, Tryz.func182.trans (congrArg some (by kernel_rfl))⟩
  f26 := ⟨Tryz.f183.name, by decide, Tryz.func183.trans (congrArg some (by kernel_rfl))⟩
  f27 := ⟨Tryz.f184.name, by decide, Tryz.func184.trans (congrArg some (by kernel_rfl))⟩
  f28 := Tryz.func157.trans (congrArg some (by kernel_rfl))
  f29 := Tryz.func158.trans (congrArg some (by kernel_rfl))
  f46 := ⟨Tryz.f198.name, by decide, Tryz.func198.trans (congrArg some (by kernel_rfl))⟩
  f47 := Tryz.func186.trans (congrArg some (by kernel_rfl))
  f48 := Tryz.func187.trans (congrArg some (by kernel_rfl))
  f49 := ⟨Tryz.f199.name, by decide, Tryz.func199.trans (congrArg some (by kernel_rfl))⟩
  f50 := ⟨Tryz.f200.name, by decide, Tryz.func200.trans (congrArg some (by kernel_rfl))⟩
  f57 := ⟨Tryz.f204.name, by decide, Tryz.func204.trans (congrArg some (by kernel_rfl))⟩
  t0 := Tryz.underlying0
  a0 := Tryz.isAgg0
  z0 := Tryz.sizeOf0
  v0 := Tryz.zeroValue0
  t3 := Tryz.underlying3
  a3 := Tryz.isAgg3
  z3 := Tryz.sizeOf3
  v3 := Tryz.zeroValue3
  t4 := Tryz.underlying4
  a4 := Tryz.isAgg4
  z4 := Tryz.sizeOf4
  v4 := Tryz.zeroValue4
  t5 := Tryz.underlying5
  a5 := Tryz.isAgg5
  z5 := Tryz.sizeOf5
  v5 := Tryz.zeroValue5
  t9 := Tryz.underlying9
  a9 := Tryz.isAgg9
  z9 := Tryz.sizeOf9
  v9 := Tryz.zeroValue9
  t22 := Tryz.underlying88
  a22 := Tryz.isAgg88
  z22 := Tryz.sizeOf88
  v22 := Tryz.zeroValue88
  t25 := Tryz.underlying181
  a25 := Tryz.isAgg181
  z25 := Tryz.sizeOf181
  v25 := Tryz.zeroValue181
  t39 := Tryz.underlying189
  a39 := Tryz.isAgg189
  z39 := Tryz.sizeOf189
  v39 := Tryz.zeroValue189
  t45 := Tryz.underlying205
  a45 := Tryz.isAgg205
  z45 := Tryz.sizeOf205
  v45 := Tryz.zeroValue205
  t46 := Tryz.underlying206
  a46 := Tryz.isAgg206
  z46 := Tryz.sizeOf206
  v46 := Tryz.zeroValue206
  t50 := Tryz.underlying194
  a50 := Tryz.isAgg194
  z50 := Tryz.sizeOf194
  v50 := Tryz.zeroValue194
  t53 := Tryz.underlying212
  a53 := Tryz.isAgg212
  z53 := Tryz.sizeOf212
  v53 := Tryz.zeroValue212
  t55 := Tryz.underlying214
  a55 := Tryz.isAgg214
  z55 := Tryz.sizeOf214
  v55 := Tryz.zeroValue214
  t66 := Tryz.underlying233
  a66 := Tryz.isAgg233
  z66 := Tryz.sizeOf233
  v66 := Tryz.zeroValue233
  t70 := Tryz.underlying237
  a70 := Tryz.isAgg237
  z70 := Tryz.sizeOf237
  v70 := Tryz.zeroValue237
  t76 := Tryz.underlying246
  a76 := Tryz.isAgg246
  z76 := Tryz.sizeOf246
  v76 := Tryz.zeroValue246
  t77 := Tryz.underlying105
  a77 := Tryz.isAgg105
  z77 := Tryz.sizeOf105
  v77 := Tryz.zeroValue105 }
end Go.Proofs.YtijcclpnkfmpnaaGreat
/- The contract of extent.Holes. -/
namespace Go.Proofs.YtijcclpnkfmpnaaGreat
open Go.RowKit Go.Sort Go.Shelf Go.Lib

def cmpX (x y : Ext) : Int := Lib.compareInt x.1 y.1
theorem ltX (x y : Ext) : ltOf cmpX x y = decide (x.1 < y.1) := by
  unfold ltOf cmpX Lib.compareInt
  by_cases h1 : x.1 < y.1
  · simp [h1]
  · by_cases h2 : y.1 < x.1 <;> simp [h1, h2]
theorem swoX : SWO (ltOf cmpX) where
  irrefl x := by rw [ltX]; simp
  trans x y z h1 h2 := by rw [ltX] at *; simp at *; omega
  ntrans x y z h1 h2 := by rw [ltX] at *; simp at *; omega
/-- extents by where they begin -/
def sortE (l : List Ext) : List Ext := pdqL cmpX l
theorem sortE_perm (l : List Ext) : (sortE l).Perm l := (pdqL_perm cmpX swoX l).1
theorem sortE_sorted (l : List Ext) : (sortE l).Pairwise (fun a b => a.1 ≤ b.1) := (pdqL_perm cmpX swoX l).2.imp fun {a b} h => by
  rw [ltX] at h; simp at h; omega
/-- runs between -/
def holesGo : Int → List Ext → List Ext
  | _, [] => []
  | at_, e :: r => (if at_ < e.1 then [(at_, e.1 - at_)] else []) ++ holesGo (e.1 + e.2) r
def holesX (n : Int) (l : List Ext) : List Ext := holesGo 0 (sortE l ++ [(n, 0)])

theorem compare_any (x y : Int) (w : World) : Calls Tryz.prog 93 #[.int .i64 x, .int .i64 y] w fun e w' => e = .returned (.int .i64 (Lib.compareInt x y)) ∧ w = w' := by
  have hn : ∀ z : Int, ∀ W, Calls Tryz.prog 135 #[.int .i64 z] W fun e w' => e = .returned (.bool false) ∧ W = w' := fun z W => by
    go_enter Tryz.func135, Tryz.ntmps135
    go_wp2
    go_ret
    exact ⟨by simp, rfl⟩
  have HN := Hidden.mk hn
  have HC : Hidden (Lib.compareInt x y = if x < y then -1 else if y < x then 1 else 0) := ⟨by unfold Lib.compareInt; rfl⟩
  clear hn
  by_cases h1 : x < y
  · have d1 : decide (x < y) = true := by simpa using h1
    have HV : Hidden (Lib.compareInt x y = -1) := ⟨by rw [HC.out, if_pos h1]⟩
    go_enter Tryz.func93, Tryz.ntmps93
    go_wp2_with (first | (go_at_call 135; refine (HN.out _ _).mono ?_; rintro e w' ⟨rfl, rfl⟩))
    go_ret
    exact ⟨ret_i64 HV.out.symm, rfl⟩
  have d1 : decide (x < y) = false := by simpa using h1
  by_cases h2 : y < x
  · have d2 : decide (y < x) = true := by simpa using h2
    have HV : Hidden (Lib.compareInt x y = 1) := ⟨by rw [HC.out, if_neg h1, if_pos h2]⟩
    go_enter Tryz.func93, Tryz.ntmps93
    go_wp2_with (first | (go_at_call 135; refine (HN.out _ _).mono ?_; rintro e w' ⟨rfl, rfl⟩))
    go_ret
    exact ⟨ret_i64 HV.out.symm, rfl⟩
  have d2 : decide (y < x) = false := by simpa using h2
  have HV : Hidden (Lib.compareInt x y = 0) := ⟨by rw [HC.out, if_neg h1, if_neg h2]⟩
  go_enter Tryz.func93, Tryz.ntmps93
  go_wp2_with (first | (go_at_call 135; refine (HN.out _ _).mono ?_; rintro e w' ⟨rfl, rfl⟩))
  go_ret
  exact ⟨ret_i64 HV.out.symm, rfl⟩
/-- the closure of Holes -/
theorem closeX (x y : Ext) (W : World) : Calls Tryz.prog 125 #[.agg #[.int .i64 x.1, .int .i64 x.2], .agg #[.int .i64 y.1, .int .i64 y.2]] W fun e w' => e = .returned (.int .i64 (cmpX x y)) ∧ ∃ q os', w' = grow (W.drewN q) os' := by
  have hcon := fun W' => compare_any x.1 y.1 W'
  have HC := Hidden.mk hcon
  have HX : Hidden (cmpX x y = Lib.compareInt x.1 y.1) := ⟨rfl⟩
  clear hcon
  rw [HX.out]
  generalize Lib.compareInt x.1 y.1 = r at *
  go_enter Tryz.func125, Tryz.ntmps125
  go_wp2_with (go_at_call 93; refine (HC.out _).mono ?_; rintro e w' ⟨rfl, rfl⟩)
  go_ret
  exact ⟨rfl, 0, _, by rw [alloc_eq_grow, alloc_eq_grow, grow_grow]; rfl⟩
theorem sortX_any (w : World) (base n : Nat) (v : Value) (L : List Ext) (hn : L.length = n) (hl : n ≤ 1000) (hown : w.ownsRow base 83 2 v n (L.flatMap tcells)) :
    Calls Tryz.prog 124 #[v, .func (.func 125) #[] #[]] w fun e w' => e = .returned (.tuple #[]) ∧ w'.ownsRow base 83 2 v n ((sortE L).flatMap tcells) ∧ w.grownBy w' v.ownBlock := by
  rcases hown.2 with ⟨rfl, h0⟩ | ⟨g, cap, cur, rfl, hb, hh, _⟩
  · have hL : L = [] := List.eq_nil_of_length_eq_zero (by omega)
    subst hL h0
    have hs : sortE [] = [] := List.Perm.eq_nil (sortE_perm [])
    have hc := AnyF.slices_SortFunc_none layX none 0 (.func (.func 125) #[] #[]) w
    change Calls Tryz.prog 124 _ _ _ at hc
    refine hc.mono ?_
    rintro e w' ⟨rfl, rfl⟩
    exact ⟨rfl, by rw [hs]; exact hown, World.grownBy.refl _ _⟩
  · have eg : ∀ args w, (callFunc 125 args).run Tryz.prog w = .ok (.enter 125 args) w := enters_of Tryz.func125 (by kernel_rfl) rfl
    have hcon := AnyQ.slices_SortFunc_eq layX 2 Tryz.isAgg83 Tryz.sizeOf83 tcells tcells_len (fun x v hv => by simp [tcells] at hv; rcases hv with rfl | rfl <;> rfl) cmpX swoX 125 #[] g 0 cap L.toArray w eg
      (fun _ _ _ _ x y => closeX x y _) (holdsK_own tcells_len (by omega) hown) (Array.getElem?_eq_some_iff.1 hh).1 (by simp; omega)
    change Calls Tryz.prog 124 _ _ _ at hcon
    have hsz : L.toArray.size = n := by simpa using hn
    rw [hsz] at hcon
    refine hcon.mono ?_
    rintro e w' ⟨rfl, m, os, rfl⟩
    have hds : (pdq (ltOf cmpX) L.toArray 0 n (Lib.bitLen n) true true).size = n := by
      have := (sortE_perm L).length_eq
      unfold sortE pdqL at this
      rw [Array.length_toList, hn] at this
      exact this
    have h2 := own_sortedK (m := m) (os := os) tcells_len (by omega) hds hown
    refine ⟨rfl, ?_, h2.2⟩
    have he : sortE L = (pdq (ltOf cmpX) L.toArray 0 n (Lib.bitLen n) true true).toList := by unfold sortE pdqL; rw [hn]
    rw [he]
    exact h2.1
theorem Src.of_rdX {X : Type} {cells : X → List Value} {C : Nat} (hC : ∀ x, (cells x).length = C) (h0 : 0 < C) {w : World} {A : Option Addr} {n : Nat} {L : List X} (hn : L.length = n) (h : RdX cells C w A L) : Src w C A n (L.flatMap cells) := by
  have hlen : (L.flatMap cells).length = n * C := by
    rw [List.length_flatMap]
    have : L.map (fun x => (cells x).length) = List.replicate n C := by
      rw [List.eq_replicate_iff]
      exact ⟨by simpa using hn, fun b hb => by obtain ⟨x, _, rfl⟩ := List.mem_map.1 hb; exact hC x⟩
    rw [this]; simp
  refine ⟨hlen, fun j u hu => ?_⟩
  have hj : j < n * C := by rw [← hlen]; exact (List.getElem?_eq_some_iff.1 hu).1
  have h1 : j / C < L.length := by rw [hn, Nat.div_lt_iff_lt_mul h0]; exact hj
  obtain ⟨b, off, rfl, hc⟩ := h (j / C) h1
  have h2 := flat_at cells C hC L (j / C) h1 (j % C) (Nat.mod_lt _ h0)
  rw [Nat.div_add_mod' j C] at h2
  refine ⟨_, rfl, ?_⟩
  rw [Addr.add_lit]
  have := hc (j % C) u (h2.symm.trans hu)
  rwa [Nat.add_assoc, Nat.div_add_mod' j C] at this
theorem extent_info : (Tryz.prog.info? 83).map (fun i => (i.zero, i.size, i.bytes)) = some (some (.agg #[.int .i64 0, .int .i64 0]), 2, 16) := by kernel_rfl
theorem tcells_one (L : List Ext) : ∀ u ∈ L.flatMap tcells, u.oneCell' = true := by
  intro u hu
  obtain ⟨x, _, h⟩ := List.mem_flatMap.1 hu
  simp only [tcells, List.mem_cons, List.not_mem_nil, or_false] at h
  rcases h with rfl | rfl <;> rfl
theorem cloneX_any (A : Option Addr) (n c : Nat) (L : List Ext) (w : World) (hn : L.length = n) (hl : n ≤ 1000) (hr : RdX tcells 2 w A L) :
    Calls Tryz.prog 123 #[.slice A n c] w fun e w' => ∃ v, e = .returned v ∧ w'.ownsRow w.heap.size 83 2 v n (L.flatMap tcells) ∧ Below w.heap.size w w' := by
  have he := fun W => Lib.run_eql_slice_nil (P := Tryz.prog) W 88 83 A n c 0 0 Tryz.underlying88
  have hsrc := Src.of_rdX tcells_len (by omega) hn hr
  rcases A with _ | ad
  · have hL : L = [] := by
      cases L with
      | nil => rfl
      | cons x r => obtain ⟨b, off, h, _⟩ := hr 0 (by simp); cases h
    subst hL
    have h0 : n = 0 := by simpa using hn.symm
    subst h0
    clear hr hsrc hn
    go_enter Tryz.func123, Tryz.ntmps123
    go_wp2_with fail
    go_ret
    exact ⟨_, rfl, World.ownsRow_nil _ _ _ _, Below.refl _ _⟩
  · obtain ⟨i0, hi0, hz0, hz1, hz2⟩ := info_parts extent_info
    have hown := World.ownsRow_lit (base := w.heap.size) (e := 83) (size := 2) w #[] 0 (Nat.le_refl _) (by simp) rfl
    have HSRC := Hidden.mk (hsrc.below ((Below.refl _ _).alloc (Nat.le_refl _) (.cells #[] 83)))
    have HOW := Hidden.mk hown
    clear hsrc hown hn hr
    go_enter Tryz.func123, Tryz.ntmps123
    go_wp2_with (at_builtin; refine wpList_append_src _ rfl (.tmp 5) (.tmp 6) _ rfl w.heap.size 83 i0 _ 2 16 Tryz.underlying88 hi0 hz0 hz1 hz2 rfl (by decide) (.slice (some ⟨w.heap.size, 0, none⟩) 0 0) 0 [] rfl HOW.out (some ad) n c (L.flatMap tcells) rfl HSRC.out (tcells_one L) (by simp only [maxLen]; omega) (by omega) (by simp) ?_; intro v1 w1 hown1 hg1 hnn)
    have hB : Below w.heap.size w w1 := ((Below.refl _ _).alloc (Nat.le_refl _) _).grown hg1 (by simp) (fun k hk => by simp [Value.ownBlock] at hk; omega)
    have HO := Hidden.mk (And.intro hown1 hB)
    clear hown1 hB hg1 hnn
    go_ret
    exact ⟨v1, rfl, by simpa using HO.out.1, HO.out.2⟩
/-- what is right for Holes -/
def OkX (l : List Ext) : Prop := ∀ x ∈ l, 0 ≤ x.1 ∧ 0 ≤ x.2 ∧ x.1 + x.2 ≤ 6400
theorem own_mem {w : World} {base n : Nat} {e : TypeId} {v : Value} {xs : List Value} {C : Nat} (h : w.ownsRow base e C v n xs) (hn : 0 < n) : ∃ g cap, v = .slice (some ⟨g, 0, none⟩) n cap ∧ base ≤ g := by
  rcases h.2 with ⟨_, h0⟩ | ⟨g, cap, cur, rfl, hb, _⟩
  · omega
  · exact ⟨g, cap, rfl, hb⟩
set_option maxRecDepth 100000 in
theorem xholes_any (n : Int) (A : Option Addr) (m c : Nat) (l : List Ext) (w : World) (hn0 : 0 ≤ n) (hn1 : n ≤ 6400) (hl : l.length = m) (hm : m ≤ 200) (hr : RdX tcells 2 w A l) (hok : OkX l) :
    Calls Tryz.prog 81 #[.int .i64 n, .slice A m c] w fun e w' => ∃ v, e = .returned v ∧ w'.ownsRow w.heap.size 83 2 v (holesX n l).length ((holesX n l).flatMap tcells) ∧ Below w.heap.size w w' := by
  obtain ⟨i0, hi0, hz0, hz1, hz2⟩ := info_parts extent_info
  have HI := Hidden.mk (And.intro hi0 (And.intro hz0 (And.intro hz1 hz2)))
  have HC := Hidden.mk (cloneX_any A m c l w hl (by omega) hr)
  have HS : Hidden ((sortE l).length = m) := ⟨by rw [(sortE_perm l).length_eq]; exact hl⟩
  have HOK : Hidden (OkX (sortE l ++ [(n, 0)])) := ⟨fun x hx => by
    rcases List.mem_append.1 hx with h | h
    · exact hok x ((sortE_perm l).mem_iff.1 h)
    · rw [List.mem_singleton.1 h]; dsimp only; omega⟩
  have HH : Hidden (holesX n l = holesGo 0 (sortE l ++ [(n, 0)])) := ⟨rfl⟩
  have HSORT : Hidden (∀ W v, W.ownsRow w.heap.size 83 2 v m (l.flatMap tcells) → Calls Tryz.prog 124 #[v, .func (.func 125) #[] #[]] W fun e w' => e = .returned (.tuple #[]) ∧ w'.ownsRow w.heap.size 83 2 v m ((sortE l).flatMap tcells) ∧ W.grownBy w' v.ownBlock) := ⟨fun W v h => sortX_any W _ m v l hl (by omega) h⟩
  rw [HH.out]
  generalize sortE l = S at *
  obtain ⟨X, hX⟩ : ∃ X, X = holesGo 0 (S ++ [(n, 0)]) := ⟨_, rfl⟩
  rw [← hX]
  have HX := Hidden.mk hX
  clear hX HH
  clear hi0 hz0 hz1 hz2 hr hok hl
  go_enter Tryz.func81, Tryz.ntmps81
  go_wp2_with fail
  refine HC.out.mono ?_
  rintro e w1 ⟨v1, rfl, hown1, hb1⟩
  have HO1 := Hidden.mk (And.intro hown1 hb1)
  clear hown1 hb1 HC
  go_wp2_with fail
  refine (HSORT.out _ _ HO1.out.1).mono ?_
  rintro e w2 ⟨rfl, hown2, hg2⟩
  have hb2 : Below w.heap.size w w2 := HO1.out.2.grown hg2 HO1.out.2.size (fun q hq => (HO1.out.1.lt q hq).1)
  have HO2 := Hidden.mk (And.intro hown2 hb2)
  clear hown2 hb2 hg2 HO1 HSORT
  obtain ⟨hi0, hz0, hz1, hz2⟩ := HI.out
  go_wp2_with (at_builtin; refine wpList_append_lies _ rfl (.tmp 12) (.tmp 15) _ rfl w.heap.size 83 i0 _ 2 16 Tryz.underlying88 hi0 hz0 hz1 hz2 rfl (by decide) v1 m (S.flatMap tcells) rfl (own_below HO2.out.1 ((Below.refl _ _).alloc (Nat.le_refl _) _)) ⟨(w2).heap.size, 0, none⟩ 1 1 [.int .i64 n, .int .i64 0] rfl rfl (World.news_of_block (cs := #[.int .i64 n, .int .i64 0]) (t := 83) (fr := (0, 0)) (heap_alloc_new (w2) _)) (by simp [Value.oneCell']) (by omega) (by simp only [maxLen]; omega) (by omega) (by have hz_ := HO2.out.2.size; rw [World.size_alloc]; omega) ((w2).heap.size + 1) (by simp) ?_; intro g3 cap3 w3 hown3 hg3 hat3 hlt3)
  clear hi0 hz0 hz1 hz2
  have hgW := grown_trans' ((Below.refl w2.heap.size w2).alloc (Nat.le_refl _) _) hg3
  have hB3 : Below w.heap.size w w3 := HO2.out.2.grown hgW HO2.out.2.size (fun q hq => (HO2.out.1.lt q hq).1)
  have hown3' : w3.ownsRow w.heap.size 83 2 (.slice (some ⟨g3, 0, none⟩) (m + 1) cap3) (m + 1) ((S ++ [(n, 0)]).flatMap tcells) := by simpa [tcells] using hown3
  have HSL : Hidden ((S ++ [(n, 0)]).length = m + 1) := ⟨by simp [HS.out]⟩
  generalize S ++ [(n, 0)] = T at *
  have H3 : Hidden (Below w.heap.size w w3 ∧ w3.ownsRow w.heap.size 83 2 (.slice (some ⟨g3, 0, none⟩) (m + 1) cap3) (m + 1) (T.flatMap tcells)) := ⟨hB3, hown3'⟩
  clear hgW hB3 hown3 hown3' hg3 hat3 hlt3 HO2 HS
  go_wp2_with fail
  go_loopg [4, 5, 18] (m + 1) (fun q v at_ i wr => ∃ (k : Nat) (H : List Ext) (a : Int), k ≤ m + 1 ∧ q = m + 1 - k ∧ i = .int .i64 (k : Int) ∧ at_ = .int .i64 a ∧ 0 ≤ a ∧ a ≤ 6400 ∧ H.length ≤ k ∧ Hidden (X = H ++ holesGo a (T.drop k) ∧ Below w.heap.size w wr ∧ wr.ownsRow w.heap.size 83 2 (.slice (some ⟨g3, 0, none⟩) (m + 1) cap3) (m + 1) (T.flatMap tcells) ∧ wr.ownsRow w.heap.size 83 2 v H.length (H.flatMap tcells) ∧ v.ownBlock ≠ some g3))
  case atStart => exact ⟨0, [], 0, by omega, rfl, rfl, rfl, by omega, by omega, by simp, ⟨by rw [HX.out]; simp, H3.out.1, H3.out.2, World.ownsRow_nil _ _ _ _, by simp [Value.ownBlock]⟩⟩
  case round =>
    obtain ⟨k, H, a, hk, rfl, rfl, rfl, ha0, ha1, hHk, hst⟩ := hrel
    by_cases hlt : k < m + 1
    · have hkT : k < T.length := by have := HSL.out; omega
      obtain ⟨g, off, hA, hgb, hgl, hcx⟩ := own_at tcells_len hst.out.2.2.1 k hkT (by omega)
      injection hA with hA
      injection hA with hA1 hA2
      subst hA1 hA2
      have c0 := hcx 0 _ rfl
      have c1 := hcx 1 _ rfl
      simp only [Nat.zero_add, Nat.add_zero] at c0 c1
      have hb := HOK.out T[k] (List.getElem_mem hkT)
      have HD : Hidden (T.drop k = T[k] :: T.drop (k + 1)) := ⟨(List.drop_eq_getElem_cons hkT)⟩
      have HG : Hidden (holesGo a (T.drop k) = (if a < T[k].1 then [(a, T[k].1 - a)] else []) ++ holesGo (T[k].1 + T[k].2) (T.drop (k + 1))) := ⟨by rw [HD.out]; rfl⟩
      have k0 : (0 : Int) ≤ k := by omega
      have k1 : (k : Int) < ((m + 1 : Nat) : Int) := by omega
      have k2 : k < m + 1 := hlt
      have k3 : (k : Int) < (m : Int) + 1 := by omega
      generalize T[k] = e at *
      obtain ⟨e1, e2⟩ := e
      dsimp only at c0 c1 hb HG
      obtain ⟨hb0, hb1, hb2⟩ := hb
      have hal : Below wr.heap.size wr (wr.alloc (.cells #[.int .i64 e1, .int .i64 e2] 83)) := (Below.refl _ _).alloc (Nat.le_refl _) _
      have s1 : IntKind.i64.wrap (e1 + e2) = e1 + e2 := IntWalk.i64_in _ (by omega)
      have s2 : IntKind.i64.wrap (e1 - a) = e1 - a := IntWalk.i64_in _ (by omega)
      have s3 : IntKind.i64.wrap ((k : Int) + 1) = (k : Int) + 1 := IntWalk.i64_in _ (by omega)
      have HAL := Hidden.mk hal
      clear hcx HD hal
      by_cases hlt2 : a < e1
      · have d1 : decide (a < e1) = true := by simpa using hlt2
        have HG2 : Hidden (holesGo a (T.drop k) = (a, e1 - a) :: holesGo (e1 + e2) (T.drop (k + 1))) := ⟨by rw [HG.out, if_pos hlt2]; rfl⟩
        have HBW : Hidden (Below w.heap.size w (wr.alloc (.cells #[.int .i64 e1, .int .i64 e2] 83))) := ⟨hst.out.2.1.trans (HAL.out.mono hst.out.2.1.size)⟩
        have hbk : (wr.alloc (.cells #[.int .i64 e1, .int .i64 e2] 83)).heap[wr.heap.size]? = some (.cells #[.int .i64 e1, .int .i64 e2] 83 (0, 0)) := heap_alloc_new wr _
        have HBK := Hidden.mk hbk
        have HAL2 : Hidden (Below wr.heap.size wr ((wr.alloc (.cells #[.int .i64 e1, .int .i64 e2] 83)).alloc (.cells #[.int .i64 a, .int .i64 (e1 - a)] 83))) := ⟨HAL.out.alloc HAL.out.size _⟩
        have HCELL : Hidden (∀ W, ((wr.alloc (.cells #[.int .i64 e1, .int .i64 e2] 83)).alloc (.cells #[.int .i64 a, .int .i64 (e1 - a)] 83)).grownBy W u4.ownBlock → W.cell? ⟨wr.heap.size, 0, none⟩ = some (.int .i64 e1) ∧ W.cell? ⟨wr.heap.size, 1, none⟩ = some (.int .i64 e2)) := ⟨fun W hW => by
          have hq := (hW.block wr.heap.size (by simp; omega) (fun e => by have := (hst.out.2.2.2.1.lt _ e.symm).2; omega)).trans ((Below.heap_alloc _ _ _ (by simp)).trans hbk)
          exact ⟨by simp [World.cell?, hq], by simp [World.cell?, hq]⟩⟩
        obtain ⟨hi0, hz0, hz1, hz2⟩ := HI.out
        clear hbk HG
        go_wp2_with (at_builtin; refine wpList_append_lies _ rfl (.tmp 26) (.tmp 33) _ rfl w.heap.size 83 i0 _ 2 16 Tryz.underlying88 hi0 hz0 hz1 hz2 rfl (by decide) u4 H.length (H.flatMap tcells) rfl (own_below (own_below hst.out.2.2.2.1 HAL.out) ((Below.refl _ _).alloc (Nat.le_refl _) _)) ⟨wr.heap.size + 1, 0, none⟩ 1 1 [.int .i64 a, .int .i64 (e1 - a)] rfl rfl (World.news_of_block (cs := #[.int .i64 a, .int .i64 (e1 - a)]) (t := 83) (fr := (0, 0)) (by have hq_ := heap_alloc_new (wr.alloc (.cells #[.int .i64 e1, .int .i64 e2] 83)) (.cells #[.int .i64 a, .int .i64 (e1 - a)] 83); rwa [World.size_alloc] at hq_)) (by simp [Value.oneCell']) (by omega) (by simp only [maxLen]; omega) (by omega) (by have hz_ := HBW.out.size; rw [World.size_alloc]; omega) (wr.heap.size + 1 + 1) (by simp) ?_; intro g7 cap7 w7 hown7 hg7 hat7 hlt7; have hgW := grown_trans' (HAL2.out) hg7; obtain ⟨z0, z1⟩ := HCELL.out w7 hg7)
        clear hi0 hz0 hz1 hz2
        have hB7 : Below w.heap.size w w7 := hst.out.2.1.grown hgW hst.out.2.1.size (fun q hq => (hst.out.2.2.2.1.lt q hq).1)
        have hg3n : some g3 ≠ u4.ownBlock := fun e => hst.out.2.2.2.2 e.symm
        have hT7 := hst.out.2.2.1.kept hgW (.inr (by simpa [Value.ownBlock] using hg3n))
        have hg37 : g7 ≠ g3 := fun e => by
          rcases hat7 with h | h
          · exact hst.out.2.2.2.2 (by rw [h, e])
          · omega
        have HN : Hidden (X = (H ++ [(a, e1 - a)]) ++ holesGo (e1 + e2) (T.drop (k + 1)) ∧ Below w.heap.size w w7 ∧ w7.ownsRow w.heap.size 83 2 (.slice (some ⟨g3, 0, none⟩) (m + 1) cap3) (m + 1) (T.flatMap tcells) ∧ w7.ownsRow w.heap.size 83 2 (.slice (some ⟨g7, 0, none⟩) (H.length + 1) cap7) (H ++ [(a, e1 - a)]).length ((H ++ [(a, e1 - a)]).flatMap tcells) ∧ (Value.slice (some ⟨g7, 0, none⟩) (H.length + 1) cap7).ownBlock ≠ some g3) :=
          ⟨by rw [hst.out.1, HG2.out]; simp, hB7, hT7, by simpa [tcells] using hown7, by simpa [Value.ownBlock] using hg37⟩
        clear hB7 hg3n hT7 hg37 hown7 hg7 hat7 hlt7 hgW hst HBW HBK HAL2 HCELL HG2
        go_wp2_with fail
        go_roundg (m + 1 - (k + 1))
        case measure => omega
        case rel => exact ⟨k + 1, H ++ [(a, e1 - a)], e1 + e2, by omega, rfl, by go_num, rfl, by omega, by omega, by simp; omega, HN⟩
      · have d1 : decide (a < e1) = false := by simpa using hlt2
        have HG2 : Hidden (holesGo a (T.drop k) = holesGo (e1 + e2) (T.drop (k + 1))) := ⟨by rw [HG.out, if_neg hlt2]; rfl⟩
        have HN : Hidden (X = H ++ holesGo (e1 + e2) (T.drop (k + 1)) ∧ Below w.heap.size w (wr.alloc (.cells #[.int .i64 e1, .int .i64 e2] 83)) ∧ (wr.alloc (.cells #[.int .i64 e1, .int .i64 e2] 83)).ownsRow w.heap.size 83 2 (.slice (some ⟨g3, 0, none⟩) (m + 1) cap3) (m + 1) (T.flatMap tcells) ∧ (wr.alloc (.cells #[.int .i64 e1, .int .i64 e2] 83)).ownsRow w.heap.size 83 2 u4 H.length (H.flatMap tcells) ∧ u4.ownBlock ≠ some g3) :=
          ⟨hst.out.1.trans (by rw [HG2.out]), hst.out.2.1.trans (HAL.out.mono hst.out.2.1.size), own_below hst.out.2.2.1 HAL.out, own_below hst.out.2.2.2.1 HAL.out, hst.out.2.2.2.2⟩
        clear HG HG2 hst
        go_wp2_with fail
        go_roundg (m + 1 - (k + 1))
        case measure => omega
        case rel => exact ⟨k + 1, H, e1 + e2, by omega, rfl, by go_num, rfl, by omega, by omega, by omega, HN⟩
    · obtain rfl : k = m + 1 := by omega
      have HF : Hidden (X = H) := ⟨by rw [hst.out.1, List.drop_of_length_le (by have := HSL.out; omega)]; simp [holesGo]⟩
      go_wp2_with fail
      go_ret
      exact ⟨_, rfl, by rw [HF.out]; exact hst.out.2.2.2.1, hst.out.2.1⟩
end Go.Proofs.YtijcclpnkfmpnaaGreat
/- The contracts of extent.Frees and Fit. -/
namespace Go.Proofs.YtijcclpnkfmpnaaGreat
open Go.RowKit

theorem chkX_ok {n : Int} {l : List Ext} (h : chkX n l = 0) : 0 ≤ n ∧ n ≤ 6400 ∧ l.length ≤ 200 ∧ OkX l ∧ (∀ j (hj : j < l.length), badX n l[j] = false ∧ (l.take j).any (hitX l[j]) = false) := by
  unfold chkX at h
  split at h
  · cases h
  · rename_i h1
    split at h
    · cases h
    · rename_i h2
      have h3 : ∀ j (hj : j < l.length), badX n l[j] = false ∧ (l.take j).any (hitX l[j]) = false := fun j hj => by
        have := faultX_zero (loopX_zero n l l.length h j hj)
        simpa [hj] using this
      refine ⟨by omega, by omega, by omega, fun x hx => ?_, h3⟩
      obtain ⟨j, hj, rfl⟩ := List.getElem_of_mem hx
      have := badX_false (h3 j hj).1
      omega
theorem holesGo_len : ∀ (a : Int) (S : List Ext), (holesGo a S).length ≤ S.length
  | _, [] => Nat.le_refl _
  | a, e :: r => by
    have := holesGo_len (e.1 + e.2) r
    rw [holesGo, List.length_append, List.length_cons]
    split <;> simp <;> omega
theorem holesX_len (n : Int) (l : List Ext) : (holesX n l).length ≤ l.length + 1 := by
  unfold holesX
  have := holesGo_len 0 (sortE l ++ [(n, 0)])
  rw [List.length_append, (sortE_perm l).length_eq] at this
  exact this
def freesL (n : Int) (l : List Ext) : List Ext := if chkX n l = 0 then holesX n l else []
/-- the run that fits best -/
def bestX (size : Int) (H : List Ext) : Ext := H.foldl (fun b h => if size ≤ h.2 ∧ (b.2 = 0 ∨ h.2 < b.2) then h else b) (0, 0)
def fitE (n : Int) (l : List Ext) (size : Int) : Nat := if chkX n l = 0 then (if size < 1 ∨ 6400 < size then 1 else if (bestX size (holesX n l)).2 = 0 then 4 else 0) else chkX n l
def fitA (n : Int) (l : List Ext) (size : Int) : Int := if fitE n l size = 0 then (bestX size (holesX n l)).1 else 0
theorem bestX_succ (size : Int) (H : List Ext) (k : Nat) (hk : k < H.length) : bestX size (H.take (k + 1)) = if size ≤ H[k].2 ∧ ((bestX size (H.take k)).2 = 0 ∨ H[k].2 < (bestX size (H.take k)).2) then H[k] else bestX size (H.take k) := by
  unfold bestX
  rw [List.take_succ_eq_append_getElem hk, List.foldl_append]; rfl
theorem own_base {w : World} {b b' : Nat} {e : TypeId} {size n : Nat} {v : Value} {xs : List Value} (h : w.ownsRow b e size v n xs) (hb : b' ≤ b) : w.ownsRow b' e size v n xs := by
  refine ⟨h.1, ?_⟩
  rcases h.2 with h2 | ⟨g, cap, cur, he, hb2, rest⟩
  · exact .inl h2
  · exact .inr ⟨g, cap, cur, he, Nat.le_trans hb hb2, rest⟩
set_option maxRecDepth 100000 in
theorem xfit_any (n : Int) (A : Option Addr) (m c : Nat) (l : List Ext) (size : Int) (w : World) (hl : l.length = m) (hmc : m ≤ c) (hr : RdX tcells 2 w A l) :
    Calls Tryz.prog 44 #[.int .i64 n, .slice A m c, .int .i64 size] w fun e w' => e = .returned (.tuple #[.int .i64 (fitA n l size), errV (fitE n l size)]) ∧ Below w.heap.size w w' := by
  have HC := Hidden.mk (xcheck_any n A m c l w hl hmc hr)
  have HE : Hidden (fitE n l size = if chkX n l = 0 then (if size < 1 ∨ 6400 < size then 1 else if (bestX size (holesX n l)).2 = 0 then 4 else 0) else chkX n l) := ⟨rfl⟩
  have HA : Hidden (fitA n l size = if fitE n l size = 0 then (bestX size (holesX n l)).1 else 0) := ⟨rfl⟩
  generalize fitE n l size = fe at *
  generalize fitA n l size = fa at *
  by_cases h0 : chkX n l = 0
  · obtain ⟨o0, o1, o2, o3, -⟩ := chkX_ok h0
    have HH : Hidden (∀ W, Below w.heap.size w W → Calls Tryz.prog 81 #[.int .i64 n, .slice A m c] W fun e w' => ∃ v, e = .returned v ∧ w'.ownsRow W.heap.size 83 2 v (holesX n l).length ((holesX n l).flatMap tcells) ∧ Below W.heap.size W w') := ⟨fun W hW => xholes_any n A m c l W o0 o1 hl (by omega) (hr.below hW) o3⟩
    rw [h0] at HC
    rw [show errV 0 = Value.nilIface from rfl] at HC
    have hE := HE.out
    rw [if_pos h0] at hE
    have HE := Hidden.mk hE
    clear hE h0 hr hl o3
    by_cases h1 : size < 1
    · have hfe : fe = 1 := by rw [HE.out, if_pos (.inl h1)]
      have hfa : fa = 0 := by rw [HA.out, hfe]; rfl
      subst hfe hfa
      have d1 : decide (size < 1) = true := by simpa using h1
      clear HE HA HH
      go_enter Tryz.func44, Tryz.ntmps44
      go_wp2_with fail
      refine HC.out.mono ?_
      rintro e w1 ⟨rfl, hb1⟩
      have HB1 := Hidden.mk hb1
      clear hb1
      go_wp2_with fail
      go_ret2
      exact ⟨rfl, HB1.out⟩
    have d1 : decide (size < 1) = false := by simpa using h1
    by_cases h2 : 6400 < size
    · have hfe : fe = 1 := by rw [HE.out, if_pos (.inr h2)]
      have hfa : fa = 0 := by rw [HA.out, hfe]; rfl
      subst hfe hfa
      have d2 : decide (6400 < size) = true := by simpa using h2
      clear HE HA HH
      go_enter Tryz.func44, Tryz.ntmps44
      go_wp2_with fail
      refine HC.out.mono ?_
      rintro e w1 ⟨rfl, hb1⟩
      have HB1 := Hidden.mk hb1
      clear hb1
      go_wp2_with fail
      go_ret2
      exact ⟨rfl, HB1.out⟩
    have d2 : decide (6400 < size) = false := by simpa using h2
    have hE := HE.out
    rw [if_neg (by omega)] at hE
    have HE := Hidden.mk hE
    clear hE
    have hHl := holesX_len n l
    generalize holesX n l = H at *
    go_enter Tryz.func44, Tryz.ntmps44
    go_wp2_with fail
    refine HC.out.mono ?_
    rintro e w1 ⟨rfl, hb1⟩
    have hal : Below w1.heap.size w1 (w1.alloc (.cells #[.int .i64 0, .int .i64 0] 83)) := (Below.refl _ _).alloc (Nat.le_refl _) _
    have HB2 : Hidden (Below w.heap.size w (w1.alloc (.cells #[.int .i64 0, .int .i64 0] 83))) := ⟨hb1.trans (hal.mono hb1.size)⟩
    have HBK : Hidden ((w1.alloc (.cells #[.int .i64 0, .int .i64 0] 83)).heap[w1.heap.size]? = some (.cells #[.int .i64 0, .int .i64 0] 83 (0, 0))) := ⟨heap_alloc_new w1 _⟩
    have HB1 := Hidden.mk hb1.size
    clear hb1 hal
    go_wp2_with fail
    generalize w1.alloc (.cells #[.int .i64 0, .int .i64 0] 83) = w2 at *
    generalize w1.heap.size = bb at *
    refine (HH.out _ HB2.out).mono ?_
    rintro e w3 ⟨v, rfl, hown, hb3⟩
    have hbb : bb < w2.heap.size := (Array.getElem?_eq_some_iff.1 HBK.out).1
    have H3 : Hidden (Below w.heap.size w w3 ∧ w3.heap[bb]? = some (.cells #[.int .i64 0, .int .i64 0] 83 (0, 0)) ∧ w3.ownsRow w2.heap.size 83 2 v H.length (H.flatMap tcells)) := ⟨HB2.out.trans (hb3.mono HB2.out.size), (hb3.block _ hbb).trans HBK.out, hown⟩
    obtain ⟨A3, c3, rfl, hc3, -⟩ := own_split hown
    clear hown hb3 HBK HB2 HH
    generalize hhl : H.length = hl at *
    have HHL := Hidden.mk hhl
    clear hhl
    go_wp2_with fail
    go_loopg [30] hl (fun q i wr => ∃ (k : Nat) (b1 b2 : Int), k ≤ hl ∧ q = hl - k ∧ i = .int .i64 (k : Int) ∧ Hidden (bestX size (H.take k) = (b1, b2) ∧ Below w.heap.size w wr ∧ wr.heap[bb]? = some (.cells #[.int .i64 b1, .int .i64 b2] 83 (0, 0)) ∧ wr.ownsRow w2.heap.size 83 2 (.slice A3 hl c3) hl (H.flatMap tcells)))
    case atStart => exact ⟨0, 0, 0, by omega, rfl, rfl, ⟨rfl, H3.out.1, H3.out.2.1, H3.out.2.2⟩⟩
    case round =>
      obtain ⟨k, b1, b2, hk, rfl, rfl, hst⟩ := hrel
      by_cases hlt : k < hl
      · have hkH : k < H.length := by have := HHL.out; omega
        obtain ⟨g, off, rfl, hgb, hgl, hcx⟩ := own_at tcells_len hst.out.2.2.2 k hkH (by omega)
        have c0 := hcx 0 _ rfl
        have c1 := hcx 1 _ rfl
        simp only [Nat.add_zero] at c0
        have HS := Hidden.mk (bestX_succ size H k hkH)
        rw [hst.out.1] at HS
        generalize H[k] = e at *
        obtain ⟨e1, e2⟩ := e
        dsimp only at c0 c1 HS
        have hal : Below wr.heap.size wr (wr.alloc (.cells #[.int .i64 e1, .int .i64 e2] 83)) := (Below.refl _ _).alloc (Nat.le_refl _) _
        have HBK : Hidden ((wr.alloc (.cells #[.int .i64 e1, .int .i64 e2] 83)).heap[bb]? = some (.cells #[.int .i64 b1, .int .i64 b2] 83 (0, 0))) := ⟨(hal.block _ (Array.getElem?_eq_some_iff.1 hst.out.2.2.1).1).trans hst.out.2.2.1⟩
        have HN : Hidden (Below w.heap.size w (wr.alloc (.cells #[.int .i64 e1, .int .i64 e2] 83)) ∧ (wr.alloc (.cells #[.int .i64 e1, .int .i64 e2] 83)).ownsRow w2.heap.size 83 2 (.slice (some ⟨g, off, none⟩) hl c3) hl (H.flatMap tcells)) := ⟨hst.out.2.1.trans (hal.mono hst.out.2.1.size), own_below hst.out.2.2.2 hal⟩
        have hwb : w.heap.size ≤ bb := HB1.out
        have y0 : (wr.alloc (.cells #[.int .i64 e1, .int .i64 e2] 83)).cell? ⟨bb, 0, none⟩ = some (.int .i64 b1) := by simp [World.cell?, HBK.out]
        have y1 : (wr.alloc (.cells #[.int .i64 e1, .int .i64 e2] 83)).cell? ⟨bb, 1, none⟩ = some (.int .i64 b2) := by simp [World.cell?, HBK.out]
        have hfz : ∀ q, (wr.alloc (.cells #[.int .i64 e1, .int .i64 e2] 83)).frozen? ⟨bb, q, none⟩ = false := fun q => frozen_of_row _ bb q _ _ HBK.out
        have hne : wr.heap.size ≠ bb := by have := (Array.getElem?_eq_some_iff.1 hst.out.2.2.1).1; omega
        have s3 : IntKind.i64.wrap ((k : Int) + 1) = (k : Int) + 1 := IntWalk.i64_in _ (by omega)
        have k1 : (k : Int) < hl := by omega
        clear hcx hal
        by_cases q1 : size ≤ e2
        · have t1 : decide (size ≤ e2) = true := by simpa using q1
          by_cases q2 : b2 = 0 ∨ e2 < b2
          · have HS2 : Hidden (bestX size (H.take (k + 1)) = (e1, e2)) := ⟨by rw [HS.out, if_pos ⟨q1, q2⟩]⟩
            have HBK2 := Hidden.mk (heap_setK (k := 1) (heap_setK (k := 0) HBK.out (.int .i64 e1)) (.int .i64 e2))
            have HN2 : Hidden (Below w.heap.size w (((wr.alloc (.cells #[.int .i64 e1, .int .i64 e2] 83)).setCell ⟨bb, 0, none⟩ (.int .i64 e1)).setCell ⟨bb, 1, none⟩ (.int .i64 e2)) ∧ (((wr.alloc (.cells #[.int .i64 e1, .int .i64 e2] 83)).setCell ⟨bb, 0, none⟩ (.int .i64 e1)).setCell ⟨bb, 1, none⟩ (.int .i64 e2)).ownsRow w2.heap.size 83 2 (.slice (some ⟨g, off, none⟩) hl c3) hl (H.flatMap tcells)) :=
              ⟨(HN.out.1.setCell (p := ⟨bb, 0, none⟩) hwb _).setCell (p := ⟨bb, 1, none⟩) hwb _, ownsRow_block HN.out.2 fun q hq => (Below.heap_setCell _ _ _ _ (fun e => by have := (HN.out.2.lt q hq).1; simp at e; omega)).trans (Below.heap_setCell _ _ _ _ (fun e => by have := (HN.out.2.lt q hq).1; simp at e; omega))⟩
            by_cases q3 : b2 = 0
            · subst q3
              clear HS hst
              go_wp2_with fail
              go_roundg (hl - (k + 1))
              case measure => omega
              case rel => exact ⟨k + 1, e1, e2, by omega, rfl, by go_num, ⟨HS2.out, HN2.out.1, HBK2.out, HN2.out.2⟩⟩
            · have t3 : (b2 == 0) = false := by simpa using q3
              have t4 : decide (e2 < b2) = true := by simp; omega
              clear HS hst
              go_wp2_with fail
              go_roundg (hl - (k + 1))
              case measure => omega
              case rel => exact ⟨k + 1, e1, e2, by omega, rfl, by go_num, ⟨HS2.out, HN2.out.1, HBK2.out, HN2.out.2⟩⟩
          · have HS2 : Hidden (bestX size (H.take (k + 1)) = (b1, b2)) := ⟨by rw [HS.out, if_neg (fun h => q2 h.2)]⟩
            have t3 : (b2 == 0) = false := by simp; omega
            have t4 : decide (e2 < b2) = false := by simp; omega
            clear HS hst
            go_wp2_with fail
            go_roundg (hl - (k + 1))
            case measure => omega
            case rel => exact ⟨k + 1, b1, b2, by omega, rfl, by go_num, ⟨HS2.out, HN.out.1, HBK.out, HN.out.2⟩⟩
        · have t1 : decide (size ≤ e2) = false := by simpa using q1
          have HS2 : Hidden (bestX size (H.take (k + 1)) = (b1, b2)) := ⟨by rw [HS.out, if_neg (fun h => q1 h.1)]⟩
          clear HS hst
          go_wp2_with fail
          go_roundg (hl - (k + 1))
          case measure => omega
          case rel => exact ⟨k + 1, b1, b2, by omega, rfl, by go_num, ⟨HS2.out, HN.out.1, HBK.out, HN.out.2⟩⟩
      · obtain rfl : k = hl := by omega
        have hbe := hst.out.1
        rw [List.take_of_length_le (by have := HHL.out; omega)] at hbe
        have hE := HE.out
        rw [hbe] at hE HA
        dsimp only at hE HA
        have hbk := hst.out.2.2.1
        have y0 : wr.cell? ⟨bb, 0, none⟩ = some (.int .i64 b1) := by simp [World.cell?, hbk]
        have y1 : wr.cell? ⟨bb, 1, none⟩ = some (.int .i64 b2) := by simp [World.cell?, hbk]
        clear hbe hbk
        by_cases hz : b2 = 0
        · have hfe : fe = 4 := by rw [hE, if_pos hz]
          have hfa : fa = 0 := by rw [HA.out, hfe]; rfl
          subst hfe hfa hz
          clear hE HE HA
          go_wp2_with fail
          go_ret2
          exact ⟨rfl, hst.out.2.1⟩
        · have hfe : fe = 0 := by rw [hE, if_neg hz]
          have hfa : fa = b1 := by rw [HA.out, hfe]; rfl
          have t1 : (b2 == 0) = false := by simpa using hz
          subst hfe hfa
          clear hE HE HA
          go_wp2_with fail
          go_ret2
          exact ⟨rfl, hst.out.2.1⟩
  · have hfe : fe = chkX n l := by rw [HE.out, if_neg h0]
    have hfa : fa = 0 := by rw [HA.out, if_neg (by rw [hfe]; exact h0)]
    have hev : errV (chkX n l) = .iface 76 (.int .i64 (chkX n l)) := by unfold errV; rw [if_neg h0]
    rw [hfe, hfa, hev]
    rw [hev] at HC
    generalize chkX n l = q at *
    clear h0 hev HE HA hr hl hfe hfa
    go_enter Tryz.func44, Tryz.ntmps44
    go_wp2_with fail
    refine HC.out.mono ?_
    rintro e w1 ⟨rfl, hb1⟩
    have HB1 := Hidden.mk hb1
    clear hb1
    go_wp2_with fail
    go_ret2
    exact ⟨rfl, HB1.out⟩
end Go.Proofs.YtijcclpnkfmpnaaGreat
/- The heap: what is read of it. -/
namespace Go.Proofs.YtijcclpnkfmpnaaGreat
open Go.RowKit

/-- the fault of a handle; what its entry says -/
def hE (l : Bytes) (x : Int) : Nat := if handleB x = false then 1 else if hasE (rawE l (x - 1).toNat) = true then 0 else 5
def hR (l : Bytes) (x : Int) : Bytes := rawE l (x - 1).toNat
def gH (l : Bytes) (x : Int) : Int := if hE l x = 0 then x else 0
def gA (l : Bytes) (x : Int) : Int := if hE l x = 0 then rAt (hR l x) else 0
def gL (l : Bytes) (x : Int) : Int := if hE l x = 0 then rLen (hR l x) else 0
def gT (l : Bytes) (x : Int) : Int := if hE l x = 0 then rTag (hR l x) else 0
theorem hE_zero {l : Bytes} {x : Int} (h : hE l x = 0) : ∃ k : Nat, k < 40 ∧ x = (k : Int) + 1 ∧ hasE (rawE l k) = true ∧ hR l x = rawE l k := by
  unfold hE at h
  cases hh : handleB x with
  | false => rw [hh] at h; simp at h
  | true =>
    have hb := handleB_true.1 hh
    rw [hh] at h
    refine ⟨(x - 1).toNat, by omega, by omega, ?_, rfl⟩
    cases hq : hasE (rawE l (x - 1).toNat) with
    | true => rfl
    | false => rw [hq] at h; simp at h
theorem hE_has {l : Bytes} {k : Nat} (hk : k < 40) (h : hasE (rawE l k) = true) : hE l ((k : Int) + 1) = 0 ∧ hR l ((k : Int) + 1) = rawE l k := by
  have e : ((k : Int) + 1 - 1).toNat = k := by omega
  unfold hE hR
  rw [e]
  exact ⟨by rw [if_neg (by rw [handleB_true.2 (by omega)]; decide), if_pos h], rfl⟩
theorem hE_hasnt {l : Bytes} {k : Nat} (hk : k < 40) (h : hasE (rawE l k) = false) : hE l ((k : Int) + 1) = 5 := by
  have e : ((k : Int) + 1 - 1).toNat = k := by omega
  unfold hE
  rw [e, if_neg (by rw [handleB_true.2 (by omega)]; decide), if_neg (by rw [h]; decide)]
/-- an entry that a right image has lies within it -/
theorem good_in {l : Bytes} (hg : Good l) {x : Int} (h : hE l x = 0) : 288 ≤ gA l x ∧ 1 ≤ gL l x ∧ gL l x ≤ 1000 ∧ gA l x + gL l x ≤ l.length ∧ 0 ≤ gT l x ∧ gT l x ≤ 15 := by
  obtain ⟨k, hk, rfl, hh, hr⟩ := hE_zero h
  have := strayE_false (hg.s.fit k hk hh)
  unfold gA gL gT
  rw [if_pos h, if_pos h, if_pos h, hr]
  omega
theorem iget_ans (A : Option Addr) (n c : Nat) (l : Bytes) (x : Int) (w : World) (hn : l.length = n) (hr : rightB n = true) (hnc : n ≤ c) (hrd : Rd w A l) :
    Calls Tryz.prog 42 #[.slice A n c, .int .i64 x] w fun e w' => e = .returned (.tuple #[entV (gH l x) (gA l x) (gL l x) (gT l x), errV (hE l x)]) ∧ Below w.heap.size w w' := by
  cases hh : handleB x with
  | false =>
    have h1 : hE l x = 1 := by unfold hE; rw [hh]; rfl
    unfold gH gA gL gT
    rw [h1]
    exact iget_e1 A n c x w hr hh
  | true =>
    have hb := handleB_true.1 hh
    obtain ⟨k, rfl⟩ : ∃ k : Nat, x = (k : Int) + 1 := ⟨(x - 1).toNat, by omega⟩
    refine (iget_ok A n c l k w hn hr hnc hrd (by omega)).mono ?_
    rintro e w' ⟨h1, h2, hb'⟩
    refine ⟨?_, hb'⟩
    cases hq : hasE (rawE l k) with
    | true =>
      obtain ⟨e0, e1⟩ := hE_has (l := l) (k := k) (by omega) hq
      unfold gH gA gL gT
      rw [h1 hq, e0, e1]; rfl
    | false =>
      have e0 := hE_hasnt (l := l) (k := k) (by omega) hq
      unfold gH gA gL gT
      rw [h2 hq, e0]; rfl
section
variable {w0 w : World} {F : Nat → Prop} {h : Nat} {l : Bytes}
theorem htag_any (x : Int) (hp : Hp w0 w F h l) :
    Calls Tryz.prog 53 #[.pointer (some ⟨h, 0, none⟩), .int .i64 x] w fun e w' => e = .returned (.tuple #[.int .i64 (gT l x), errV (hE l x)]) ∧ Below w.heap.size w w' := by
  obtain ⟨g, cap, c0, hcap, hrow, hF⟩ := hp.open_
  have HC := Hidden.mk (iget_ans (some ⟨g, 0, none⟩) l.length cap l x w rfl hp.len hcap hrow.rd)
  unfold entV at HC
  generalize errV (hE l x) = ev at *
  generalize gH l x = a0 at *
  generalize gA l x = a1 at *
  generalize gL l x = a2 at *
  generalize gT l x = a3 at *
  clear hp hrow
  go_enter Tryz.func53, Tryz.ntmps53
  go_wp2_with fail
  refine HC.out.mono ?_
  rintro e w1 ⟨rfl, hb1⟩
  have HB := Hidden.mk (hb1.alloc hb1.size (.cells #[.int .i64 a0, .int .i64 a1, .int .i64 a2, .int .i64 a3] 85))
  clear hb1 HC
  go_wp2_with fail
  go_ret2
  exact ⟨rfl, HB.out⟩
theorem hsize_any (x : Int) (hp : Hp w0 w F h l) :
    Calls Tryz.prog 193 #[.pointer (some ⟨h, 0, none⟩), .int .i64 x] w fun e w' => e = .returned (.tuple #[.int .i64 (gL l x), errV (hE l x)]) ∧ Below w.heap.size w w' := by
  obtain ⟨g, cap, c0, hcap, hrow, hF⟩ := hp.open_
  have HC := Hidden.mk (iget_ans (some ⟨g, 0, none⟩) l.length cap l x w rfl hp.len hcap hrow.rd)
  unfold entV at HC
  generalize errV (hE l x) = ev at *
  generalize gH l x = a0 at *
  generalize gA l x = a1 at *
  generalize gL l x = a2 at *
  generalize gT l x = a3 at *
  clear hp hrow
  go_enter Tryz.func193, Tryz.ntmps193
  go_wp2_with fail
  refine HC.out.mono ?_
  rintro e w1 ⟨rfl, hb1⟩
  have HB := Hidden.mk (hb1.alloc hb1.size (.cells #[.int .i64 a0, .int .i64 a1, .int .i64 a2, .int .i64 a3] 85))
  clear hb1 HC
  go_wp2_with fail
  go_ret2
  exact ⟨rfl, HB.out⟩
theorem hentries_any (hp : Hp w0 w F h l) :
    Calls Tryz.prog 79 #[.pointer (some ⟨h, 0, none⟩)] w fun e w' => ∃ v, e = .returned v ∧ w'.ownsRow w.heap.size 85 4 v (entriesL l).length ((entriesL l).flatMap ecells) ∧ Below w.heap.size w w' := by
  obtain ⟨g, cap, c0, hcap, hrow, hF⟩ := hp.open_
  have HC := Hidden.mk (ientries_ok (some ⟨g, 0, none⟩) l.length cap l w rfl hp.len hcap hrow.rd)
  clear hp hrow
  go_enter Tryz.func79, Tryz.ntmps79
  go_wp2_with fail
  refine HC.out.mono ?_
  rintro e w1 ⟨v, rfl, hown, hb1⟩
  have HB := Hidden.mk (And.intro hown hb1)
  clear hb1 hown HC
  go_wp2_with fail
  go_ret
  exact ⟨v, rfl, HB.out⟩
theorem hroots_any (hp : Hp w0 w F h l) :
    Calls Tryz.prog 49 #[.pointer (some ⟨h, 0, none⟩)] w fun e w' => ∃ v, e = .returned v ∧ w'.ownsRow w.heap.size 99 2 v (rootsL l).length ((rootsL l).flatMap rcells) ∧ Below w.heap.size w w' := by
  obtain ⟨g, cap, c0, hcap, hrow, hF⟩ := hp.open_
  have HC := Hidden.mk (iroots_ok (some ⟨g, 0, none⟩) l.length cap l w rfl hp.len hcap hrow.rd)
  clear hp hrow
  go_enter Tryz.func49, Tryz.ntmps49
  go_wp2_with fail
  refine HC.out.mono ?_
  rintro e w1 ⟨v, rfl, hown, hb1⟩
  have HB := Hidden.mk (And.intro hown hb1)
  clear hb1 hown HC
  go_wp2_with fail
  go_ret
  exact ⟨v, rfl, HB.out⟩
/-- the bytes of an object, where they lie -/
theorem hof_any (g cap : Nat) (a m : Nat) (hh tg : Int) (W : World) (hc : ∃ n, W.cell? ⟨h, 0, none⟩ = some (.slice (some ⟨g, 0, none⟩) n cap)) (ha : a + m ≤ cap) (hm : 1 ≤ m) (hcap : a + m ≤ 281474976710656) :
    Calls Tryz.prog 46 #[.pointer (some ⟨h, 0, none⟩), .agg #[.int .i64 hh, .int .i64 (a : Int), .int .i64 (m : Int), .int .i64 tg]] W fun e w' => e = .returned (.slice (some ⟨g, a, none⟩) m (cap - a)) ∧ Below W.heap.size W w' := by
  obtain ⟨n, hc⟩ := hc
  have hlt := block_lt_of_cell hc
  have HB := Hidden.mk ((Below.refl W.heap.size W).alloc (Nat.le_refl _) (.cells #[.int .i64 hh, .int .i64 (a : Int), .int .i64 (m : Int), .int .i64 tg] 85))
  have s1 : IntKind.i64.wrap ((a : Int) + m) = (a : Int) + m := IntWalk.i64_in _ (by omega)
  have hsl := run_cut g 0 n cap a (a + m) (by omega) (by omega) (by omega)
  rw [Nat.add_sub_cancel_left, Nat.zero_add] at hsl
  simp only [Int.natCast_add] at hsl
  have hbk := heap_alloc_new W (.cells #[.int .i64 hh, .int .i64 (a : Int), .int .i64 (m : Int), .int .i64 tg] 85)
  have hcl := (HB.out.cell (p := ⟨h, 0, none⟩) hlt).trans hc
  have y1 : (W.alloc (.cells #[.int .i64 hh, .int .i64 (a : Int), .int .i64 (m : Int), .int .i64 tg] 85)).cell? ⟨W.heap.size, 1, none⟩ = some (.int .i64 a) := by simp only [World.cell?]; rw [hbk]; rfl
  have y2 : (W.alloc (.cells #[.int .i64 hh, .int .i64 (a : Int), .int .i64 (m : Int), .int .i64 tg] 85)).cell? ⟨W.heap.size, 2, none⟩ = some (.int .i64 m) := by simp only [World.cell?]; rw [hbk]; rfl
  clear hbk hc ha hm hcap
  go_enter Tryz.func46, Tryz.ntmps46
  go_wp2_with fail
  generalize W.alloc (.cells #[.int .i64 hh, .int .i64 (a : Int), .int .i64 (m : Int), .int .i64 tg] 85) = w2 at *
  generalize hB2 : W.heap.size = Bx at *
  have HB2 := Hidden.mk hB2
  clear hB2
  go_quiet (fail)
  go_wp2_with fail
  go_ret
  exact ⟨rfl, by have := HB.out; rw [← HB2.out] at this; exact below_drewN this _⟩
end
end Go.Proofs.YtijcclpnkfmpnaaGreat
/- The heap: what turns it. -/
namespace Go.Proofs.YtijcclpnkfmpnaaGreat
open Go.RowKit

/-- a heap that a call leaves: another image, other blocks of its own, all else as it was -/
structure HpM (w0 w w' : World) (F F' : Nat → Prop) (h : Nat) (l' : Bytes) : Prop where
  hp : Hp w0 w' F' h l'
  kp : Keep F w w'
  nw : ∀ k, F' k → F k ∨ w.heap.size ≤ k
section
variable {w0 w w' : World} {F : Nat → Prop} {h : Nat} {l l' : Bytes}
theorem Hp.same (hp : Hp w0 w F h l) (hb : Below w.heap.size w w') : HpM w0 w w' F F h l := ⟨hp.below hb, Keep.of_below hb, fun _ hk => .inl hk⟩
theorem HpM.trans {F' F'' : Nat → Prop} {w1 w2 : World} {l1 l2 : Bytes} (a : HpM w0 w w1 F F' h l1) (b : HpM w0 w1 w2 F' F'' h l2) : HpM w0 w w2 F F'' h l2 :=
  ⟨b.hp, a.kp.trans b.kp a.nw, fun k hk => by
    rcases b.nw k hk with h1 | h1
    · exact a.nw k h1
    · right; have := a.kp.size; omega⟩
theorem HpM.below (a : HpM w0 w w' F F h l) {w1 : World} (hb : Below w'.heap.size w' w1) : HpM w0 w w1 F F h l := a.trans (a.hp.same hb)
theorem hkeep_below (hb : Below w0.heap.size w0 w) (hk : Keep F w w') (hn : ∀ k, F k → w0.heap.size ≤ k) : Below w0.heap.size w0 w' := hb.trans (hk.below hb.size hn)
/-- the image turned -/
theorem Hp.set (hp : Hp w0 w F h l) {g' cap' : Nat} (hrow : Row w 5 g' cap' l') (hlen : rightB l'.length = true) (hg' : w0.heap.size ≤ g') :
    Hp w0 (w.setCell ⟨h, 0, none⟩ (.slice (some ⟨g', 0, none⟩) l'.length cap')) (fun k => F k ∨ k = g') h l' ∧ Keep F w (w.setCell ⟨h, 0, none⟩ (.slice (some ⟨g', 0, none⟩) l'.length cap')) := by
  obtain ⟨g, cap, hd, hr, hF⟩ := hp.hd
  have hne : h ≠ g' := ne_row hd hrow (by decide)
  have hoth : ∀ q, q ≠ h → (w.setCell ⟨h, 0, none⟩ (.slice (some ⟨g', 0, none⟩) l'.length cap')).heap[q]? = w.heap[q]? := fun q hq => Below.heap_setCell _ _ _ _ (fun e => hq (by simpa using e))
  have hsz : (w.setCell ⟨h, 0, none⟩ (.slice (some ⟨g', 0, none⟩) l'.length cap')).heap.size = w.heap.size := by
    rw [setCell_eq_setRow w h 0 _ _ _ _ hd]; simp [World.setRow]
  have hkeep : Keep F w (w.setCell ⟨h, 0, none⟩ (.slice (some ⟨g', 0, none⟩) l'.length cap')) :=
    ⟨rfl, rfl, rfl, Nat.le_of_eq hsz.symm, fun k _ hn => hoth k (fun e => hn (e ▸ hp.fh))⟩
  refine ⟨⟨⟨g', cap', heap_setK (k := 0) hd _, hrow.block (hoth _ (Ne.symm hne)), .inr rfl⟩, .inl hp.fh, hlen, fun k hk => ?_, fun k hk => ?_, hkeep_below hp.bel hkeep hp.new⟩, hkeep⟩
  · rcases hk with hk | rfl
    · exact hp.new k hk
    · exact hg'
  · rw [hsz]
    rcases hk with hk | rfl
    · exact hp.flt k hk
    · exact hrow.lt
end
end Go.Proofs.YtijcclpnkfmpnaaGreat
/- Roots of a list that are looked for: slices.IndexFunc, ContainsFunc with the closures of heap.Free and root.Get; the extents of a heap. -/
namespace Go.Proofs.YtijcclpnkfmpnaaGreat
open Go.RowKit

/-- where the first is -/
def ixP {X : Type} (p : X → Bool) (L : List X) : Int := if L.any p = true then (L.findIdx p : Int) else -1
theorem ixP_at {X : Type} (p : X → Bool) (L : List X) (k : Nat) (hk : k < L.length) (hn : ∀ x ∈ L.take k, p x = false) (he : p L[k] = true) : ixP p L = k := by
  unfold ixP
  rw [if_pos (List.any_eq_true.2 ⟨_, List.getElem_mem hk, he⟩)]
  congr 1
  rw [List.findIdx_eq hk]
  refine ⟨he, fun j hj => ?_⟩
  have := hn L[j] (List.mem_take_iff_getElem.2 ⟨j, by omega, rfl⟩)
  simpa using this
theorem ixP_none {X : Type} (p : X → Bool) (L : List X) (hn : ∀ x ∈ L, p x = false) : ixP p L = -1 := by
  unfold ixP
  rw [if_neg]
  rw [Bool.not_eq_true, List.any_eq_false]
  intro x hx; rw [hn x hx]; simp
theorem ixP_lt {X : Type} (p : X → Bool) (L : List X) (h : L.any p = true) : ∃ k : Nat, ∃ hk : k < L.length, ixP p L = k ∧ p L[k] = true ∧ ∀ j (hj : j < k), p L[j] = false := by
  have hlt : L.findIdx p < L.length := List.findIdx_lt_length_of_exists (by simpa using h)
  refine ⟨L.findIdx p, hlt, by unfold ixP; rw [if_pos h], List.findIdx_getElem, fun j hj => ?_⟩
  have := List.not_of_lt_findIdx hj
  simpa using this
theorem root1_free (x : Bytes × Nat) (y : Int) (Bx : Nat) (W : World) (h1 : W.cell? ⟨Bx, 0, none⟩ = some (.int .i64 y)) :
    Calls Tryz.prog 50 #[.agg #[sv x.1, .int .i64 x.2], .pointer (some ⟨Bx, 0, none⟩)] W fun e' w' => e' = .returned (.bool ((x.2 : Int) == y)) ∧ Below W.heap.size W w' := by
  obtain ⟨s, q⟩ := x
  dsimp only
  have hlt := block_lt_of_cell h1
  have hW : Below W.heap.size W (W.alloc (.cells #[sv s, .int .i64 q] 99)) := (Below.refl _ _).alloc (Nat.le_refl _) _
  go_enter Tryz.func50, Tryz.ntmps50
  go_wp2_with fail
  go_ret
  exact ⟨rfl, hW⟩
theorem idxR_free (p : Bytes × Nat → Bool) (A : Option Addr) (n c : Nat) (L : List (Bytes × Nat)) (cap : Value) (w : World) (hn : L.length = n) (hl : n ≤ 1000) (hr : RdX rcells 2 w A L)
    (hP : ∀ x ∈ L, ∀ W, Below w.heap.size w W → Calls Tryz.prog 50 #[.agg #[sv x.1, .int .i64 x.2], cap] W fun e w' => e = .returned (.bool (p x)) ∧ Below W.heap.size W w') :
    Calls Tryz.prog 84 #[.slice A n c, .func (.func 50) #[] #[cap]] w fun e w' => e = .returned (.int .i64 (ixP p L)) ∧ Below w.heap.size w w' := by
  subst hn
  have HP := Hidden.mk hP
  clear hP
  go_enter Tryz.func84, Tryz.ntmps84
  go_wp2_with fail
  go_loopw [8] (fun i wr => Below w.heap.size w wr ∧ ∃ k : Nat, k ≤ L.length ∧ i = .int .i64 k ∧ Hidden (∀ x ∈ L.take k, p x = false)) (fun i _ => L.length - (intOf i).toNat)
  case atStart => exact ⟨Below.refl _ _, 0, Nat.zero_le _, rfl, ⟨by simp⟩⟩
  case round =>
    obtain ⟨hbel, k, hk, rfl, hnot⟩ := hrel
    by_cases hlt : k < L.length
    · obtain ⟨b, off, rfl, hcx⟩ := (hr.below hbel) k hlt
      have c0 := hcx 0 _ rfl
      have c1 := hcx 1 _ rfl
      rw [Nat.add_zero] at c0
      have hp := HP.out L[k] (List.getElem_mem hlt) wr hbel
      have HPK := Hidden.mk hp
      have i0 : (0 : Int) ≤ k := by omega
      have i1 : (k : Int) < L.length := by omega
      clear hp hcx
      go_wp2_with fail
      refine (HPK.out).mono ?_
      rintro e w1 ⟨rfl, hb1⟩
      have hB1 := hbel.trans (hb1.mono hbel.size)
      cases he : p L[k] with
      | true =>
        have hi := Hidden.mk (ixP_at p L k hlt hnot.out he)
        clear he hb1 hbel
        go_wp2_with fail
        go_ret
        exact ⟨by rw [hi.out]; rfl, hB1⟩
      | false =>
        have hnk : Hidden (∀ x ∈ L.take (k + 1), p x = false) := ⟨forall_take_succ' hlt hnot.out he⟩
        clear he hnot hb1 hbel
        go_wp2_with fail
        go_roundw
        case rel => exact ⟨hB1, k + 1, by omega, by go_num, hnk⟩
        case measure => simp [intOf]; omega
    · have hi := Hidden.mk (ixP_none p L (by have := hnot.out; rwa [List.take_of_length_le (by omega)] at this))
      go_wp2_with fail
      go_ret
      exact ⟨by rw [hi.out]; rfl, hbel⟩
theorem cfR_free (p : Bytes × Nat → Bool) (A : Option Addr) (n c : Nat) (L : List (Bytes × Nat)) (cap : Value) (w : World) (hn : L.length = n) (hl : n ≤ 1000) (hr : RdX rcells 2 w A L)
    (hP : ∀ x ∈ L, ∀ W, Below w.heap.size w W → Calls Tryz.prog 50 #[.agg #[sv x.1, .int .i64 x.2], cap] W fun e w' => e = .returned (.bool (p x)) ∧ Below W.heap.size W w') :
    Calls Tryz.prog 48 #[.slice A n c, .func (.func 50) #[] #[cap]] w fun e w' => e = .returned (.bool (L.any p)) ∧ Below w.heap.size w w' := by
  have HC := Hidden.mk (idxR_free p A n c L cap w hn hl hr hP)
  have HZ : Hidden (decide (0 ≤ ixP p L) = L.any p) := ⟨by
    unfold ixP
    cases L.any p with
    | true => rw [if_pos rfl]; simp
    | false => rw [if_neg (by decide)]; rfl⟩
  generalize ixP p L = z at *
  clear hP
  go_enter Tryz.func48, Tryz.ntmps48
  go_wp2_with fail
  refine HC.out.mono ?_
  rintro e w1 ⟨rfl, hb⟩
  go_wp2_with fail
  go_ret
  exact ⟨congrArg (fun b => Ending.returned (.bool b)) HZ.out, hb⟩
/-- the extents of an image's objects, behind the head -/
def takeX (x : Int × Bytes) : Ext := ((rAt x.2 : Int) - 288, (rLen x.2 : Int))
def takenL (l : Bytes) : List Ext := (entriesL l).map takeX
theorem takenL_len (l : Bytes) : (takenL l).length ≤ 40 := by unfold takenL; rw [List.length_map]; exact entsL_len _ _ 40
section
variable {w0 w : World} {F : Nat → Prop} {h : Nat} {l : Bytes}
set_option maxRecDepth 100000 in
theorem htaken_any (hp : Hp w0 w F h l) :
    Calls Tryz.prog 43 #[.pointer (some ⟨h, 0, none⟩)] w fun e w' => ∃ A m c, e = .returned (.tuple #[.int .i64 ((l.length : Int) - 288), .slice A m c]) ∧ (takenL l).length = m ∧ m ≤ c ∧ RdX tcells 2 w' A (takenL l) ∧ Below w.heap.size w w' := by
  have hb := rightB_true.1 hp.len
  obtain ⟨i0, hi0, hz0, hz1, hz2⟩ := info_parts extent_info
  have HI := Hidden.mk (And.intro hi0 (And.intro hz0 (And.intro hz1 hz2)))
  have HC := Hidden.mk (hentries_any hp)
  have HP := Hidden.mk hp
  have HT : Hidden (takenL l = (entriesL l).map takeX) := ⟨rfl⟩
  have hle : (entriesL l).length ≤ 40 := entsL_len _ _ 40
  generalize entriesL l = E at *
  clear hi0 hz0 hz1 hz2 hp
  go_enter Tryz.func43, Tryz.ntmps43
  go_wp2_with fail
  refine HC.out.mono ?_
  rintro e w1 ⟨v, rfl, hown, hb1⟩
  obtain ⟨A1, c1, rfl, hc1, -⟩ := own_split hown
  have HR := Hidden.mk (own_rdX3 (f := ecells) (fun _ => rfl) rfl hown)
  have HB := Hidden.mk hb1
  generalize hm : E.length = m at *
  have HM := Hidden.mk hm
  clear hown hb1 HC hm
  go_wp2_with fail
  go_loopg [3, 9] m (fun q v i wr => ∃ k : Nat, k ≤ m ∧ q = m - k ∧ i = .int .i64 (k : Int) ∧ Hidden (Below w1.heap.size w1 wr ∧ wr.ownsRow w1.heap.size 83 2 v k (((E.take k).map takeX).flatMap tcells)))
  case atStart => exact ⟨0, by omega, rfl, rfl, ⟨Below.refl _ _, World.ownsRow_nil _ _ _ _⟩⟩
  case round =>
    obtain ⟨k, hk, rfl, rfl, hst⟩ := hrel
    by_cases hlt : k < m
    · have hkE : k < E.length := by have := HM.out; omega
      obtain ⟨p, off, rfl, hcx⟩ := (HR.out.below hst.out.1) k hkE
      have x0 := hcx 0 _ rfl
      have x1 := hcx 1 _ rfl
      have x2 := hcx 2 _ rfl
      have x3 := hcx 3 _ rfl
      rw [Nat.add_zero] at x0
      have HS : Hidden ((E.take (k + 1)).map takeX = (E.take k).map takeX ++ [takeX E[k]]) := ⟨by rw [List.take_succ_eq_append_getElem hkE, List.map_append]; rfl⟩
      have b1 := rAt_le E[k].2
      have b2 := rLen_le E[k].2
      have HX : Hidden (takeX E[k] = ((rAt E[k].2 : Int) - 288, (rLen E[k].2 : Int))) := ⟨rfl⟩
      generalize takeX E[k] = tx at *
      generalize E[k].1 = e0 at *
      generalize rAt E[k].2 = e1 at *
      generalize rLen E[k].2 = e2 at *
      generalize rTag E[k].2 = e3 at *
      have s1 : IntKind.i64.wrap ((e1 : Int) - 288) = (e1 : Int) - 288 := IntWalk.i64_in _ (by omega)
      have s3 : IntKind.i64.wrap ((k : Int) + 1) = (k : Int) + 1 := IntWalk.i64_in _ (by omega)
      have k0 : (0 : Int) ≤ k := by omega
      have k1 : (k : Int) < m := by omega
      have hal : Below wr.heap.size wr (wr.alloc (.cells #[.int .i64 e0, .int .i64 e1, .int .i64 e2, .int .i64 e3] 85)) := (Below.refl _ _).alloc (Nat.le_refl _) _
      have HN : Hidden (Below w1.heap.size w1 (wr.alloc (.cells #[.int .i64 e0, .int .i64 e1, .int .i64 e2, .int .i64 e3] 85)) ∧ (wr.alloc (.cells #[.int .i64 e0, .int .i64 e1, .int .i64 e2, .int .i64 e3] 85)).ownsRow w1.heap.size 83 2 u3 k (((E.take k).map takeX).flatMap tcells)) := ⟨hst.out.1.trans (hal.mono hst.out.1.size), own_below hst.out.2 hal⟩
      obtain ⟨hi0, hz0, hz1, hz2⟩ := HI.out
      clear hcx hal hst
      go_wp2_with (at_builtin; refine wpList_append_lies _ rfl (.tmp 13) (.tmp 22) _ rfl w1.heap.size 83 i0 _ 2 16 Tryz.underlying88 hi0 hz0 hz1 hz2 rfl (by decide) u3 k (((E.take k).map takeX).flatMap tcells) rfl (own_below HN.out.2 ((Below.refl _ _).alloc (Nat.le_refl _) _)) ⟨wr.heap.size + 1, 0, none⟩ 1 1 [.int .i64 ((e1 : Int) - 288), .int .i64 e2] rfl rfl (World.news_of_block (cs := #[.int .i64 ((e1 : Int) - 288), .int .i64 e2]) (t := 83) (fr := (0, 0)) (by have hq_ := heap_alloc_new ((wr.alloc (.cells #[.int .i64 e0, .int .i64 e1, .int .i64 e2, .int .i64 e3] 85))) (.cells #[.int .i64 ((e1 : Int) - 288), .int .i64 e2] 83); rwa [World.size_alloc] at hq_)) (by simp [Value.oneCell']) (by omega) (by simp only [maxLen]; omega) (by omega) (by have hz_ := HN.out.1.size; rw [World.size_alloc]; omega) (wr.heap.size + 1 + 1) (by simp) ?_; intro g8 cap8 w8 hown8 hg8 hat8 hlt8)
      have hgW := grown_trans' ((Below.refl (wr.alloc (.cells #[.int .i64 e0, .int .i64 e1, .int .i64 e2, .int .i64 e3] 85)).heap.size (wr.alloc (.cells #[.int .i64 e0, .int .i64 e1, .int .i64 e2, .int .i64 e3] 85))).alloc (Nat.le_refl _) _) hg8
      have hB8 : Below w1.heap.size w1 w8 := HN.out.1.grown hgW HN.out.1.size (fun q hq => (HN.out.2.lt q hq).1)
      have HF : Hidden (Below w1.heap.size w1 w8 ∧ w8.ownsRow w1.heap.size 83 2 (.slice (some ⟨g8, 0, none⟩) (k + 1) cap8) (k + 1) (((E.take (k + 1)).map takeX).flatMap tcells)) := ⟨hB8, by rw [HS.out, HX.out]; simpa [tcells] using hown8⟩
      clear hgW hB8 hown8 hg8 hat8 hlt8 hi0 hz0 hz1 hz2
      go_roundg (m - (k + 1))
      case measure => omega
      case rel => exact ⟨k + 1, by omega, rfl, by go_num, HF⟩
    · obtain rfl : m = k := by omega
      obtain ⟨g, cap, hh, hcap, hrow, hF⟩ := (HP.out.below (HB.out.trans (hst.out.1.mono HB.out.size))).open_
      have s1 : IntKind.i64.wrap ((l.length : Int) - 288) = (l.length : Int) - 288 := IntWalk.i64_in _ (by omega)
      have hT := hst.out.2
      rw [List.take_of_length_le (by have := HM.out; omega), ← HT.out] at hT
      have HL : Hidden ((takenL l).length = m) := ⟨by rw [HT.out, List.length_map]; exact HM.out⟩
      obtain ⟨A3, c3, rfl, hc3, -⟩ := own_split hT
      have HF : Hidden (RdX tcells 2 wr A3 (takenL l) ∧ Below w.heap.size w wr) := ⟨own_rdX3 tcells_len HL.out hT, HB.out.trans (hst.out.1.mono HB.out.size)⟩
      clear hT hst hrow hF
      go_wp2_with fail
      go_ret2
      exact ⟨A3, m, c3, rfl, HL.out, hc3, HF.out.1, HF.out.2⟩
end
end Go.Proofs.YtijcclpnkfmpnaaGreat
