/- The contract of check.roots: closures and slices.Contains over names. -/
import Derived.Test.YtbcafgocachddaaDoorChk2
namespace Go.Proofs.YtbcafgocachddaaDoor
open Go.RowKit

/-- the slice at A has the texts L -/
def RdS (w : World) (A : Option Addr) (L : List Bytes) : Prop := ∀ j (h : j < L.length), ∃ b off, A = some ⟨b, off, none⟩ ∧ w.cell? ⟨b, off + j, none⟩ = some (sv L[j])
theorem own_rdS {w : World} {base e : Nat} {v : Value} {L : List Bytes} (h : w.ownsRow base e 1 v L.length (L.map fun x => sv x)) : ∃ A c, v = .slice A L.length c ∧ L.length ≤ c ∧ RdS w A L := by
  rcases h.2 with ⟨rfl, h0⟩ | ⟨g, cap, cur, rfl, _, hh, hc, hm, hz, ht⟩
  · exact ⟨none, 0, by rw [h0], by omega, fun i hi => by omega⟩
  · refine ⟨_, cap, rfl, hc, fun i hi => ⟨g, 0, rfl, ?_⟩⟩
    have := h.cells (g := g) rfl i (sv L[i]) (by simp [hi])
    rw [Addr.add_lit] at this
    exact this
theorem indexS_any (A : Option Addr) (n c : Nat) (L : List Bytes) (s : Bytes) (w : World) (hn : L.length = n) (hl : n ≤ 1000) (hr : RdS w A L) :
    Calls Tryd.prog 142 #[.slice A n c, sv s] w fun e w' => ∃ z : Int, e = .returned (.int .i64 z) ∧ decide (0 ≤ z) = L.any (fun x => s == x) ∧ w = w' := by
  subst hn
  go_enter Tryd.func142, Tryd.ntmps142
  go_wp2_with fail
  go_loopw [8] (fun i wr => w = wr ∧ ∃ k : Nat, k ≤ L.length ∧ i = .int .i64 k ∧ Hidden (∀ x ∈ L.take k, (s == x) = false)) (fun i _ => L.length - (intOf i).toNat)
  case atStart => exact ⟨rfl, 0, Nat.zero_le _, rfl, ⟨by simp⟩⟩
  case round =>
    obtain ⟨rfl, k, hk, rfl, hnot⟩ := hrel
    by_cases hlt : k < L.length
    · obtain ⟨b, off, rfl, c0⟩ := hr k hlt
      have i0 : (0 : Int) ≤ k := by omega
      have i1 : (k : Int) < L.length := by omega
      cases he : (s == L[k]) with
      | true =>
        have hi : Hidden (true = L.any fun x => s == x) := ⟨(List.any_eq_true.2 ⟨L[k], List.getElem_mem hlt, he⟩).symm⟩
        go_wp2_with fail
        go_ret
        exact ⟨_, rfl, by rw [← hi.out]; simp, rfl⟩
      | false =>
        have hnk : Hidden (∀ x ∈ L.take (k + 1), (s == x) = false) := ⟨forall_take_succ' hlt hnot.out he⟩
        clear hnot
        go_wp2_with fail
        go_roundw
        case rel => exact ⟨by trivial, k + 1, by omega, by go_num, hnk⟩
        case measure => simp [intOf]; omega
    · have hi : Hidden (false = L.any fun x => s == x) := ⟨by
        have := hnot.out
        rw [List.take_of_length_le (by omega)] at this
        symm; simpa using this⟩
      go_wp2_with fail
      go_ret
      exact ⟨-1, rfl, by rw [← hi.out]; rfl, rfl⟩
theorem containsS_any (A : Option Addr) (n c : Nat) (L : List Bytes) (s : Bytes) (w : World) (hn : L.length = n) (hl : n ≤ 1000) (hr : RdS w A L) :
    Calls Tryd.prog 126 #[.slice A n c, sv s] w fun e w' => e = .returned (.bool (L.any (fun x => s == x))) ∧ w = w' := by
  have HC := Hidden.mk (indexS_any A n c L s w hn hl hr)
  go_enter Tryd.func126, Tryd.ntmps126
  go_wp2_with fail
  refine HC.out.mono ?_
  rintro e w1 ⟨z, rfl, hz, rfl⟩
  have HZ := Hidden.mk hz
  clear hz
  go_wp2_with fail
  go_ret
  exact ⟨congrArg (fun b => Ending.returned (.bool b)) HZ.out, rfl⟩
/-- the closure of roots -/
theorem leads1_any (r : Bytes) (hr11 : r.length = 11) (Bx p off c : Nat) (x : Int × Bytes) (W : World) (h1 : W.cell? ⟨Bx, 0, none⟩ = some (.slice (some ⟨p, off, none⟩) 11 c)) (hrd : Rd W (some ⟨p, off, none⟩) r) :
    Calls Tryd.prog 125 #[entR x.1 x.2, .pointer (some ⟨Bx, 0, none⟩)] W fun e w' => e = .returned (.bool (x.1 == ((r.getD 10 0).toNat : Int))) ∧ Below W.heap.size W w' := by
  have hlt := block_lt_of_cell h1
  have c10 := hrd.at_ 10 (by omega)
  have hx10 : Hidden (r[10]'(by omega) = r.getD 10 0) := ⟨by simp [hr11]⟩
  have hlp := block_lt_of_cell c10
  generalize r[10]'(by omega) = r10 at *
  have hw0 : IntKind.i64.wrap (r10.toNat : Int) = (r10.toNat : Int) := IntWalk.i64_in _ (by have := u8_lt r10; omega)
  have hW : Below W.heap.size W (W.alloc (.cells #[.int .i64 x.1, .int .i64 (rAt x.2), .int .i64 (rLen x.2), .int .i64 (rTag x.2)] 26)) := (Below.refl _ _).alloc (Nat.le_refl _) _
  obtain ⟨xh, xr⟩ := x
  unfold entR
  dsimp only at *
  generalize rAt xr = c1 at *
  generalize rLen xr = c2 at *
  generalize rTag xr = c3 at *
  clear hrd hr11
  go_enter Tryd.func125, Tryd.ntmps125
  go_wp2_with fail
  go_quiet (fail)
  go_wp2_with fail
  go_ret
  exact ⟨by rw [← hx10.out]; rfl, below_drewN hW _⟩

theorem rawR_len (l : Bytes) (i : Nat) (hi : i < 8) (hn : 288 ≤ l.length) : (rawR l i).length = 11 := by
  unfold rawR; simp; omega
theorem rawR_rd {w : World} {A : Option Addr} {l : Bytes} (h : Rd w A l) (i : Nat) (hi : i < 8) (hn : 288 ≤ l.length) : Rd w (A.map (·.add (200 + 11 * i))) (rawR l i) := h.cut (200 + 11 * i) 11 (by omega)
theorem rootO_k (k : Nat) : rootO (k : Int) = 200 + 11 * k := by unfold rootO; omega
def namesL (leads : UInt8 → Bool) (S : Nat → Bytes) (m : Nat) : List Bytes := ((List.range m).filter fun i => kindR leads S i == 6).map fun i => nmR (S i)
theorem namesL_succ (leads : UInt8 → Bool) (S : Nat → Bytes) (m : Nat) : namesL leads S (m + 1) = namesL leads S m ++ (if kindR leads S m = 6 then [nmR (S m)] else []) := by
  unfold namesL
  rw [List.range_succ, List.filter_append, List.map_append]
  congr 1
  by_cases h : kindR leads S m = 6 <;> simp [h]
theorem namesL_len (leads : UInt8 → Bool) (S : Nat → Bytes) (m : Nat) : (namesL leads S m).length ≤ m := by
  unfold namesL
  rw [List.length_map]
  have := List.length_filter_le (fun i => kindR leads S i == 6) (List.range m)
  rwa [List.length_range] at this
theorem namesL_any (leads : UInt8 → Bool) (S : Nat → Bytes) (s : Bytes) : ∀ m, (namesL leads S m).any (fun x => s == x) = (List.range m).any fun j => okR leads (S j) && (s == nmR (S j))
  | 0 => rfl
  | m + 1 => by
    rw [namesL_succ, List.any_append, List.range_succ, List.any_append, namesL_any leads S s m]
    by_cases h : kindR leads S m = 6
    · have hok : okR leads (S m) = true := by
        unfold kindR at h; unfold okR
        split at h
        · simp at h
        · split at h
          · simp at h
          · rename_i h1 h2; simp [h1, h2]
      simp [h, hok]
    · simp only [if_neg h, List.any_nil, List.any_cons, Bool.or_false]
      cases hok : okR leads (S m) with
      | false => simp
      | true =>
        have hz : zeroE (S m) = false := by unfold okR at hok; simp at hok; exact hok.1
        have hb : badR leads (S m) = false := by unfold okR at hok; simp at hok; exact hok.2
        have h5 : ((List.range m).any fun j => okR leads (S j) && (nmR (S m) == nmR (S j))) = true := by
          unfold kindR at h
          rw [hz, hb] at h
          simp only [Bool.false_eq_true, if_false] at h
          split at h
          · assumption
          · simp at h
        by_cases he : s = nmR (S m)
        · subst he; rw [h5]; simp
        · simp [he]
/-- two slices of the call's own: faults, names -/
structure RSt (w : World) (base : Nat) (vf vn : Value) (F : List Flt) (N : List Bytes) : Prop where
  f : w.ownsRow base 151 2 vf F.length (F.flatMap fcells)
  n : w.ownsRow base 9 1 vn N.length (N.map fun x => sv x)
section
variable {w w' : World} {base : Nat} {vf vn vf' vn' : Value} {F : List Flt} {N : List Bytes}
theorem RSt.below (h : RSt w base vf vn F N) (hb : Below w.heap.size w w') : RSt w' base vf vn F N := ⟨own_below h.f hb, own_below h.n hb⟩
theorem RSt.addF (h : RSt w base vf vn F N) {x : Flt} (hg : w.grownBy w' vf.ownBlock) (h' : w'.ownsRow base 151 2 vf' (F.length + 1) (F.flatMap fcells ++ fcells x)) : RSt w' base vf' vn (F ++ [x]) N :=
  ⟨by simpa using h', h.n.kept hg (own_apart h.n h.f (by decide))⟩
theorem RSt.addN (h : RSt w base vf vn F N) {x : Bytes} (hg : w.grownBy w' vn.ownBlock) (h' : w'.ownsRow base 9 1 vn' (N.length + 1) ((N.map fun x => sv x) ++ [sv x])) : RSt w' base vf vn' F (N ++ [x]) :=
  ⟨h.f.kept hg (own_apart h.f h.n (by decide)), by simpa using h'⟩
end
theorem string_info : (Tryd.prog.info? 9).map (fun i => (i.zero, i.size, i.bytes)) = some (some (.string ByteArray.empty), 1, 16) := by kernel_rfl
theorem RdEs.belowB {w w' : World} {A : Option Addr} {L : List (Int × Bytes)} (h : RdEs w A L) (hb : Below w.heap.size w w') : RdEs w' A L := h.below hb
set_option maxRecDepth 100000 in
set_option maxHeartbeats 1000000 in
theorem roots_ok (A Ar : Option Addr) (n c nr cr : Nat) (l : Bytes) (L : List (Int × Bytes)) (leads : UInt8 → Bool) (w : World) (hn : l.length = n) (hr : rightB n = true) (hnc : n ≤ c) (hrd : Rd w A l) (hnr : L.length = nr) (hl : nr ≤ 100) (hrl : RdEs w Ar L)
    (hleads : ∀ x : UInt8, (L.any fun e => e.1 == (x.toNat : Int)) = leads x) :
    Calls Tryd.prog 99 #[.slice A n c, .slice Ar nr cr] w fun e w' => ∃ vf, e = .returned vf ∧ w'.ownsRow w.heap.size 151 2 vf (faultsR leads (rawR l) 8).length ((faultsR leads (rawR l) 8).flatMap fcells) ∧ Below w.heap.size w w' := by
  have hnb := rightB_true.1 hr
  obtain ⟨i1, hi1, hy0, hy1, hy2⟩ := info_parts fault_info
  obtain ⟨i2, hi2, hx0, hx1, hx2⟩ := info_parts string_info
  have HRAW : Hidden (∀ k : Nat, k < 8 → ∀ W, Below w.heap.size w W → Rd W (A.map (·.add (200 + 11 * k))) (rawR l k)) := ⟨fun k hk W hW => rawR_rd (hrd.below hW) k hk (by omega)⟩
  have HLEN : Hidden (∀ k : Nat, k < 8 → (rawR l k).length = 11) := ⟨fun k hk => rawR_len l k hk (by omega)⟩
  have HLD := Hidden.mk hleads
  have HNR := Hidden.mk hnr
  have HRL := Hidden.mk hrl
  generalize rawR l = S at *
  clear hr hrd hn hleads hnr hrl
  go_enter Tryd.func99, Tryd.ntmps99
  go_wp2_with fail
  go_loopw [4, 5, 11] (fun vf vn i wr => ∃ k : Nat, k ≤ 8 ∧ i = .int .i64 (k : Int) ∧ Below w.heap.size w wr ∧ RSt wr w.heap.size vf vn (faultsR leads S k) (namesL leads S k)) (fun _ _ i _ => 8 - (intOf i).toNat)
  case atStart => exact ⟨0, by omega, rfl, Below.refl _ _, World.ownsRow_nil _ _ _ _, World.ownsRow_nil _ _ _ _⟩
  case round =>
    obtain ⟨k, hk, rfl, hbel, hst⟩ := hrel
    by_cases hlt : k < 8
    · have k0 : (k : Int) < 8 := by omega
      have s1 : IntKind.i64.wrap ((k : Int) + 1) = (k : Int) + 1 := IntWalk.i64_in _ (by omega)
      have hlF := faultsR_len leads S k
      have hlN := namesL_len leads S k
      have HSF := Hidden.mk (faultsR_succ leads S k)
      have HSN := Hidden.mk (namesL_succ leads S k)
      have hrw := HRAW.out k hlt wr hbel
      have hlen := HLEN.out k hlt
      obtain ⟨p, off, hA, hpl⟩ := hrw.lt (by omega)
      rw [hA] at hrw
      have HA := Hidden.mk hA
      clear hA hlen
      go_wp2_with fail
      refine (rawRoot_any A n c (k : Int) _ (by omega) (by omega) (by omega) hnc).mono ?_
      rintro e w1 ⟨rfl, rfl⟩
      rw [rootO_k, HA.out]
      have hal : Below wr.heap.size wr (wr.alloc (.cells #[.slice (some ⟨p, off, none⟩) 11 (c - (200 + 11 * k))] 22)) := (Below.refl _ _).alloc (Nat.le_refl _) _
      have hB2 : Below w.heap.size w (wr.alloc (.cells #[.slice (some ⟨p, off, none⟩) 11 (c - (200 + 11 * k))] 22)) := hbel.alloc hbel.size _
      have hst2 := hst.below hal
      have hrw2 := hrw.below hal
      have hbx : (wr.alloc (.cells #[.slice (some ⟨p, off, none⟩) 11 (c - (200 + 11 * k))] 22)).heap[wr.heap.size]? = some (.cells #[.slice (some ⟨p, off, none⟩) 11 (c - (200 + 11 * k))] 22 (0, 0)) := heap_alloc_new wr _
      go_wp2_with fail
      generalize hcc : c - (200 + 11 * k) = cc at *
      have hc8 : 8 ≤ cc := by omega
      generalize wr.alloc (.cells #[.slice (some ⟨p, off, none⟩) 11 cc] 22) = w2 at *
      generalize wr.heap.size = Bx at *
      clear hst hbel hal hrw hcc hpl
      refine (izero_any _ 11 _ (S k) _ (HLEN.out k hlt) (by simp [maxLen]) hrw2).mono ?_
      rintro e w3 ⟨rfl, rfl⟩
      cases hz : zeroE (S k) with
      | true =>
        have hk0 : kindR leads S k = 0 := by unfold kindR; rw [if_pos hz]
        have e1 : faultsR leads S (k + 1) = faultsR leads S k := by rw [HSF.out, hk0]; simp [fltOf]
        have e2 : namesL leads S (k + 1) = namesL leads S k := by rw [HSN.out, hk0]; simp
        have hst3 : RSt w2 w.heap.size u4 u5 (faultsR leads S (k + 1)) (namesL leads S (k + 1)) := by rw [e1, e2]; exact hst2
        have HST := Hidden.mk hst3
        clear e1 e2 hst3 hst2 hz hk0
        go_wp2_with fail
        go_roundw
        case rel => exact ⟨k + 1, by omega, by go_num, hB2, HST.out⟩
        case measure => simp [intOf]; omega
      | false =>
        have HKIND : Hidden (kindR leads S k = if badR leads (S k) = true then 4 else if (namesL leads S k).any (fun x => nmR (S k) == x) = true then 5 else 6) := ⟨by
          rw [namesL_any]; unfold kindR; rw [hz]; simp⟩
        have FIN4 : Hidden (badR leads (S k) = true → faultsR leads S (k + 1) = faultsR leads S k ++ [⟨4, k⟩] ∧ namesL leads S (k + 1) = namesL leads S k) := ⟨fun hb => ⟨by rw [HSF.out, HKIND.out, if_pos hb]; simp [fltOf], by rw [HSN.out, HKIND.out, if_pos hb]; simp⟩⟩
        have FIN5 : Hidden (badR leads (S k) = false → (namesL leads S k).any (fun x => nmR (S k) == x) = true → faultsR leads S (k + 1) = faultsR leads S k ++ [⟨5, k⟩] ∧ namesL leads S (k + 1) = namesL leads S k) := ⟨fun hb ha => ⟨by rw [HSF.out, HKIND.out, hb, ha]; simp [fltOf], by rw [HSN.out, HKIND.out, hb, ha]; simp⟩⟩
        have FIN6 : Hidden (badR leads (S k) = false → (namesL leads S k).any (fun x => nmR (S k) == x) = false → faultsR leads S (k + 1) = faultsR leads S k ∧ namesL leads S (k + 1) = namesL leads S k ++ [nmR (S k)]) := ⟨fun hb ha => ⟨by rw [HSF.out, HKIND.out, hb, ha]; simp [fltOf], by rw [HSN.out, HKIND.out, hb, ha]; simp⟩⟩
        have y0 : w2.cell? ⟨Bx, 0, none⟩ = some (.slice (some ⟨p, off, none⟩) 11 cc) := by simp [World.cell?, hbx]
        have hltx : Bx < w2.heap.size := (Array.getElem?_eq_some_iff.1 hbx).1
        clear hz HKIND
        go_wp2_with fail
        refine (getName_any (some ⟨p, off, none⟩) cc ((S k).take 8) w2 (by simp [HLEN.out k hlt]) hc8 (hrw2.take 8 (by rw [HLEN.out k hlt]; omega))).mono ?_
        rintro e w3 ⟨he, hb3⟩
        have hB3 := hB2.trans (hb3.mono hB2.size)
        have hst3 := hst2.below hb3
        have hrw3 := hrw2.below hb3
        have hbx3 := (hb3.block Bx hltx).trans hbx
        have hltx3 : Bx < w3.heap.size := (Array.getElem?_eq_some_iff.1 hbx3).1
        have hcf := cfe_leads (fun x => x.1 == (((S k).getD 10 0).toNat : Int)) Ar nr cr L (.pointer (some ⟨Bx, 0, none⟩)) w3 HNR.out (by omega) (RdEs.belowB HRL.out hB3) (fun x _ W hW => leads1_any (S k) (HLEN.out k hlt) Bx p off cc x W (by have := (hW.block Bx hltx3).trans hbx3; simp [World.cell?, this]) (hrw3.below hW))
        rw [HLD.out] at hcf
        have HCF := Hidden.mk hcf
        have HLE := HLEN.out k hlt
        have q8 := hrw3.at_ 8 (by rw [HLE]; omega)
        have q9 := hrw3.at_ 9 (by rw [HLE]; omega)
        have g8 : (S k).getD 8 0 = (S k)[8]'(by rw [HLE]; omega) := by simp [HLE]
        have g9 : (S k).getD 9 0 = (S k)[9]'(by rw [HLE]; omega) := by simp [HLE]
        have z3 : w3.cell? ⟨Bx, 0, none⟩ = some (.slice (some ⟨p, off, none⟩) 11 cc) := by simp [World.cell?, hbx3]
        have HBAD : Hidden (badR leads (S k) = (!gotName ((S k).take 8) || (((S k)[8]'(by rw [HLE]; omega)).toNat : Int) != 0 || (((S k)[9]'(by rw [HLE]; omega)).toNat : Int) != 0 || !leads ((S k).getD 10 0))) := ⟨by
          unfold badR; rw [bv_bne, bv_bne, g8, g9]; rfl⟩
        have q8l := block_lt_of_cell q8
        generalize (S k)[8]'(by rw [HLE]; omega) = x8 at *
        generalize (S k)[9]'(by rw [HLE]; omega) = x9 at *
        generalize hld : leads ((S k).getD 10 0) = ld at *
        clear hB2 hst2 hb3 hbx hltx hrw2 hcf y0 HLE g8 g9 hrw3
        have HW4 : Hidden (∀ w4, Below w3.heap.size w3 w4 → Below w.heap.size w w4 ∧ RSt w4 w.heap.size u4 u5 (faultsR leads S k) (namesL leads S k) ∧ w4.cell? ⟨Bx, 0, none⟩ = some (.slice (some ⟨p, off, none⟩) 11 cc) ∧ w4.cell? ⟨p, off + 8, none⟩ = some (bv x8) ∧ w4.cell? ⟨p, off + 9, none⟩ = some (bv x9)) := ⟨fun w4 hb4 =>
          ⟨hB3.trans (hb4.mono hB3.size), hst3.below hb4, (hb4.cell (p := ⟨Bx, 0, none⟩) hltx3).trans z3, (hb4.cell (p := ⟨p, off + 8, none⟩) q8l).trans q8, (hb4.cell (p := ⟨p, off + 9, none⟩) q8l).trans q9⟩⟩
        clear hB3 hst3 z3 q8 q9 hbx3 hltx3 q8l
        cases hg : gotName ((S k).take 8) with
        | false =>
          rw [hg] at he
          simp only [Bool.false_eq_true, if_false] at he
          subst he
          go_wp2_with fail
          refine HCF.out.mono ?_
          rintro e w4 ⟨rfl, hb4⟩
          obtain ⟨hB4, hst4, z4, q8, q9⟩ := HW4.out w4 hb4
          clear hb4
          have HE := Hidden.mk (FIN4.out (by rw [HBAD.out]; simp [hg]))
          clear hg hld
          go_wp2_with (at_builtin; refine wpList_append_lies _ rfl (.tmp 51) (.tmp 54) _ rfl w.heap.size 151 i1 _ 2 16 Tryd.underlying83 hi1 hy0 hy1 hy2 rfl (by decide) u4 (faultsR leads S k).length ((faultsR leads S k).flatMap fcells) rfl (own_below hst4.f ((Below.refl _ _).alloc (Nat.le_refl _) _)) ⟨w4.heap.size, 0, none⟩ 1 1 [.int .i64 4, .int .i64 (k : Int)] rfl rfl (World.news_of_block (cs := #[.int .i64 4, .int .i64 (k : Int)]) (t := 151) (fr := (0, 0)) (heap_alloc_new w4 _)) (by simp [Value.oneCell']) (by omega) (by simp only [maxLen]; omega) (by omega) (by have := hB4.size; simp; omega) (w4.heap.size + 1) (by simp) ?_; intro gf capf w7 hown7 hg7 hat7 hlt7)
          have hgF := grown_trans' ((Below.refl _ _).alloc (Nat.le_refl _) _) hg7
          have hst7 := hst4.addF (x := ⟨4, k⟩) hgF hown7
          have hB7 : Below w.heap.size w w7 := hB4.grown hgF hB4.size (fun q hq => (hst4.f.lt q hq).1)
          clear hown7 hg7 hat7 hlt7 hgF hst4 hB4
          go_roundw
          case rel => exact ⟨k + 1, by omega, by go_num, hB7, by rw [HE.out.1, HE.out.2]; exact hst7⟩
          case measure => simp [intOf]; omega
        | true =>
          rw [hg] at he
          simp only [if_true] at he
          subst he
          go_wp2_with fail
          refine HCF.out.mono ?_
          rintro e w4 ⟨rfl, hb4⟩
          obtain ⟨hB4, hst4, z4, q8, q9⟩ := HW4.out w4 hb4
          clear hb4
          cases h8 : ((x8.toNat : Int) != 0) with
          | true =>
            have HE := Hidden.mk (FIN4.out (by rw [HBAD.out]; simp [h8]))
            go_wp2_with (at_builtin; refine wpList_append_lies _ rfl (.tmp 51) (.tmp 54) _ rfl w.heap.size 151 i1 _ 2 16 Tryd.underlying83 hi1 hy0 hy1 hy2 rfl (by decide) u4 (faultsR leads S k).length ((faultsR leads S k).flatMap fcells) rfl (own_below hst4.f ((Below.refl _ _).alloc (Nat.le_refl _) _)) ⟨w4.heap.size, 0, none⟩ 1 1 [.int .i64 4, .int .i64 (k : Int)] rfl rfl (World.news_of_block (cs := #[.int .i64 4, .int .i64 (k : Int)]) (t := 151) (fr := (0, 0)) (heap_alloc_new w4 _)) (by simp [Value.oneCell']) (by omega) (by simp only [maxLen]; omega) (by omega) (by have := hB4.size; simp; omega) (w4.heap.size + 1) (by simp) ?_; intro gf capf w7 hown7 hg7 hat7 hlt7)
            have hgF := grown_trans' ((Below.refl _ _).alloc (Nat.le_refl _) _) hg7
            have hst7 := hst4.addF (x := ⟨4, k⟩) hgF hown7
            have hB7 : Below w.heap.size w w7 := hB4.grown hgF hB4.size (fun q hq => (hst4.f.lt q hq).1)
            clear hown7 hg7 hat7 hlt7 hgF hst4 hB4
            go_roundw
            case rel => exact ⟨k + 1, by omega, by go_num, hB7, by rw [HE.out.1, HE.out.2]; exact hst7⟩
            case measure => simp [intOf]; omega
          | false =>
            cases h9 : ((x9.toNat : Int) != 0) with
            | true =>
              have HE := Hidden.mk (FIN4.out (by rw [HBAD.out]; simp [h9]))
              go_wp2_with (at_builtin; refine wpList_append_lies _ rfl (.tmp 51) (.tmp 54) _ rfl w.heap.size 151 i1 _ 2 16 Tryd.underlying83 hi1 hy0 hy1 hy2 rfl (by decide) u4 (faultsR leads S k).length ((faultsR leads S k).flatMap fcells) rfl (own_below hst4.f ((Below.refl _ _).alloc (Nat.le_refl _) _)) ⟨w4.heap.size, 0, none⟩ 1 1 [.int .i64 4, .int .i64 (k : Int)] rfl rfl (World.news_of_block (cs := #[.int .i64 4, .int .i64 (k : Int)]) (t := 151) (fr := (0, 0)) (heap_alloc_new w4 _)) (by simp [Value.oneCell']) (by omega) (by simp only [maxLen]; omega) (by omega) (by have := hB4.size; simp; omega) (w4.heap.size + 1) (by simp) ?_; intro gf capf w7 hown7 hg7 hat7 hlt7)
              have hgF := grown_trans' ((Below.refl _ _).alloc (Nat.le_refl _) _) hg7
              have hst7 := hst4.addF (x := ⟨4, k⟩) hgF hown7
              have hB7 : Below w.heap.size w w7 := hB4.grown hgF hB4.size (fun q hq => (hst4.f.lt q hq).1)
              clear hown7 hg7 hat7 hlt7 hgF hst4 hB4
              go_roundw
              case rel => exact ⟨k + 1, by omega, by go_num, hB7, by rw [HE.out.1, HE.out.2]; exact hst7⟩
              case measure => simp [intOf]; omega
            | false =>
              cases ld with
              | false =>
                have HE := Hidden.mk (FIN4.out (by rw [HBAD.out]; simp []))
                go_wp2_with (at_builtin; refine wpList_append_lies _ rfl (.tmp 51) (.tmp 54) _ rfl w.heap.size 151 i1 _ 2 16 Tryd.underlying83 hi1 hy0 hy1 hy2 rfl (by decide) u4 (faultsR leads S k).length ((faultsR leads S k).flatMap fcells) rfl (own_below hst4.f ((Below.refl _ _).alloc (Nat.le_refl _) _)) ⟨w4.heap.size, 0, none⟩ 1 1 [.int .i64 4, .int .i64 (k : Int)] rfl rfl (World.news_of_block (cs := #[.int .i64 4, .int .i64 (k : Int)]) (t := 151) (fr := (0, 0)) (heap_alloc_new w4 _)) (by simp [Value.oneCell']) (by omega) (by simp only [maxLen]; omega) (by omega) (by have := hB4.size; simp; omega) (w4.heap.size + 1) (by simp) ?_; intro gf capf w7 hown7 hg7 hat7 hlt7)
                have hgF := grown_trans' ((Below.refl _ _).alloc (Nat.le_refl _) _) hg7
                have hst7 := hst4.addF (x := ⟨4, k⟩) hgF hown7
                have hB7 : Below w.heap.size w w7 := hB4.grown hgF hB4.size (fun q hq => (hst4.f.lt q hq).1)
                clear hown7 hg7 hat7 hlt7 hgF hst4 hB4
                go_roundw
                case rel => exact ⟨k + 1, by omega, by go_num, hB7, by rw [HE.out.1, HE.out.2]; exact hst7⟩
                case measure => simp [intOf]; omega
              | true =>
                have HB := Hidden.mk (show badR leads (S k) = false by rw [HBAD.out, hg, h8, h9]; rfl)
                obtain ⟨A4, c4, hv4, hc4, hrd4⟩ := own_rdS hst4.n
                subst hv4
                have hct := containsS_any A4 (namesL leads S k).length c4 (namesL leads S k) (nmR (S k)) w4 rfl (by omega) hrd4
                have HCT := Hidden.mk hct
                clear hct hrd4
                go_wp2_with fail
                refine HCT.out.mono ?_
                rintro e w5 ⟨rfl, rfl⟩
                cases hany : (namesL leads S k).any (fun x => nmR (S k) == x) with
                | true =>
                  have HE := Hidden.mk (FIN5.out HB.out hany)
                  clear hany
                  go_wp2_with (at_builtin; refine wpList_append_lies _ rfl (.tmp 60) (.tmp 63) _ rfl w.heap.size 151 i1 _ 2 16 Tryd.underlying83 hi1 hy0 hy1 hy2 rfl (by decide) u4 (faultsR leads S k).length ((faultsR leads S k).flatMap fcells) rfl (own_below hst4.f ((Below.refl _ _).alloc (Nat.le_refl _) _)) ⟨w4.heap.size, 0, none⟩ 1 1 [.int .i64 5, .int .i64 (k : Int)] rfl rfl (World.news_of_block (cs := #[.int .i64 5, .int .i64 (k : Int)]) (t := 151) (fr := (0, 0)) (heap_alloc_new w4 _)) (by simp [Value.oneCell']) (by omega) (by simp only [maxLen]; omega) (by omega) (by have := hB4.size; simp; omega) (w4.heap.size + 1) (by simp) ?_; intro gf capf w7 hown7 hg7 hat7 hlt7)
                  have hgF := grown_trans' ((Below.refl _ _).alloc (Nat.le_refl _) _) hg7
                  have hst7 := hst4.addF (x := ⟨5, k⟩) hgF hown7
                  have hB7 : Below w.heap.size w w7 := hB4.grown hgF hB4.size (fun q hq => (hst4.f.lt q hq).1)
                  clear hown7 hg7 hat7 hlt7 hgF hst4 hB4
                  go_roundw
                  case rel => exact ⟨k + 1, by omega, by go_num, hB7, by rw [HE.out.1, HE.out.2]; exact hst7⟩
                  case measure => simp [intOf]; omega
                | false =>
                  have HE := Hidden.mk (FIN6.out HB.out hany)
                  clear hany
                  go_wp2_with (at_builtin; refine wpList_append_lies _ rfl (.tmp 28) (.tmp 30) _ rfl w.heap.size 9 i2 _ 1 16 Tryd.underlying152 hi2 hx0 hx1 hx2 rfl (by decide) (.slice A4 (namesL leads S k).length c4) (namesL leads S k).length ((namesL leads S k).map fun x => sv x) rfl (own_below hst4.n ((Below.refl _ _).alloc (Nat.le_refl _) _)) ⟨w4.heap.size, 0, none⟩ 1 1 [sv (nmR (S k))] rfl rfl (World.news_of_block (cs := #[sv (nmR (S k))]) (t := 9) (fr := (0, 0)) (heap_alloc_new w4 _)) (by simp [Value.oneCell']) (by omega) (by simp only [maxLen]; omega) (by omega) (by have := hB4.size; simp; omega) (w4.heap.size + 1) (by simp) ?_; intro gf capf w7 hown7 hg7 hat7 hlt7)
                  have hgF := grown_trans' ((Below.refl _ _).alloc (Nat.le_refl _) _) hg7
                  have hst7 := hst4.addN (x := nmR (S k)) hgF hown7
                  have hB7 : Below w.heap.size w w7 := hB4.grown hgF hB4.size (fun q hq => (hst4.n.lt q hq).1)
                  clear hown7 hg7 hat7 hlt7 hgF hst4 hB4
                  go_roundw
                  case rel => exact ⟨k + 1, by omega, by go_num, hB7, by rw [HE.out.1, HE.out.2]; exact hst7⟩
                  case measure => simp [intOf]; omega
    · obtain rfl : k = 8 := by omega
      go_wp2_with fail
      go_ret
      exact ⟨u4, rfl, hst.f, hbel⟩
end Go.Proofs.YtbcafgocachddaaDoor
