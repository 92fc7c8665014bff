/- Contracts and plain laws, put together: Img5, RowSet, Stamp2, RefS, RefN, RefP, RefM, RefNm, Keep, RefI1, RefI2, Diff0, Diff1, Diff2, ImageApart0, RefI3, RefI4, Chk3, Chk5, Chk6, Img6, GoodP, RefC. -/
import Derived.Test.YtcahgmnkphmnhaaGreatReachHoldsFrameM1
import Derived.Deep.LoopGhost
import Derived.Deep.RegionHeld3
import Derived.Deep.AppendLies
/- The contracts of image.Entries, Roots and Drop, and of image.Get where there is none. -/
namespace Go.Proofs.YtcahgmnkphmnhaaGreat
open Go.RowKit

/-- the entries of an image -/
def entriesL (l : Bytes) : List (Int × Bytes) := entsL (fun k => hasE (rawE l k)) (rawE l) 40
theorem ientries_no (A : Option Addr) (n c : Nat) (w : World) (hr : rightB n = false) :
    Calls Tryz.prog 108 #[.slice A n c] w fun e w' => e = .returned (.tuple #[.slice none 0 0, .iface 88 (.int .i64 3)]) ∧ w = w' := by
  go_enter Tryz.func108, Tryz.ntmps108
  go_wp2_with fail
  refine (check_e3 A n c 1 _ hr).mono ?_
  rintro e w1 ⟨rfl, rfl⟩
  go_wp2_with fail
  go_ret2
  exact ⟨rfl, rfl⟩
set_option maxRecDepth 100000 in
theorem ientries_ok (A : Option Addr) (n c : Nat) (l : Bytes) (w : World) (hn : l.length = n) (hr : rightB n = true) (hnc : n ≤ c) (hrd : Rd w A l) :
    Calls Tryz.prog 108 #[.slice A n c] w fun e w' => ∃ v, e = .returned (.tuple #[v, .nilIface]) ∧ w'.ownsRow w.heap.size 97 4 v (entriesL l).length ((entriesL l).flatMap ecells) ∧ Below w.heap.size w w' := by
  have hnb := rightB_true.1 hr
  obtain ⟨i2, hi2, hx0, hx1, hx2⟩ := info_parts entry_info
  have HF : Hidden (∀ k : Nat, k < 40 → ∀ W, Below w.heap.size w W → Calls Tryz.prog 92 #[.slice A n c, .int .i64 ((k : Int) + 1)] W fun e w' => e = .returned (.tuple #[entV ((k : Int) + 1) (rAt (rawE l k)) (rLen (rawE l k)) (rTag (rawE l k)), .bool (hasE (rawE l k))]) ∧ Below W.heap.size W w') :=
    ⟨fun k hk W hW => find_ok A n c l k W hn (by omega) hnc (hrd.below hW) hk⟩
  have HL : Hidden (entriesL l = entsL (fun k => hasE (rawE l k)) (rawE l) 40) := ⟨rfl⟩
  generalize rawE l = R at *
  clear hrd hn
  go_enter Tryz.func108, Tryz.ntmps108
  go_wp2_with fail
  refine (check_ok A n c 1 _ hr (by decide)).mono ?_
  rintro e w1 ⟨rfl, rfl⟩
  go_wp2_with fail
  go_loopg [5, 6] 40 (fun m v h wr => ∃ k : Nat, k ≤ 40 ∧ m = 40 - k ∧ h = .int .i64 ((k : Int) + 1) ∧ Below w.heap.size w wr ∧ wr.ownsRow w.heap.size 97 4 v (entsL (fun k => hasE (R k)) R k).length ((entsL (fun k => hasE (R k)) R k).flatMap ecells))
  case atStart => exact ⟨0, by omega, rfl, rfl, Below.refl _ _, World.ownsRow_nil _ _ _ _⟩
  case round =>
    obtain ⟨k, hk, rfl, rfl, hbel, hown⟩ := hrel
    by_cases hlt : k < 40
    · have k0 : ((k : Int) + 1) ≤ 40 := by omega
      have s1 : IntKind.i64.wrap ((k : Int) + 1 + 1) = (k : Int) + 1 + 1 := IntWalk.i64_in _ (by omega)
      have hll := entsL_len (fun k => hasE (R k)) R k
      have HS := Hidden.mk (entsL_succ (fun k => hasE (R k)) R k)
      have HG := Hidden.mk (HF.out k hlt wr hbel)
      have HC : Hidden (ecells (((k : Int) + 1), R k) = [.int .i64 ((k : Int) + 1), .int .i64 (rAt (R k)), .int .i64 (rLen (R k)), .int .i64 (rTag (R k))]) := ⟨rfl⟩
      generalize entsL (fun k => hasE (R k)) R k = L at *
      go_wp2_with fail
      refine HG.out.mono ?_
      rintro e w1 ⟨rfl, hb1⟩
      generalize (rAt (R k) : Int) = a1 at *
      generalize (rLen (R k) : Int) = a2 at *
      generalize rTag (R k) = a3 at *
      have hB1 := hbel.trans (hb1.mono hbel.size)
      have hown1 := own_below hown hb1
      have hal : Below w1.heap.size w1 (w1.alloc (.cells #[.int .i64 ((k : Int) + 1), .int .i64 a1, .int .i64 a2, .int .i64 a3] 97)) := (Below.refl _ _).alloc (Nat.le_refl _) _
      have hB2 : Below w.heap.size w (w1.alloc (.cells #[.int .i64 ((k : Int) + 1), .int .i64 a1, .int .i64 a2, .int .i64 a3] 97)) := hB1.alloc hB1.size _
      have hown2 := own_below hown1 hal
      have hbx : (w1.alloc (.cells #[.int .i64 ((k : Int) + 1), .int .i64 a1, .int .i64 a2, .int .i64 a3] 97)).heap[w1.heap.size]? = some (.cells #[.int .i64 ((k : Int) + 1), .int .i64 a1, .int .i64 a2, .int .i64 a3] 97 (0, 0)) := heap_alloc_new w1 _
      clear hal hown hown1 hbel hB1 hb1
      cases hE : hasE (R k) with
      | false =>
        rw [hE] at HS
        go_wp2_with fail
        generalize w1.alloc (.cells #[.int .i64 ((k : Int) + 1), .int .i64 a1, .int .i64 a2, .int .i64 a3] 97) = w2 at *
        go_roundg (40 - (k + 1))
        case measure => omega
        case rel => exact ⟨k + 1, by omega, rfl, by go_num, hB2, by rw [HS.out]; simpa using hown2⟩
      | true =>
        rw [hE] at HS
        clear hE hbx
        have hnb : ((w1.alloc (.cells #[.int .i64 ((k : Int) + 1), .int .i64 a1, .int .i64 a2, .int .i64 a3] 97)).alloc (.cells #[.int .i64 ((k : Int) + 1), .int .i64 a1, .int .i64 a2, .int .i64 a3] 97)).heap[w1.heap.size + 1]? = some (.cells #[.int .i64 ((k : Int) + 1), .int .i64 a1, .int .i64 a2, .int .i64 a3] 97) := by
          have := heap_alloc_new (w1.alloc (.cells #[.int .i64 ((k : Int) + 1), .int .i64 a1, .int .i64 a2, .int .i64 a3] 97)) (.cells #[.int .i64 ((k : Int) + 1), .int .i64 a1, .int .i64 a2, .int .i64 a3] 97)
          rwa [World.size_alloc] at this
        have HNB := Hidden.mk hnb
        have HOW := Hidden.mk hown2
        have HBB := Hidden.mk hB2
        clear hnb hown2 hB2
        go_wp2_with (at_builtin; refine wpList_append_lies _ rfl (.tmp 25) (.tmp 27) _ rfl w.heap.size 97 i2 _ 4 32 Tryz.underlying124 hi2 hx0 hx1 hx2 rfl (by decide) u5 L.length (L.flatMap ecells) rfl (own_below HOW.out ((Below.refl _ _).alloc (Nat.le_refl _) _)) ⟨w1.heap.size + 1, 0, none⟩ 1 1 [.int .i64 ((k : Int) + 1), .int .i64 a1, .int .i64 a2, .int .i64 a3] rfl rfl (World.news_of_block (cs := #[.int .i64 ((k : Int) + 1), .int .i64 a1, .int .i64 a2, .int .i64 a3]) (t := 97) (fr := (0, 0)) HNB.out) (by simp [Value.oneCell']) (by omega) (by simp only [maxLen]; omega) (by omega) (by have := HBB.out.size; simp at this ⊢; omega) (w1.heap.size + 2) (by simp) ?_; intro g8 cap8 w8 hown8 hg8 hat8 hlt8)
        have hown2 := HOW.out
        have hB2 := HBB.out
        have hgW := grown_trans' ((Below.refl _ _).alloc (Nat.le_refl _) _) hg8
        have hB8 : Below w.heap.size w w8 := hB2.grown hgW hB2.size (fun q hq => (hown2.lt q hq).1)
        clear hown2 hB2 hg8 hgW hat8 hlt8
        go_roundg (40 - (k + 1))
        case measure => omega
        case rel => exact ⟨k + 1, by omega, rfl, by go_num, hB8, by rw [HS.out]; simpa [HC.out] using hown8⟩
    · obtain rfl : k = 40 := by omega
      go_wp2_with fail
      go_ret2
      exact ⟨_, rfl, by rw [HL.out]; exact hown, hbel⟩

/-- a root: its name, its handle -/
def rootP (r : Bytes) : Bytes × Nat := (if gotName (r.take 8) = true then nmR r else [], (r.getD 10 0).toNat)
def rootsF (S : Nat → Bytes) (m : Nat) : List (Bytes × Nat) := ((List.range m).filter fun i => !zeroE (S i)).map fun i => rootP (S i)
def rootsL (l : Bytes) : List (Bytes × Nat) := rootsF (rawR l) 8
theorem rootsF_succ (S : Nat → Bytes) (m : Nat) : rootsF S (m + 1) = rootsF S m ++ (if zeroE (S m) = true then [] else [rootP (S m)]) := by
  unfold rootsF
  rw [List.range_succ, List.filter_append, List.map_append]
  congr 1
  cases h : zeroE (S m) <;> simp [h]
theorem rootsF_len (S : Nat → Bytes) (m : Nat) : (rootsF S m).length ≤ m := by
  unfold rootsF
  rw [List.length_map]
  have := List.length_filter_le (fun i => !zeroE (S i)) (List.range m)
  rwa [List.length_range] at this
def rcells (x : Bytes × Nat) : List Value := [sv x.1, .int .i64 x.2]
theorem root_info : (Tryz.prog.info? 67).map (fun i => (i.zero, i.size, i.bytes)) = some (some (.agg #[.string ByteArray.empty, .int .i64 0]), 2, 24) := by kernel_rfl
theorem iroots_no (A : Option Addr) (n c : Nat) (w : World) (hr : rightB n = false) :
    Calls Tryz.prog 96 #[.slice A n c] w fun e w' => e = .returned (.tuple #[.slice none 0 0, .iface 88 (.int .i64 3)]) ∧ w = w' := by
  go_enter Tryz.func96, Tryz.ntmps96
  go_wp2_with fail
  refine (check_e3 A n c 1 _ hr).mono ?_
  rintro e w1 ⟨rfl, rfl⟩
  go_wp2_with fail
  go_ret2
  exact ⟨rfl, rfl⟩
set_option maxRecDepth 100000 in
theorem iroots_ok (A : Option Addr) (n c : Nat) (l : Bytes) (w : World) (hn : l.length = n) (hr : rightB n = true) (hnc : n ≤ c) (hrd : Rd w A l) :
    Calls Tryz.prog 96 #[.slice A n c] w fun e w' => ∃ v, e = .returned (.tuple #[v, .nilIface]) ∧ w'.ownsRow w.heap.size 67 2 v (rootsL l).length ((rootsL l).flatMap rcells) ∧ Below w.heap.size w w' := by
  have hnb := rightB_true.1 hr
  obtain ⟨i2, hi2, hx0, hx1, hx2⟩ := info_parts root_info
  have HRAW : Hidden (∀ k : Nat, k < 8 → ∀ W, Below w.heap.size w W → Rd W (A.map (·.add (200 + 11 * k))) (rawR l k)) := ⟨fun k hk W hW => rawR_rd (hrd.below hW) k hk (by omega)⟩
  have HLEN : Hidden (∀ k : Nat, k < 8 → (rawR l k).length = 11) := ⟨fun k hk => rawR_len l k hk (by omega)⟩
  have HL : Hidden (rootsL l = rootsF (rawR l) 8) := ⟨rfl⟩
  generalize rawR l = S at *
  clear hrd hn
  go_enter Tryz.func96, Tryz.ntmps96
  go_wp2_with fail
  refine (check_ok A n c 1 _ hr (by decide)).mono ?_
  rintro e w1 ⟨rfl, rfl⟩
  go_wp2_with fail
  go_loopg [5, 15] 8 (fun m v i wr => ∃ k : Nat, k ≤ 8 ∧ m = 8 - k ∧ i = .int .i64 (k : Int) ∧ Below w.heap.size w wr ∧ wr.ownsRow w.heap.size 67 2 v (rootsF S k).length ((rootsF S k).flatMap rcells))
  case atStart => exact ⟨0, by omega, rfl, rfl, Below.refl _ _, World.ownsRow_nil _ _ _ _⟩
  case round =>
    obtain ⟨k, hk, rfl, rfl, hbel, hown⟩ := hrel
    by_cases hlt : k < 8
    · have k0 : (k : Int) < 8 := by omega
      have s1 : IntKind.i64.wrap ((k : Int) + 1) = (k : Int) + 1 := IntWalk.i64_in _ (by omega)
      have hll := rootsF_len S k
      have HS := Hidden.mk (rootsF_succ S k)
      have hrw := HRAW.out k hlt wr hbel
      have hlen := HLEN.out k hlt
      obtain ⟨p, off, hA, hpl⟩ := hrw.lt (by omega)
      rw [hA] at hrw
      have HA := Hidden.mk hA
      have q10 := hrw.at_ 10 (by omega)
      have g10 : (S k).getD 10 0 = (S k)[10]'(by omega) := by simp [hlen]
      have HP : Hidden (rootP (S k) = (if gotName ((S k).take 8) = true then nmR (S k) else [], ((S k)[10]'(by omega)).toNat)) := ⟨by unfold rootP; rw [g10]⟩
      have HLK := Hidden.mk hlen
      generalize (S k)[10]'(by omega) = x10 at *
      generalize rootsF S k = L at *
      have w10 : IntKind.i64.wrap (x10.toNat : Int) = (x10.toNat : Int) := IntWalk.i64_in _ (by have := u8_lt x10; omega)
      generalize hcc : c - (200 + 11 * k) = cc at *
      have hc8 : 8 ≤ cc := by omega
      have HCC := Hidden.mk hcc
      clear hA g10 hcc hlen
      go_wp2_with fail
      refine (rawRoot_any A n c (k : Int) _ (by omega) (by omega) (by omega) hnc).mono ?_
      rintro e w1 ⟨rfl, rfl⟩
      rw [rootO_k, HA.out, HCC.out]
      go_wp2_with fail
      refine (izero_any _ 11 _ (S k) _ HLK.out (by simp [maxLen]) hrw).mono ?_
      rintro e w1 ⟨rfl, rfl⟩
      cases hz : zeroE (S k) with
      | true =>
        rw [hz] at HS
        clear hz q10
        go_wp2_with fail
        go_roundg (8 - (k + 1))
        case measure => omega
        case rel => exact ⟨k + 1, by omega, rfl, by go_num, hbel, by rw [HS.out]; simpa using hown⟩
      | false =>
        rw [hz] at HS
        clear hz
        go_wp2_with fail
        refine (getName_any (some ⟨p, off, none⟩) cc ((S k).take 8) _ (by simp [HLK.out]) hc8 (hrw.take 8 (by rw [HLK.out]; omega))).mono ?_
        rintro e w3 ⟨he, hb3⟩
        have hB3 := hbel.trans (hb3.mono hbel.size)
        have hown3 := own_below hown hb3
        have z10 := (hb3.cell (p := ⟨p, off + 10, none⟩) hpl).trans q10
        clear hb3 hbel hown q10 hpl hrw
        cases hg : gotName ((S k).take 8)
        all_goals
          rw [hg] at he HP
          first | simp only [Bool.false_eq_true, if_false] at he | simp only [if_true] at he
          subst he
          have HG := Hidden.mk hg
          clear hg
        case false =>
          go_wp2_with (at_builtin; refine wpList_append_lies _ rfl (.tmp 29) (.tmp 36) _ rfl w.heap.size 67 i2 _ 2 24 Tryz.underlying62 hi2 hx0 hx1 hx2 rfl (by decide) u5 L.length (L.flatMap rcells) rfl (own_below hown3 ((Below.refl _ _).alloc (Nat.le_refl _) _)) ⟨w3.heap.size, 0, none⟩ 1 1 [sv [], .int .i64 x10.toNat] rfl rfl (World.news_of_block (cs := #[sv [], .int .i64 x10.toNat]) (t := 67) (fr := (0, 0)) (heap_alloc_new w3 _)) (by simp [Value.oneCell']) (by omega) (by simp only [maxLen]; omega) (by omega) (by have := hB3.size; simp; omega) (w3.heap.size + 1) (by simp) ?_; intro g8 cap8 w8 hown8 hg8 hat8 hlt8)
          have hgW := grown_trans' ((Below.refl _ _).alloc (Nat.le_refl _) _) hg8
          have hB8 : Below w.heap.size w w8 := hB3.grown hgW hB3.size (fun q hq => (hown3.lt q hq).1)
          have hpp := HP.out
          simp only [Bool.false_eq_true, if_false] at hpp
          have HPP := Hidden.mk hpp
          clear hown3 hB3 hg8 hgW hat8 hlt8 hpp
          go_roundg (8 - (k + 1))
          case measure => omega
          case rel => exact ⟨k + 1, by omega, rfl, by go_num, hB8, by rw [HS.out, HPP.out]; simpa [rcells] using hown8⟩
        case true =>
          have hpp := HP.out
          simp only [if_true] at hpp
          have HPP := Hidden.mk hpp
          have HNM : Hidden (nmR (S k) = nameAt ((S k).take 8)) := ⟨rfl⟩
          generalize nameAt ((S k).take 8) = nm at *
          clear hpp
          go_wp2_with (at_builtin; refine wpList_append_lies _ rfl (.tmp 29) (.tmp 36) _ rfl w.heap.size 67 i2 _ 2 24 Tryz.underlying62 hi2 hx0 hx1 hx2 rfl (by decide) u5 L.length (L.flatMap rcells) rfl (own_below hown3 ((Below.refl _ _).alloc (Nat.le_refl _) _)) ⟨w3.heap.size, 0, none⟩ 1 1 [sv nm, .int .i64 x10.toNat] rfl rfl (World.news_of_block (cs := #[sv nm, .int .i64 x10.toNat]) (t := 67) (fr := (0, 0)) (heap_alloc_new w3 _)) (by simp [Value.oneCell']) (by omega) (by simp only [maxLen]; omega) (by omega) (by have := hB3.size; simp; omega) (w3.heap.size + 1) (by simp) ?_; intro g8 cap8 w8 hown8 hg8 hat8 hlt8)
          have hgW := grown_trans' ((Below.refl _ _).alloc (Nat.le_refl _) _) hg8
          have hB8 : Below w.heap.size w w8 := hB3.grown hgW hB3.size (fun q hq => (hown3.lt q hq).1)
          clear hown3 hB3 hg8 hgW hat8 hlt8
          go_roundg (8 - (k + 1))
          case measure => omega
          case rel => exact ⟨k + 1, by omega, rfl, by go_num, hB8, by rw [HS.out, HPP.out, HNM.out]; simpa [rcells] using hown8⟩
    · obtain rfl : k = 8 := by omega
      go_wp2_with fail
      go_ret2
      exact ⟨_, rfl, by rw [HL.out]; exact hown, hbel⟩

/-- image.Get where the image, or the handle, is none -/
theorem iget_e3 (A : Option Addr) (n c : Nat) (h : Int) (w : World) (hr : rightB n = false) :
    Calls Tryz.prog 49 #[.slice A n c, .int .i64 h] w fun e w' => e = .returned (.tuple #[entV 0 0 0 0, .iface 88 (.int .i64 3)]) ∧ Below w.heap.size w w' := by
  have hW : Below w.heap.size w (w.alloc (.cells #[.int .i64 0, .int .i64 0, .int .i64 0, .int .i64 0] 97)) := (Below.refl _ _).alloc (Nat.le_refl _) _
  go_enter Tryz.func49, Tryz.ntmps49
  go_wp2_with fail
  refine (check_e3 A n c h _ hr).mono ?_
  rintro e w1 ⟨rfl, rfl⟩
  go_wp2_with fail
  refine bodyPost_ret (v := .tuple #[entV 0 0 0 0, .iface 88 (.int .i64 3)]) ?_ rfl ?_
  · rw [results_cell_tmp rfl]
    go_simp
  · exact ⟨rfl, hW⟩
theorem iget_e1 (A : Option Addr) (n c : Nat) (h : Int) (w : World) (hr : rightB n = true) (hh : handleB h = false) :
    Calls Tryz.prog 49 #[.slice A n c, .int .i64 h] w fun e w' => e = .returned (.tuple #[entV 0 0 0 0, .iface 88 (.int .i64 1)]) ∧ Below w.heap.size w w' := by
  have hW : Below w.heap.size w (w.alloc (.cells #[.int .i64 0, .int .i64 0, .int .i64 0, .int .i64 0] 97)) := (Below.refl _ _).alloc (Nat.le_refl _) _
  go_enter Tryz.func49, Tryz.ntmps49
  go_wp2_with fail
  refine (check_e1 A n c h _ hr hh).mono ?_
  rintro e w1 ⟨rfl, rfl⟩
  go_wp2_with fail
  refine bodyPost_ret (v := .tuple #[entV 0 0 0 0, .iface 88 (.int .i64 1)]) ?_ rfl ?_
  · rw [results_cell_tmp rfl]
    go_simp
  · exact ⟨rfl, hW⟩
end Go.Proofs.YtcahgmnkphmnhaaGreat
/- A byte stored into a row; the bytes of a number one by one. -/
namespace Go.Proofs.YtcahgmnkphmnhaaGreat
open Go.RowKit

theorem Row.store {w : World} {e g cap : Nat} {l : Bytes} (h : Row w e g cap l) (p : Nat) (_hp : p < l.length) (x : UInt8) :
    Row (w.setCell ⟨g, p, none⟩ (bv x)) e g cap (l.set p x) := by
  obtain ⟨cur, hg, h1, h2, h3, h4⟩ := h
  rw [setCell_eq_setRow w g p cur e _ _ hg]
  refine ⟨_, setRow_heap w g cur _ e _ hg, by simpa using h1, h2, by simpa using h3, ?_⟩
  rw [Array.toList_setIfInBounds, List.length_set, List.take_set, h4, List.map_set]
theorem Row.frozen {w : World} {e g cap : Nat} {l : Bytes} (h : Row w e g cap l) (p : Nat) : w.frozen? ⟨g, p, none⟩ = false := by
  obtain ⟨cur, hg, _⟩ := h
  exact frozen_of_row w g p cur e hg
theorem numB_get (s : Nat) : ∀ (n k : Nat), k < s → (numB n s)[k]? = some (UInt8.ofNat (n / 2 ^ (8 * k) % 256)) := by
  induction s with
  | zero => intro n k h; omega
  | succ s ih =>
    intro n k h
    cases k with
    | zero => simp [numB]
    | succ k =>
      simp only [numB, List.getElem?_cons_succ]
      rw [ih _ _ (by omega), Nat.div_div_eq_div_mul, show 8 * (k + 1) = 8 + 8 * k from by omega, Nat.pow_add]
theorem splice_rd (l x : Bytes) (o p : Nat) (h : o + x.length ≤ l.length) : (splice l o x)[p]? = if o ≤ p ∧ p < o + x.length then x[p - o]? else l[p]? := by
  unfold splice
  have hl : (l.take o).length = o := by simp; omega
  by_cases h1 : p < o
  · rw [if_neg (by omega), List.getElem?_append_left (by omega), List.getElem?_take, if_pos h1]
  · rw [List.getElem?_append_right (by omega), hl]
    by_cases h2 : p < o + x.length
    · rw [if_pos (by omega), List.getElem?_append_left (by omega)]
    · rw [if_neg (by omega), List.getElem?_append_right (by omega), List.getElem?_drop]
      congr 1; omega
theorem ofB_inj : ∀ (a b : Bytes), a.length = b.length → ofB a = ofB b → a = b
  | [], [], _, _ => rfl
  | [], _ :: _, h, _ => by simp at h
  | _ :: _, [], h, _ => by simp at h
  | x :: a, y :: b, h, he => by
    simp only [ofB] at he
    have hx := u8_lt x
    have hy := u8_lt y
    have h1 : x.toNat = y.toNat := by omega
    rw [UInt8.toNat_inj.1 h1, ofB_inj a b (by simpa using h) (by omega)]
theorem div_step (n k : Nat) : n / 2 ^ (8 * k) / 256 = n / 2 ^ (8 * (k + 1)) := by
  rw [Nat.div_div_eq_div_mul, show 8 * (k + 1) = 8 * k + 8 from by omega, Nat.pow_add]
end Go.Proofs.YtcahgmnkphmnhaaGreat
/- The contracts of stamp.Open and vaultref1.Zero. -/
namespace Go.Proofs.YtcahgmnkphmnhaaGreat
open Go.RowKit

def stampOf (l : Bytes) : Nat := ofB (l.take 4)
def bodyOf (l : Bytes) : Bytes := (l.drop 4).take 24
/-- vaultref1.Zero: are all bytes 0? -/
theorem zero_any (A : Option Addr) (n c : Nat) (l : Bytes) (w : World) (hn : l.length = n) (hl : n ≤ maxLen) (hr : Rd w A l) :
    Calls Tryz.prog 125 #[.slice A n c] w fun e w' => e = .returned (.bool (!l.any nonZero)) ∧ w = w' := by
  subst hn
  unfold maxLen at hl
  go_enter Tryz.func125, Tryz.ntmps125
  go_wp2
  go_loop [3] (fun i => ∃ k : Nat, k ≤ l.length ∧ i = .int .i64 k ∧ Hidden (∀ x ∈ l.take k, nonZero x = false)) (fun i => l.length - (intOf i).toNat)
  case atStart => exact ⟨0, Nat.zero_le _, rfl, ⟨by simp⟩⟩
  case round =>
    obtain ⟨k, hk, rfl, hnot⟩ := hrel
    by_cases hlt : k < l.length
    · obtain ⟨b, off, rfl, hc⟩ := hr k hlt
      have hb := bv_bne l[k]
      cases hz : nonZero l[k] with
      | true =>
        rw [hz] at hb
        have hv : Hidden (false = !l.any nonZero) := ⟨by rw [List.any_eq_true.2 ⟨l[k], List.getElem_mem hlt, hz⟩]; rfl⟩
        clear hz
        go_wp2
        go_ret
        exact ⟨ret_bool hv.out, rfl⟩
      | false =>
        rw [hz] at hb
        have hnk : Hidden (∀ x ∈ l.take (k + 1), nonZero x = false) := ⟨forall_take_succ hlt hnot.out hz⟩
        clear hz hnot
        go_wp2
        go_round
        case rel => exact ⟨k + 1, by omega, by go_num, hnk⟩
        case measure => simp [intOf]; omega
    · have hv : Hidden (true = !l.any nonZero) := ⟨by
        have := hnot.out
        rw [List.take_of_length_le (by omega)] at this
        symm; simpa using this⟩
      go_wp2
      go_ret
      exact ⟨ret_bool hv.out, rfl⟩
end Go.Proofs.YtcahgmnkphmnhaaGreat
/- The contracts of the reference's Number, Make and Open. -/
namespace Go.Proofs.YtcahgmnkphmnhaaGreat
open Go.RowKit

theorem ofB_drop (l : Bytes) (j : Nat) (h : j < l.length) : ofB (l.drop j) = l[j].toNat + 256 * ofB (l.drop (j + 1)) := by
  rw [List.drop_eq_getElem_cons h]; rfl
theorem number_any (A : Option Addr) (n c : Nat) (l : Bytes) (w : World) (hn : l.length = n) (hl : n ≤ 4) (hr : Rd w A l) :
    Calls Tryz.prog 114 #[.slice A n c] w fun e w' => e = .returned (.int .i64 (ofB l)) ∧ w = w' := by
  subst hn
  have s0 : IntKind.i64.wrap ((l.length : Int) - 1) = (l.length : Int) - 1 := IntWalk.i64_in _ (by omega)
  go_enter Tryz.func114, Tryz.ntmps114
  go_wp2
  go_loop [3, 4] (fun n i => ∃ j : Nat, j ≤ l.length ∧ i = .int .i64 ((j : Int) - 1) ∧ n = .int .i64 (ofB (l.drop j))) (fun _ i => (intOf i + 1).toNat)
  case atStart => exact ⟨l.length, Nat.le_refl _, rfl, by simp [ofB]⟩
  case round =>
    obtain ⟨j, hj, rfl, rfl⟩ := hrel
    rcases j with _ | j
    · rw [show (((0 : Nat) : Int) - 1) = (-1 : Int) from rfl, List.drop_zero]
      go_wp2
      go_ret
      exact ⟨rfl, rfl⟩
    · rw [show (((j + 1 : Nat) : Int) - 1) = (j : Int) from by omega]
      obtain ⟨b, off, rfl, hc⟩ := hr j (by omega)
      have hd := ofB_drop l j (by omega)
      have h1 := ofB_lt (l.drop (j + 1))
      have hp : 2 ^ (8 * (l.drop (j + 1)).length) ≤ 16777216 := by
        have : (l.drop (j + 1)).length ≤ 3 := by simp; omega
        calc 2 ^ (8 * (l.drop (j + 1)).length) ≤ 2 ^ 24 := Nat.pow_le_pow_right (by omega) (by omega)
          _ = 16777216 := by decide
      have hx := u8_lt l[j]
      have HD := Hidden.mk hd
      generalize ofB (l.drop (j + 1)) = m at *
      generalize l[j] = x at *
      have s1 : IntKind.i64.wrap ((m : Int) * 256) = (m : Int) * 256 := IntWalk.i64_in _ (by omega)
      have s2 : IntKind.i64.wrap (x.toNat : Int) = (x.toNat : Int) := IntWalk.i64_in _ (by omega)
      have s3 : IntKind.i64.wrap ((m : Int) * 256 + (x.toNat : Int)) = (m : Int) * 256 + (x.toNat : Int) := IntWalk.i64_in _ (by omega)
      have s4 : IntKind.i64.wrap ((j : Int) - 1) = (j : Int) - 1 := IntWalk.i64_in _ (by omega)
      have k0 : (0 : Int) ≤ j := by omega
      have k1 : (j : Int) < l.length := by omega
      clear hd h1 hp
      go_wp2
      go_round
      case rel => exact ⟨j, by omega, rfl, by rw [HD.out]; exact int_i64 (by omega)⟩
      case measure => simp [intOf]

/-- what a stamp with a body is as a sector, and the fault -/
def makeF (st : Int) (b : Bytes) : Bytes × Nat := if st < 1 ∨ 4294967295 < st then ([], 1) else if 24 < b.length then ([], 4) else (makeB st.toNat b, 0)
/-- what a sector is: its stamp, its body, the fault -/
def openF (l : Bytes) : Nat × Bytes × Nat := if l.length ≠ 32 then (0, [], 3) else if l.take 4 ≠ l.drop 28 then (0, [], 6) else if stampOf l = 0 then (0, [], 5) else (stampOf l, bodyOf l, 0)
def mixF (a b : Bytes) (cut : Int) : Bytes × Nat := if a.length ≠ 32 ∨ b.length ≠ 32 then ([], 3) else if cut < 0 ∨ 32 < cut then ([], 1) else (a.take cut.toNat ++ b.drop cut.toNat, 0)

end Go.Proofs.YtcahgmnkphmnhaaGreat
/- The contracts of the reference's Get, Put, Name, NameBytes and ReadName. -/
namespace Go.Proofs.YtcahgmnkphmnhaaGreat
open Go.RowKit

def getF (l : Bytes) (at_ size : Int) : Nat := if getE l.length at_ size = 0 then getN l at_ size else 0
def putF (l : Bytes) (at_ x size : Int) : Bytes := if putE l.length at_ x size = 0 then putB l at_ x size else []

theorem splice_put (l : Bytes) (o x k : Nat) (h : o + k < l.length) : (splice l o (numB x k)).set (o + k) (UInt8.ofNat (x / 2 ^ (8 * k) % 256)) = splice l o (numB x (k + 1)) := by
  have h1 := numB_length x k
  have h2 := numB_length x (k + 1)
  apply List.ext_getElem?
  intro p
  rw [List.getElem?_set, splice_len _ _ _ (by omega), splice_rd _ _ _ _ (by omega), splice_rd _ _ _ _ (by omega), h1, h2]
  by_cases a : o + k = p
  · subst a
    rw [if_pos rfl, if_pos (by omega), if_pos (by omega), Nat.add_sub_cancel_left, numB_get _ _ _ (by omega)]
  · rw [if_neg a]
    by_cases b : o ≤ p ∧ p < o + k
    · rw [if_pos b, if_pos (show o ≤ p ∧ p < o + (k + 1) from by omega), numB_get _ _ _ (by omega), numB_get _ _ _ (by omega)]
    · rw [if_neg b, if_neg (show ¬ (o ≤ p ∧ p < o + (k + 1)) from by omega)]
end Go.Proofs.YtcahgmnkphmnhaaGreat
/- The contract of the reference's Put. -/
namespace Go.Proofs.YtcahgmnkphmnhaaGreat
open Go.RowKit

/-- an answer: bytes, and a number or an error -/
def RowAns (w w' : World) (e : Ending) (l : Bytes) (x : Value) : Prop := ∃ A' c', e = .returned (.tuple #[.slice A' l.length c', x]) ∧ Rd w' A' l ∧ Below w.heap.size w w'
set_option maxRecDepth 100000 in
set_option maxHeartbeats 1000000 in
theorem refPut_ans (A : Option Addr) (n c : Nat) (l : Bytes) (at_ x size : Int) (w : World) (hn : l.length = n) (hl : n ≤ 140737488351232) (hr : Rd w A l) :
    Calls Tryz.prog 156 #[.slice A n c, .int .i64 at_, .int .i64 x, .int .i64 size] w fun e w' => RowAns w w' e (putF l at_ x size) (.int .i64 (putE n at_ x size)) := by
  obtain ⟨i0, hi0, hz0, hz1, hz2⟩ := info_parts byte_info
  generalize hF : putF l at_ x size = F
  generalize hE : putE n at_ x size = E
  unfold putF at hF
  rw [hn, hE] at hF
  unfold putE at hE
  by_cases hs : 1 ≤ size ∧ size ≤ 4
  · obtain ⟨h1, h4⟩ := hs
    obtain ⟨s, rfl⟩ := Int.eq_ofNat_of_zero_le (show 0 ≤ size by omega)
    have HM : Hidden (mostN (s : Int) = (2 ^ (8 * s) : Nat) - 1) := ⟨by simp [mostN]⟩
    have HE := Hidden.mk hE
    have HF := Hidden.mk hF
    clear hE hF
    go_enter Tryz.func156, Tryz.ntmps156
    go_wp2_with fail
    go_loop [10, 11] (fun mv iv => ∃ k : Nat, k ≤ s ∧ iv = .int .i64 k ∧ mv = .int .i64 ((2 ^ (8 * k) : Nat) : Int)) (fun _ iv => s - (intOf iv).toNat)
    case atStart => exact ⟨0, Nat.zero_le _, rfl, rfl⟩
    case round =>
      obtain ⟨k, hk, rfl, rfl⟩ := hrel
      by_cases hlt : k < s
      · have hp : 2 ^ (8 * k) ≤ 16777216 := by
          calc 2 ^ (8 * k) ≤ 2 ^ 24 := Nat.pow_le_pow_right (by omega) (by omega)
            _ = 16777216 := by decide
        have HD : Hidden (2 ^ (8 * k) * 256 = 2 ^ (8 * (k + 1))) := ⟨by rw [show 8 * (k + 1) = 8 * k + 8 from by omega, Nat.pow_add]⟩
        generalize 2 ^ (8 * k) = M at *
        have s1 : IntKind.i64.wrap ((M : Int) * 256) = (M : Int) * 256 := IntWalk.i64_in _ (by omega)
        go_wp2_with fail
        go_round
        case rel => exact ⟨k + 1, by omega, by go_num, int_i64 (by have := HD.out; omega)⟩
        case measure => simp [intOf]; omega
      · obtain rfl : k = s := by omega
        have hp : 2 ^ (8 * k) ≤ 4294967296 := by
          calc 2 ^ (8 * k) ≤ 2 ^ 32 := Nat.pow_le_pow_right (by omega) (by omega)
            _ = 4294967296 := by decide
        by_cases hx : 0 ≤ x ∧ x ≤ mostN (k : Int)
        · obtain ⟨X, rfl⟩ := Int.eq_ofNat_of_zero_le hx.1
          have hxm := hx.2
          rw [HM.out] at hxm
          by_cases ha : at_ < 0 ∨ (n : Int) - k < at_
          · have he : E = 3 := by rw [← HE.out, if_pos ⟨h1, h4, hx.1, hx.2⟩, if_pos ha]
            have hf : F = [] := by rw [← HF.out, if_neg (by omega)]
            subst he hf
            clear HE HF hx HM
            generalize 2 ^ (8 * k) = M at *
            by_cases h0 : at_ < 0
            · clear ha
              go_wp2_with fail
              go_ret2
              exact ⟨none, 0, rfl, Rd.nil_, Below.refl _ _⟩
            · by_cases hb : (n : Int) < at_
              · clear ha
                go_wp2_with fail
                go_ret2
                exact ⟨none, 0, rfl, Rd.nil_, Below.refl _ _⟩
              · have hc3 : (n : Int) - at_ < k := by omega
                have s1 : IntKind.i64.wrap ((n : Int) - at_) = (n : Int) - at_ := IntWalk.i64_in _ (by omega)
                clear ha
                go_wp2_with fail
                go_ret2
                exact ⟨none, 0, rfl, Rd.nil_, Below.refl _ _⟩
          · have he : E = 0 := by rw [← HE.out, if_pos ⟨h1, h4, hx.1, hx.2⟩, if_neg ha]
            have hf : F = putB l at_ X k := by rw [← HF.out, if_pos he]
            obtain ⟨a, rfl⟩ := Int.eq_ofNat_of_zero_le (show 0 ≤ at_ by omega)
            have hfa : F = splice l a (numB X k) := by rw [hf]; simp [putB]
            have HFA := Hidden.mk hfa
            subst he
            clear HE HF hx HM hf hfa
            have hfit : a + k ≤ n := by omega
            have hk1 : 1 ≤ k := by omega
            have s1 : IntKind.i64.wrap ((n : Int) - a) = (n : Int) - a := IntWalk.i64_in _ (by omega)
            have t1 : decide (n < a) = false := by simp; omega
            have t2 : decide ((n : Int) - a < k) = false := by simp; omega
            obtain ⟨p, off, rfl, _⟩ := hr.lt (by omega)
            generalize 2 ^ (8 * k) = M at *
            have t3 : decide (M ≤ X) = false := by simp; omega
            have t0 : decide ((a : Int) < 0) = false := by simp
            have t5 : decide ((X : Int) < 0) = false := by simp
            clear ha
            go_wp2_with (at_builtin; refine wpList_append_own _ rfl (.tmp 50) (.tmp 51) _ rfl w.heap.size 5 i0 _ 1 1 Tryz.underlying22 hi0 hz0 hz1 hz2 rfl (by decide) (.slice none 0 0) 0 [] rfl (World.ownsRow_nil _ _ _ _) ⟨p, off, none⟩ n c (l.map bv) rfl (by simp; omega) hr.cells one_bv (by simp only [maxLen]; omega) (by omega) (Nat.le_refl _) ?_; intro v1 w1 hown1 hg1 hnn1)
            have hb1 : Below w.heap.size w w1 := (Below.refl _ _).grown hg1 (Nat.le_refl _) (fun k hk => by simp [Value.ownBlock] at hk)
            have hO : Own w1 w.heap.size 5 v1 l := by unfold Own; simpa [hn] using hown1
            have hne : v1 ≠ .slice none 0 0 := fun h => by
              subst h
              rcases hO.2 with ⟨_, h0⟩ | ⟨g, cap, cur, h, _⟩
              · omega
              · cases h
            obtain ⟨g, cap, hv, hbg, hrow⟩ := Row.of_own hO hne
            rw [hn] at hv
            subst hv
            clear hO hne hown1 hg1 hnn1
            go_loopw [2, 13] (fun nv iv wr => ∃ j : Nat, j ≤ k ∧ iv = .int .i64 j ∧ nv = .int .i64 ((X / 2 ^ (8 * j) : Nat) : Int) ∧ Below w.heap.size w wr ∧ Row wr 5 g cap (splice l a (numB X j))) (fun _ iv _ => k - (intOf iv).toNat)
            case atStart => exact ⟨0, Nat.zero_le _, rfl, by simp, hb1, by simpa [numB, splice] using hrow⟩
            case round =>
              obtain ⟨j, hj, rfl, rfl, hbel, hrow2⟩ := hrel
              have hsl : (splice l a (numB X j)).length = n := by rw [splice_len _ _ _ (by rw [numB_length]; omega), hn]
              by_cases hlt2 : j < k
              · have hd := div_step X j
                have HD2 := Hidden.mk hd
                have hcell := hrow2.cell (a + j) (by omega)
                have hfr := hrow2.frozen (a + j)
                have hst := hrow2.store (a + j) (by omega) (UInt8.ofNat (X / 2 ^ (8 * j) % 256))
                rw [splice_put l a X j (by omega)] at hst
                have hbn := hbel.setCell (p := ⟨g, a + j, none⟩) hbg (bv (UInt8.ofNat (X / 2 ^ (8 * j) % 256)))
                have hbv : bv (UInt8.ofNat (X / 2 ^ (8 * j) % 256)) = .int .u8 ((X / 2 ^ (8 * j) : Nat) % 256 : Int) := by simp only [bv, ofNat_mod]; rfl
                have hmle : X / 2 ^ (8 * j) ≤ X := Nat.div_le_self _ _
                have hcap := hrow2.le.1
                rw [hbv] at hst hbn
                generalize X / 2 ^ (8 * j) = m at *
                have q1 : IntKind.i64.wrap ((a : Int) + j) = (a : Int) + j := IntWalk.i64_in _ (by omega)
                have k0 : (0 : Int) ≤ (a : Int) + j := by omega
                have k1 : (a : Int) + j < n := by omega
                generalize (splice l a (numB X j))[a + j] = u at hcell
                clear hd hbv hrow2 hsl
                go_wp2_with fail
                go_roundw
                case rel => exact ⟨j + 1, by omega, by go_num, int_i64 (by have := HD2.out; omega), hbn, hst⟩
                case measure => simp [intOf]; omega
              · obtain rfl : j = k := by omega
                go_wp2_with fail
                go_ret2
                refine ⟨some ⟨g, 0, none⟩, cap, ?_, by rw [HFA.out]; exact hrow2.rd, hbel⟩
                rw [show F.length = n from by rw [HFA.out]; exact hsl]
                rfl
        · have he : E = 1 := by rw [← HE.out, if_neg (fun h => hx ⟨h.2.2.1, h.2.2.2⟩)]
          have hf : F = [] := by rw [← HF.out, if_neg (by omega)]
          rw [HM.out] at hx
          subst he hf
          clear HE HF HM
          generalize 2 ^ (8 * k) = M at *
          by_cases h0 : x < 0
          · clear hx
            go_wp2_with fail
            go_ret2
            exact ⟨none, 0, rfl, Rd.nil_, Below.refl _ _⟩
          · have t3 : (M : Int) ≤ x := by omega
            clear hx
            go_wp2_with fail
            go_ret2
            exact ⟨none, 0, rfl, Rd.nil_, Below.refl _ _⟩
  · have he : E = 1 := by rw [← hE, if_neg (fun h => hs ⟨h.1, h.2.1⟩)]
    have hf : F = [] := by rw [← hF, if_neg (by omega)]
    subst he hf
    clear hE hF
    by_cases h1 : size < 1
    · clear hs
      go_enter Tryz.func156, Tryz.ntmps156
      go_wp2_with fail
      go_ret2
      exact ⟨none, 0, rfl, Rd.nil_, Below.refl _ _⟩
    · have h4 : 4 < size := by omega
      clear hs
      go_enter Tryz.func156, Tryz.ntmps156
      go_wp2_with fail
      go_ret2
      exact ⟨none, 0, rfl, Rd.nil_, Below.refl _ _⟩
theorem refPut_any (A : Option Addr) (n c : Nat) (l : Bytes) (at_ x size : Int) (w : World) (hn : l.length = n) (hl : n ≤ 140737488351232) (hr : Rd w A l) :
    Calls Tryz.prog 156 #[.slice A n c, .int .i64 at_, .int .i64 x, .int .i64 size] w fun e w' => ∃ A' c', e = .returned (.tuple #[.slice A' (putF l at_ x size).length c', .int .i64 (putE n at_ x size)]) ∧ Rd w' A' (putF l at_ x size) ∧ Below w.heap.size w w' :=
  refPut_ans A n c l at_ x size w hn hl hr
end Go.Proofs.YtcahgmnkphmnhaaGreat
/- The contract of the reference's Make. -/
namespace Go.Proofs.YtcahgmnkphmnhaaGreat
open Go.RowKit

theorem Row.keepB {B : Nat} {w w' : World} (hb : Below B w w') {g p : Nat} (hg : B ≤ g) (v : Value) : Below B w (w'.setCell ⟨g, p, none⟩ v) := hb.setCell (p := ⟨g, p, none⟩) hg v
/-- the sector as it is after k bytes of the stamp -/
def makeK (l1 : Bytes) (st k : Nat) : Bytes := splice (splice l1 0 (numB st k)) 28 (numB st k)
theorem makeK_len (l1 : Bytes) (st k : Nat) (h : l1.length = 32) (hk : k ≤ 4) : (makeK l1 st k).length = 32 := by
  unfold makeK
  have h1 : (splice l1 0 (numB st k)).length = 32 := by rw [splice_len _ _ _ (by rw [numB_length]; omega), h]
  rw [splice_len _ _ _ (by rw [numB_length]; omega), h1]
theorem makeK_get (l1 : Bytes) (st k p : Nat) (h : l1.length = 32) (hk : k ≤ 4) : (makeK l1 st k)[p]? = if p < k then some (UInt8.ofNat (st / 2 ^ (8 * p) % 256)) else if 28 ≤ p ∧ p < 28 + k then some (UInt8.ofNat (st / 2 ^ (8 * (p - 28)) % 256)) else l1[p]? := by
  unfold makeK
  have hn := numB_length st k
  have h1 : (splice l1 0 (numB st k)).length = 32 := by rw [splice_len _ _ _ (by omega), h]
  rw [splice_rd _ _ _ _ (by omega), splice_rd _ _ _ _ (by omega), hn]
  by_cases a : p < k
  · rw [if_neg (by omega), if_pos (by omega), if_pos a, Nat.sub_zero, numB_get k st p a]
  · rw [if_neg a]
    by_cases b : 28 ≤ p ∧ p < 28 + k
    · rw [if_pos b, if_pos b, numB_get k st (p - 28) (by omega)]
    · rw [if_neg b, if_neg b, if_neg (by omega)]
theorem makeK_step (l1 : Bytes) (st k : Nat) (h : l1.length = 32) (hk : k < 4) : ((makeK l1 st k).set k (UInt8.ofNat (st / 2 ^ (8 * k) % 256))).set (28 + k) (UInt8.ofNat (st / 2 ^ (8 * k) % 256)) = makeK l1 st (k + 1) := by
  have hl := makeK_len l1 st k h (by omega)
  apply List.ext_getElem?
  intro p
  rw [makeK_get l1 st (k + 1) p h (by omega), List.getElem?_set, List.getElem?_set, List.length_set, hl, makeK_get l1 st k p h (by omega)]
  by_cases a : 28 + k = p
  · subst a
    rw [if_pos rfl, if_pos (by omega), if_neg (by omega), if_pos (by omega), Nat.add_sub_cancel_left]
  · rw [if_neg a]
    by_cases b : k = p
    · subst b
      rw [if_pos rfl, if_pos (by omega), if_pos (by omega)]
    · rw [if_neg b]
      by_cases c : p < k
      · rw [if_pos c, if_pos (show p < k + 1 from by omega)]
      · rw [if_neg c, if_neg (show ¬ p < k + 1 from by omega)]
        by_cases d : 28 ≤ p ∧ p < 28 + k
        · rw [if_pos d, if_pos (show 28 ≤ p ∧ p < 28 + (k + 1) from by omega)]
        · rw [if_neg d, if_neg (show ¬ (28 ≤ p ∧ p < 28 + (k + 1)) from by omega)]
theorem splice_take_succ (z b : Bytes) (o k : Nat) (hk : k < b.length) (hz : o + b.length ≤ z.length) : (splice z o (b.take k)).set (o + k) b[k] = splice z o (b.take (k + 1)) := by
  have h1 : (b.take k).length = k := by simp; omega
  have h2 : (b.take (k + 1)).length = k + 1 := by simp; omega
  apply List.ext_getElem?
  intro p
  rw [List.getElem?_set, splice_len _ _ _ (by omega), splice_rd _ _ _ _ (by omega), splice_rd _ _ _ _ (by omega), h1, h2]
  by_cases a : o + k = p
  · subst a
    rw [if_pos rfl, if_pos (by omega), if_pos (by omega), Nat.add_sub_cancel_left, List.getElem?_take, if_pos (by omega), List.getElem?_eq_getElem hk]
  · rw [if_neg a]
    by_cases c : o ≤ p ∧ p < o + k
    · rw [if_pos c, if_pos (by omega), List.getElem?_take, List.getElem?_take, if_pos (by omega), if_pos (by omega)]
    · rw [if_neg c, if_neg (by omega)]
theorem makeK_done (st : Nat) (b : Bytes) (h : b.length ≤ 24) : makeK (splice (List.replicate 32 0) 4 b) st 4 = makeB st b := by
  rw [← makeB_steps st b h]
  unfold makeK
  have hn := numB_length st 4
  have hz : (List.replicate 32 (0 : UInt8)).length = 32 := by simp
  congr 1
  apply List.ext_getElem?
  intro p
  have h1 : (splice (List.replicate 32 (0 : UInt8)) 4 b).length = 32 := by rw [splice_len _ _ _ (by omega), hz]
  have h2 : (splice (List.replicate 32 (0 : UInt8)) 0 (numB st 4)).length = 32 := by rw [splice_len _ _ _ (by omega), hz]
  rw [splice_rd _ _ _ _ (by omega), splice_rd _ _ _ _ (by omega), splice_rd _ _ _ _ (by omega), splice_rd _ _ _ _ (by omega), hn]
  by_cases a : 0 ≤ p ∧ p < 0 + 4
  · rw [if_pos a, if_neg (by omega), if_pos a]
  · rw [if_neg a]
    by_cases c : 4 ≤ p ∧ p < 4 + b.length
    · rw [if_pos c, if_pos c]
    · rw [if_neg c, if_neg c, if_neg a]

end Go.Proofs.YtcahgmnkphmnhaaGreat
/- The contracts of the reference's Name, NameBytes and ReadName. -/
namespace Go.Proofs.YtcahgmnkphmnhaaGreat
open Go.RowKit

theorem isName_bad (s : Bytes) (k : Nat) (hk : k < s.length) (h : notLower s[k] = true) : isName s = false := by
  unfold isName
  rw [List.any_eq_true.2 ⟨s[k], List.getElem_mem hk, h⟩]
  simp
theorem refName_any (s : Bytes) (w : World) (hs : s.length ≤ 140737488351232) :
    Calls Tryz.prog 157 #[sv s] w fun e w' => e = .returned (.bool (isName s)) ∧ w = w' := by
  by_cases h0 : s = []
  · subst h0
    go_enter Tryz.func157, Tryz.ntmps157
    go_wp2
    go_ret
    exact ⟨rfl, rfl⟩
  · have h0' : s.isEmpty = false := by
      cases s with
      | nil => exact absurd rfl h0
      | cons a b => rfl
    by_cases h8 : 8 < s.length
    · have hv : Hidden (false = isName s) := ⟨by simp [isName]; intros; omega⟩
      have t8 : decide ((8 : Int) < s.length) = true := by simp; omega
      clear h0
      go_enter Tryz.func157, Tryz.ntmps157
      go_wp2
      go_ret
      exact ⟨ret_bool hv.out, rfl⟩
    · have t8 : decide ((8 : Int) < s.length) = false := by simp; omega
      clear h0
      go_enter Tryz.func157, Tryz.ntmps157
      go_wp2
      go_loop [3] (fun i => ∃ k : Nat, k ≤ s.length ∧ i = .int .i64 k ∧ Hidden (∀ x ∈ s.take k, notLower x = false)) (fun i => s.length - (intOf i).toNat)
      case atStart => exact ⟨0, Nat.zero_le _, rfl, ⟨by simp⟩⟩
      case round =>
        obtain ⟨k, hk, rfl, hnot⟩ := hrel
        by_cases hlt : k < s.length
        · have k0 : (0 : Int) ≤ k := by omega
          have k1 : (k : Int) < s.length := by omega
          have hix : ((⟨s.toArray⟩ : ByteArray)[k]'(by simpa [ByteArray.size] using hlt)) = s[k] := rfl
          by_cases ha : s[k].toNat < 97
          · have hv : Hidden (false = isName s) := ⟨(isName_bad s k hlt (by simp [notLower, ha])).symm⟩
            have t1 : decide ((s[k].toNat : Int) < 97) = true := by simp; omega
            clear hnot
            go_wp2
            go_ret
            exact ⟨ret_bool hv.out, rfl⟩
          · have t1 : decide ((s[k].toNat : Int) < 97) = false := by simp; omega
            by_cases hb : 122 < s[k].toNat
            · have hv : Hidden (false = isName s) := ⟨(isName_bad s k hlt (by simp [notLower, hb])).symm⟩
              have t2 : decide ((122 : Int) < s[k].toNat) = true := by simp; omega
              clear hnot
              go_wp2
              go_ret
              exact ⟨ret_bool hv.out, rfl⟩
            · have t2 : decide ((122 : Int) < s[k].toNat) = false := by simp; omega
              have hnk : Hidden (∀ x ∈ s.take (k + 1), notLower x = false) := ⟨forall_take_succ hlt hnot.out (by simp [notLower]; omega)⟩
              clear hnot
              go_wp2
              go_round
              case rel => exact ⟨k + 1, by omega, by go_num, hnk⟩
              case measure => simp [intOf]; omega
        · have hv : Hidden (true = isName s) := ⟨by
            have := hnot.out
            rw [List.take_of_length_le (by omega)] at this
            have h3 : s.any notLower = false := by simpa using this
            simp [isName, h3, h0']; omega⟩
          clear hnot
          go_wp2
          go_ret
          exact ⟨ret_bool hv.out, rfl⟩

theorem idxOf_at (l : Bytes) (k : Nat) (hk : k ≤ l.length) (h : ∀ x ∈ l.take k, nonZero x = true) (he : k = l.length ∨ ∃ h' : k < l.length, l[k] = 0) : l.idxOf 0 = k := by
  have hn : (0 : UInt8) ∉ l.take k := fun h0 => by have := h 0 h0; simp [nonZero] at this
  rcases he with rfl | ⟨h', hz⟩
  · rw [List.take_length] at hn
    exact List.idxOf_eq_length hn
  · have := idxB_at l 0 k h' hn hz
    have hm : (0 : UInt8) ∈ l := by rw [← hz]; exact List.getElem_mem h'
    unfold idxB at this
    rw [if_pos hm] at this
    omega
theorem refReadName_e3 (A : Option Addr) (n c : Nat) (w : World) (h8 : n ≠ 8) :
    Calls Tryz.prog 126 #[.slice A n c] w fun e w' => e = .returned (.tuple #[sv [], .int .i64 3]) ∧ w = w' := by
  have h8' : ((n : Int) != 8) = true := by simp; omega
  clear h8
  go_enter Tryz.func126, Tryz.ntmps126
  go_wp2
  go_ret2
  exact ⟨rfl, rfl⟩
set_option maxRecDepth 100000 in
theorem refReadName_any (A : Option Addr) (c : Nat) (l : Bytes) (w : World) (h8 : l.length = 8) (hc : 8 ≤ c) (hr : Rd w A l) :
    Calls Tryz.prog 126 #[.slice A 8 c] w fun e w' => e = .returned (.tuple (if gotName l = true then #[sv (nameAt l), .int .i64 0] else #[sv [], .int .i64 2])) ∧ w = w' := by
  generalize hres : (if gotName l = true then #[sv (nameAt l), .int .i64 0] else #[sv [], .int .i64 2]) = res
  have HRES := Hidden.mk hres
  clear hres
  obtain ⟨p, off, rfl, _⟩ := hr.lt (by omega)
  go_enter Tryz.func126, Tryz.ntmps126
  go_wp2_with fail
  go_loop [4] (fun i => ∃ k : Nat, k ≤ 8 ∧ i = .int .i64 k ∧ Hidden (∀ x ∈ l.take k, nonZero x = true)) (fun i => 8 - (intOf i).toNat)
  case atStart => exact ⟨0, Nat.zero_le _, rfl, ⟨by simp⟩⟩
  case round =>
    obtain ⟨k, hk, rfl, hnot⟩ := hrel
    by_cases hgo : ∃ h : k < l.length, nonZero l[k] = true
    · obtain ⟨hlt, hnz⟩ := hgo
      have hcell := hr.at_ k hlt
      have hb := bv_bne l[k]
      rw [hnz] at hb
      have hnk : Hidden (∀ x ∈ l.take (k + 1), nonZero x = true) := ⟨by
        intro x hx
        rw [List.take_succ_eq_append_getElem hlt, List.mem_append, List.mem_singleton] at hx
        rcases hx with hx | rfl
        · exact hnot.out x hx
        · exact hnz⟩
      have k0 : (0 : Int) ≤ k := by omega
      have k1 : (k : Int) < 8 := by omega
      clear hnz hnot
      go_wp2_with fail
      go_round
      case rel => exact ⟨k + 1, by omega, by go_num, hnk⟩
      case measure => simp [intOf]; omega
    · have hidx : l.idxOf 0 = k := idxOf_at l k (by omega) hnot.out (by
        rcases Nat.lt_or_ge k l.length with h | h
        · right
          refine ⟨h, ?_⟩
          have : ¬ nonZero l[k] = true := fun h2 => hgo ⟨h, h2⟩
          simpa [nonZero] using this
        · left; omega)
      have HNA : Hidden (nameAt l = l.take k) := ⟨by unfold nameAt; rw [hidx]⟩
      have HNR : Hidden (nameRest l = l.drop k) := ⟨by unfold nameRest; rw [hidx]⟩
      clear hnot hidx
      have hk8 : decide (k < 8) = true → ∃ h : k < l.length, (((l[k]).toNat : Int) != 0) = false := fun h => by
        have h' : k < 8 := by simpa using h
        refine ⟨by omega, ?_⟩
        have : ¬ nonZero l[k] = true := fun h2 => hgo ⟨by omega, h2⟩
        rw [bv_bne]; simpa using this
      clear hgo
      have hna : Rd w (some ⟨p, off, none⟩) (l.take k) := hr.take k (by omega)
      have hcv := conv_text w (some ⟨p, off, none⟩) k c (l.take k) (by simp; omega) hna
      have hkl : (l.take k).length ≤ 140737488351232 := by simp; omega
      have kk0 : (0 : Int) ≤ (k : Int) := by omega
      have HNM : Hidden (isName (nameAt l) = isName (l.take k)) := ⟨by rw [HNA.out]⟩
      cases hd : decide (k < 8) with
      | true =>
        obtain ⟨hltl, hz⟩ := hk8 hd
        have hcell := hr.at_ k hltl
        have k1 : (k : Int) < 8 := by have : k < 8 := by simpa using hd
                                      omega
        clear hk8 hd
        go_wp2_with fail
        go_loop [5] (fun i => ∃ j : Nat, k ≤ j ∧ j ≤ 8 ∧ i = .int .i64 j ∧ Hidden (∀ q (h : q < l.length), k ≤ q → q < j → nonZero l[q] = false)) (fun i => 8 - (intOf i).toNat)
        case atStart => exact ⟨k, Nat.le_refl _, hk, rfl, ⟨fun q _ h1 h2 => by omega⟩⟩
        case round =>
          obtain ⟨j, hkj, hj, rfl, hall⟩ := hrel
          by_cases hlt : j < 8
          · have hcj := hr.at_ j (by omega)
            have hb := bv_bne (l[j]'(by omega))
            have j0 : (0 : Int) ≤ j := by omega
            have j1 : (j : Int) < 8 := by omega
            cases hz2 : nonZero (l[j]'(by omega)) with
            | true =>
              rw [hz2] at hb
              have hr2 : Hidden (#[sv [], .int .i64 2] = res) := ⟨by
                rw [← HRES.out, if_neg]
                intro hg
                simp only [gotName, Bool.and_eq_true, Bool.not_eq_true', HNR.out] at hg
                have hm : l[j]'(by omega) ∈ l.drop k := by
                  rw [List.mem_iff_getElem]
                  exact ⟨j - k, by simp; omega, by simp [show k + (j - k) = j from by omega]⟩
                have := List.any_eq_true.2 ⟨_, hm, hz2⟩
                rw [hg.2] at this
                cases this⟩
              clear hz2 hall
              go_wp2_with fail
              go_ret2
              exact ⟨congrArg (fun r => Ending.returned (.tuple r)) hr2.out, rfl⟩
            | false =>
              rw [hz2] at hb
              have hnk : Hidden (∀ q (h : q < l.length), k ≤ q → q < j + 1 → nonZero l[q] = false) := ⟨fun q h h1 h2 => by
                rcases Nat.lt_or_ge q j with h3 | h3
                · exact hall.out q h h1 h3
                · obtain rfl : q = j := by omega
                  exact hz2⟩
              clear hz2 hall
              go_wp2_with fail
              go_round
              case rel => exact ⟨j + 1, by omega, by omega, by go_num, hnk⟩
              case measure => simp [intOf]; omega
          · have hrest : Hidden ((nameRest l).any nonZero = false) := ⟨by
              rw [HNR.out, List.any_eq_false]
              intro x hx
              obtain ⟨q, hq, rfl⟩ := List.mem_iff_getElem.1 hx
              simp at hq
              have := hall.out (k + q) (by omega) (by omega) (by omega)
              simpa using this⟩
            clear hall
            go_wp2_with fail
            refine (refName_any (l.take k) _ hkl).mono ?_
            rintro e w2 ⟨rfl, rfl⟩
            cases hnm : isName (l.take k) with
            | false =>
              have hr2 : Hidden (#[sv [], .int .i64 2] = res) := ⟨by rw [← HRES.out]; simp [gotName, HNM.out, hnm]⟩
              clear hnm
              go_wp2_with fail
              go_ret2
              exact ⟨congrArg (fun r => Ending.returned (.tuple r)) hr2.out, rfl⟩
            | true =>
              have hr2 : Hidden (#[sv (l.take k), .int .i64 0] = res) := ⟨by rw [← HRES.out]; simp [gotName, hnm, hrest.out, HNA.out]⟩
              clear hnm
              go_wp2_with fail
              go_ret2
              exact ⟨congrArg (fun r => Ending.returned (.tuple r)) hr2.out, rfl⟩
      | false =>
        have k1 : ¬ (k : Int) < 8 := by have : ¬ k < 8 := by simpa using hd
                                        omega
        clear hk8 hd
        go_wp2_with fail
        go_loop [5] (fun i => ∃ j : Nat, k ≤ j ∧ j ≤ 8 ∧ i = .int .i64 j ∧ Hidden (∀ q (h : q < l.length), k ≤ q → q < j → nonZero l[q] = false)) (fun i => 8 - (intOf i).toNat)
        case atStart => exact ⟨k, Nat.le_refl _, hk, rfl, ⟨fun q _ h1 h2 => by omega⟩⟩
        case round =>
          obtain ⟨j, hkj, hj, rfl, hall⟩ := hrel
          by_cases hlt : j < 8
          · have hcj := hr.at_ j (by omega)
            have hb := bv_bne (l[j]'(by omega))
            have j0 : (0 : Int) ≤ j := by omega
            have j1 : (j : Int) < 8 := by omega
            cases hz2 : nonZero (l[j]'(by omega)) with
            | true =>
              rw [hz2] at hb
              have hr2 : Hidden (#[sv [], .int .i64 2] = res) := ⟨by
                rw [← HRES.out, if_neg]
                intro hg
                simp only [gotName, Bool.and_eq_true, Bool.not_eq_true', HNR.out] at hg
                have hm : l[j]'(by omega) ∈ l.drop k := by
                  rw [List.mem_iff_getElem]
                  exact ⟨j - k, by simp; omega, by simp [show k + (j - k) = j from by omega]⟩
                have := List.any_eq_true.2 ⟨_, hm, hz2⟩
                rw [hg.2] at this
                cases this⟩
              clear hz2 hall
              go_wp2_with fail
              go_ret2
              exact ⟨congrArg (fun r => Ending.returned (.tuple r)) hr2.out, rfl⟩
            | false =>
              rw [hz2] at hb
              have hnk : Hidden (∀ q (h : q < l.length), k ≤ q → q < j + 1 → nonZero l[q] = false) := ⟨fun q h h1 h2 => by
                rcases Nat.lt_or_ge q j with h3 | h3
                · exact hall.out q h h1 h3
                · obtain rfl : q = j := by omega
                  exact hz2⟩
              clear hz2 hall
              go_wp2_with fail
              go_round
              case rel => exact ⟨j + 1, by omega, by omega, by go_num, hnk⟩
              case measure => simp [intOf]; omega
          · have hrest : Hidden ((nameRest l).any nonZero = false) := ⟨by
              rw [HNR.out, List.any_eq_false]
              intro x hx
              obtain ⟨q, hq, rfl⟩ := List.mem_iff_getElem.1 hx
              simp at hq
              have := hall.out (k + q) (by omega) (by omega) (by omega)
              simpa using this⟩
            clear hall
            go_wp2_with fail
            refine (refName_any (l.take k) _ hkl).mono ?_
            rintro e w2 ⟨rfl, rfl⟩
            cases hnm : isName (l.take k) with
            | false =>
              have hr2 : Hidden (#[sv [], .int .i64 2] = res) := ⟨by rw [← HRES.out]; simp [gotName, HNM.out, hnm]⟩
              clear hnm
              go_wp2_with fail
              go_ret2
              exact ⟨congrArg (fun r => Ending.returned (.tuple r)) hr2.out, rfl⟩
            | true =>
              have hr2 : Hidden (#[sv (l.take k), .int .i64 0] = res) := ⟨by rw [← HRES.out]; simp [gotName, hnm, hrest.out, HNA.out]⟩
              clear hnm
              go_wp2_with fail
              go_ret2
              exact ⟨congrArg (fun r => Ending.returned (.tuple r)) hr2.out, rfl⟩
end Go.Proofs.YtcahgmnkphmnhaaGreat
/- What stays: all but the blocks of a set. No program in sight. -/
namespace Go.Proofs.YtcahgmnkphmnhaaGreat
open Go.RowKit

/-- all that is not in F is as it was; F: the blocks that a device takes -/
structure Keep (F : Nat → Prop) (w w' : World) : Prop where
  os : w'.os = w.os
  tape : w'.tape = w.tape
  output : w'.output = w.output
  size : w.heap.size ≤ w'.heap.size
  block : ∀ k, k < w.heap.size → ¬ F k → w'.heap[k]? = w.heap[k]?
theorem Keep.refl (F : Nat → Prop) (w : World) : Keep F w w := ⟨rfl, rfl, rfl, Nat.le_refl _, fun _ _ _ => rfl⟩
theorem Keep.trans {F F' : Nat → Prop} {a b c : World} (h : Keep F a b) (k : Keep F' b c) (hF : ∀ x, F' x → F x ∨ a.heap.size ≤ x) : Keep F a c :=
  ⟨k.os.trans h.os, k.tape.trans h.tape, k.output.trans h.output, Nat.le_trans h.size k.size, fun x hx hn =>
    (k.block x (Nat.lt_of_lt_of_le hx h.size) (fun hf => by rcases hF x hf with h' | h'; exact hn h'; omega)).trans (h.block x hx hn)⟩
theorem Keep.of_below {F : Nat → Prop} {w w' : World} (h : Below w.heap.size w w') : Keep F w w' := ⟨h.os, h.tape, h.output, h.size, fun k hk _ => h.block k hk⟩
theorem Keep.below {F : Nat → Prop} {B : Nat} {w w' : World} (h : Keep F w w') (hB : B ≤ w.heap.size) (hF : ∀ k, F k → B ≤ k) : Below B w w' :=
  ⟨h.os, h.tape, h.output, h.size, fun k hk => h.block k (by omega) (fun hf => by have := hF k hf; omega)⟩
theorem Keep.rd {F : Nat → Prop} {w w' : World} {A : Option Addr} {l : Bytes} (h : Keep F w w') (hr : Rd w A l) (hA : ∀ ad, A = some ad → ¬ F ad.block) : Rd w' A l := fun j hj => by
  obtain ⟨b, off, rfl, hc⟩ := hr j hj
  exact ⟨b, off, rfl, (World.cell?_of_block (w := w) (h.block b (block_lt_of_cell hc) (hA _ rfl))).trans hc⟩
theorem Keep.row {F : Nat → Prop} {w w' : World} {e g cap : Nat} {l : Bytes} (h : Keep F w w') (hr : Row w e g cap l) (hg : ¬ F g) : Row w' e g cap l := by
  obtain ⟨cur, h0, h1⟩ := hr
  exact ⟨cur, (h.block g (Array.getElem?_eq_some_iff.1 h0).1 hg).trans h0, h1⟩
theorem Keep.drewN {F : Nat → Prop} {w w' : World} (h : Keep F w w') (n : Nat) : Keep F w (w'.drewN n) := ⟨h.os, h.tape, h.output, h.size, h.block⟩

section
variable {w w' : World}
theorem ownsRow_block {base : Nat} {e : TypeId} {size : Nat} {v : Value} {n : Nat} {xs : List Value} (h : w.ownsRow base e size v n xs) (hb : ∀ q, v.ownBlock = some q → w'.heap[q]? = w.heap[q]?) : w'.ownsRow base e size v n xs := by
  refine ⟨h.1, ?_⟩
  rcases h.2 with hn | ⟨g, cap, cur, rfl, hb0, hgg, rest⟩
  · exact .inl hn
  · exact .inr ⟨g, cap, cur, rfl, hb0, (hb g rfl).trans hgg, rest⟩
theorem Row.block {e g cap : Nat} {l : Bytes} (h : Row w e g cap l) (hb : w'.heap[g]? = w.heap[g]?) : Row w' e g cap l := by
  obtain ⟨cur, h0, h1⟩ := h
  exact ⟨cur, hb.trans h0, h1⟩
theorem ne_cells {g : Nat} {cur cur' : Array Value} {t t' : TypeId} (h1 : w.heap[g]? = some (.cells cur t (0, 0))) {g' : Nat} (h2 : w.heap[g']? = some (.cells cur' t' (0, 0))) (hne : t ≠ t') : g ≠ g' := fun e => by
  rw [e, h2] at h1
  injection h1 with h1
  injection h1 with _ h1
  exact hne h1.symm
theorem ne_row {g : Nat} {cur : Array Value} {t : TypeId} (h1 : w.heap[g]? = some (.cells cur t (0, 0))) {e g' cap : Nat} {l : Bytes} (h2 : Row w e g' cap l) (hne : t ≠ e) : g ≠ g' := by
  obtain ⟨cur', h0, _⟩ := h2
  exact ne_cells h1 h0 hne
end
theorem heap_setK {w : World} {d k : Nat} {cur : Array Value} {t : TypeId} (h : w.heap[d]? = some (.cells cur t (0, 0))) (v : Value) : (w.setCell ⟨d, k, none⟩ v).heap[d]? = some (.cells (cur.setIfInBounds k v) t (0, 0)) := by
  rw [setCell_eq_setRow w d k cur t _ _ h]
  exact setRow_heap w d cur _ t _ h
def FourAt (w : World) (p : Nat) (a b c d : Int) : Prop := w.cell? ⟨p, 0, none⟩ = some (.int .i64 a) ∧ w.cell? ⟨p, 1, none⟩ = some (.int .i64 b) ∧ w.cell? ⟨p, 2, none⟩ = some (.int .i64 c) ∧ w.cell? ⟨p, 3, none⟩ = some (.int .i64 d)
theorem fourAt_one (w : World) (a b c d : Int) (t : TypeId) : FourAt (w.alloc (.cells #[.int .i64 a, .int .i64 b, .int .i64 c, .int .i64 d] t)) w.heap.size a b c d := by
  have h := heap_alloc_new w (.cells #[.int .i64 a, .int .i64 b, .int .i64 c, .int .i64 d] t)
  unfold FourAt
  simp only [World.cell?]
  rw [h]
  exact ⟨rfl, rfl, rfl, rfl⟩
theorem FourAt.below {w w' : World} {p : Nat} {a b c d : Int} (h : FourAt w p a b c d) (hb : Below w.heap.size w w') : FourAt w' p a b c d := by
  have hlt := block_lt_of_cell h.1
  exact ⟨(hb.cell (p := ⟨p, 0, none⟩) hlt).trans h.1, (hb.cell (p := ⟨p, 1, none⟩) hlt).trans h.2.1, (hb.cell (p := ⟨p, 2, none⟩) hlt).trans h.2.2.1, (hb.cell (p := ⟨p, 3, none⟩) hlt).trans h.2.2.2⟩
end Go.Proofs.YtcahgmnkphmnhaaGreat
/- The reference on images: Image, Handle, Zero, RootAt, Entry, Wipe. -/
namespace Go.Proofs.YtcahgmnkphmnhaaGreat
open Go.RowKit

theorem ref_right_any (n : Int) (w : World) : Calls Tryz.prog 40 #[.int .i64 n] w fun e w' => e = .returned (.bool (rightB n)) ∧ w = w' := by
  by_cases h1 : 288 ≤ n
  · go_enter Tryz.func40, Tryz.ntmps40
    go_wp2
    go_ret
    exact ⟨ret_bool (by simp [rightB]; intros; omega), rfl⟩
  · go_enter Tryz.func40, Tryz.ntmps40
    go_wp2
    go_ret
    exact ⟨ret_bool (by symm; simp [rightB]; omega), rfl⟩
theorem ref_handle_any (n : Int) (w : World) : Calls Tryz.prog 127 #[.int .i64 n] w fun e w' => e = .returned (.bool (handleB n)) ∧ w = w' := by
  by_cases h1 : 1 ≤ n
  · go_enter Tryz.func127, Tryz.ntmps127
    go_wp2
    go_ret
    exact ⟨ret_bool (by simp [handleB]; intros; omega), rfl⟩
  · go_enter Tryz.func127, Tryz.ntmps127
    go_wp2
    go_ret
    exact ⟨ret_bool (by symm; simp [handleB]; omega), rfl⟩
theorem zeroE_at (l : Bytes) (j : Nat) (hj : j < l.length) (h : nonZero l[j] = true) : zeroE l = false := by
  unfold zeroE
  rw [Bool.not_eq_false', List.any_eq_true]
  exact ⟨l[j], List.getElem_mem hj, h⟩
theorem zeroE_none (l : Bytes) (h : ∀ x ∈ l, nonZero x = false) : zeroE l = true := by
  unfold zeroE
  rw [Bool.not_eq_true', List.any_eq_false]
  intro x hx; rw [h x hx]; simp
theorem refZero_any (A : Option Addr) (n c : Nat) (l : Bytes) (w : World) (hn : l.length = n) (hl : n ≤ 140737488351232) (hr : Rd w A l) :
    Calls Tryz.prog 125 #[.slice A n c] w fun e w' => e = .returned (.bool (zeroE l)) ∧ w = w' := by
  subst hn
  go_enter Tryz.func125, Tryz.ntmps125
  go_wp2
  go_loop [3] (fun i => ∃ j : Nat, j ≤ l.length ∧ i = .int .i64 (j : Int) ∧ Hidden (∀ x ∈ l.take j, nonZero x = false)) (fun i => l.length - (intOf i).toNat)
  case atStart => exact ⟨0, Nat.zero_le _, rfl, ⟨by simp⟩⟩
  case round =>
    obtain ⟨j, hj, rfl, hno⟩ := hrel
    by_cases hlt : j < l.length
    · obtain ⟨b, off, rfl, hc⟩ := hr j (by omega)
      have hz := Hidden.mk (zeroE_at l j hlt)
      have hnext : Hidden (nonZero l[j] = false → ∀ x ∈ l.take (j + 1), nonZero x = false) := ⟨fun h x hx => by
        rw [List.take_succ_eq_append_getElem hlt, List.mem_append, List.mem_singleton] at hx
        rcases hx with hx | rfl
        · exact hno.out x hx
        · exact h⟩
      generalize l[j] = x at *
      have k0 : (0 : Int) ≤ j := by omega
      have k1 : (j : Int) < l.length := by omega
      cases hx : nonZero x with
      | true =>
        have hq : ((x.toNat : Int) != 0) = true := by rw [bv_bne]; exact hx
        go_wp2
        go_ret
        exact ⟨ret_bool (hz.out hx).symm, rfl⟩
      | false =>
        have hq : ((x.toNat : Int) != 0) = false := by rw [bv_bne]; exact hx
        have HN := Hidden.mk (hnext.out hx)
        clear hnext
        go_wp2
        go_round
        case rel => exact ⟨j + 1, by omega, by go_num, HN⟩
        case measure => simp [intOf]; omega
    · obtain rfl : j = l.length := by omega
      have hz := Hidden.mk (zeroE_none l (by have := hno.out; rwa [List.take_of_length_le (Nat.le_refl _)] at this))
      go_wp2
      go_ret
      exact ⟨ret_bool hz.out.symm, rfl⟩
theorem hd_get (r : Bytes) (h : 0 < r.length) : r[0] = rHd r := by
  cases r with
  | nil => simp at h
  | cons x y => rfl
theorem refRootAt_ok (p off n c k : Nat) (w : World) (hk : k < 8) (hn : 288 ≤ n) (hc : n ≤ c) :
    Calls Tryz.prog 124 #[.slice (some ⟨p, off, none⟩) n c, .int .i64 (k : Int)] w fun e w' => e = .returned (.slice (some ⟨p, off + (200 + 11 * k), none⟩) 11 (c - (200 + 11 * k))) ∧ w = w' := by
  have s1 : IntKind.i64.wrap (11 * (k : Int)) = 11 * (k : Int) := IntWalk.i64_in _ (by omega)
  have s2 : IntKind.i64.wrap (200 + 11 * (k : Int)) = ((200 + 11 * k : Nat) : Int) := by rw [IntWalk.i64_in _ (by omega)]; omega
  have s3 : IntKind.i64.wrap (211 + 11 * (k : Int)) = ((211 + 11 * k : Nat) : Int) := by rw [IntWalk.i64_in _ (by omega)]; omega
  have hcut := run_cut p off n c (200 + 11 * k) (211 + 11 * k) (by omega) (by omega) (by omega)
  have e1 : 211 + 11 * k - (200 + 11 * k) = 11 := by omega
  rw [e1] at hcut
  generalize 200 + 11 * k = o1 at *
  generalize 211 + 11 * k = o2 at *
  go_enter Tryz.func124, Tryz.ntmps124
  go_wp2_with fail
  go_ret
  exact ⟨rfl, rfl⟩
theorem fourAt_new (w : World) (f : Obj) (a b c d : Int) (t : TypeId) : FourAt ((w.alloc f).alloc (.cells #[.int .i64 a, .int .i64 b, .int .i64 c, .int .i64 d] t)) (w.heap.size + 1) a b c d := by
  have h := heap_alloc_new (w.alloc f) (.cells #[.int .i64 a, .int .i64 b, .int .i64 c, .int .i64 d] t)
  rw [show (w.alloc f).heap.size = w.heap.size + 1 by simp] at h
  unfold FourAt
  simp only [World.cell?]
  rw [h]
  exact ⟨rfl, rfl, rfl, rfl⟩
set_option maxRecDepth 100000 in
theorem refEntry_ok (A : Option Addr) (n c : Nat) (l : Bytes) (k : Nat) (w : World) (hn : l.length = n) (hl : 200 ≤ n) (hnc : n ≤ c) (hrd : Rd w A l) (hk : k < 40) :
    Calls Tryz.prog 74 #[.slice A n c, .int .i64 ((k : Int) + 1)] w fun e w' => e = .returned (.tuple #[entR ((k : Int) + 1) (rawE l k), .bool (hasE (rawE l k))]) ∧ Below w.heap.size w w' := by
  have hRl := rawE_len l k hk (by omega)
  obtain ⟨p, off, rfl, hpl⟩ := hrd.lt (by omega)
  have s1 : IntKind.i64.wrap ((k : Int) + 1 - 1) = (k : Int) := by rw [IntWalk.i64_in _ (by omega)]; omega
  have s2 : IntKind.i64.wrap (5 * (k : Int)) = ((5 * k : Nat) : Int) := by rw [IntWalk.i64_in _ (by omega)]; omega
  have s3 : IntKind.i64.wrap (((5 * k : Nat) : Int) + 1) = ((5 * k + 1 : Nat) : Int) := by rw [IntWalk.i64_in _ (by omega)]; omega
  have s4 : IntKind.i64.wrap (((5 * k : Nat) : Int) + 3) = ((5 * k + 3 : Nat) : Int) := by rw [IntWalk.i64_in _ (by omega)]; omega
  have s5 : IntKind.i64.wrap (((5 * k : Nat) : Int) + 5) = ((5 * k + 5 : Nat) : Int) := by rw [IntWalk.i64_in _ (by omega)]; omega
  have hcut1 := run_cut p off n c (5 * k + 1) (5 * k + 3) (by omega) (by omega) (by omega)
  have hcut3 := run_cut p off n c (5 * k + 3) (5 * k + 5) (by omega) (by omega) (by omega)
  rw [show 5 * k + 3 - (5 * k + 1) = 2 by omega] at hcut1
  rw [show 5 * k + 5 - (5 * k + 3) = 2 by omega] at hcut3
  have k0 : ((5 * k : Nat) : Int) < n := by omega
  have HB : Hidden (∀ W, Below w.heap.size w W → W.cell? ⟨p, off + 5 * k, none⟩ = some (bv (rHd (rawE l k)))) := ⟨fun W hW => by
    have hq := rawE_rd (hrd.below hW) k hk (by omega)
    rw [Option.map_some, Addr.add_lit] at hq
    have h0 := hq.at_ 0 (by rw [hRl]; omega)
    have hh : (rawE l k)[0]'(by omega) = rHd (rawE l k) := hd_get _ _
    rw [hh] at h0
    exact h0⟩
  have H1 : Hidden (∀ W cap, Below w.heap.size w W → Calls Tryz.prog 114 #[.slice (some ⟨p, off + (5 * k + 1), none⟩) 2 cap] W fun e w' => e = .returned (.int .i64 (rAt (rawE l k) : Int)) ∧ W = w') := ⟨fun W cap hW => by
    have h := ((rawE_rd (hrd.below hW) k hk (by omega)).cut 1 2 (by omega))
    rw [Option.map_some, Addr.add_lit, Option.map_some, Addr.add_lit, Nat.add_assoc] at h
    exact number_any _ 2 cap _ W (by simp; omega) (by omega) h⟩
  have H3 : Hidden (∀ W cap, Below w.heap.size w W → Calls Tryz.prog 114 #[.slice (some ⟨p, off + (5 * k + 3), none⟩) 2 cap] W fun e w' => e = .returned (.int .i64 (rLen (rawE l k) : Int)) ∧ W = w') := ⟨fun W cap hW => by
    have h := ((rawE_rd (hrd.below hW) k hk (by omega)).cut 3 2 (by omega))
    rw [Option.map_some, Addr.add_lit, Option.map_some, Addr.add_lit, Nat.add_assoc] at h
    exact number_any _ 2 cap _ W (by simp; omega) (by omega) h⟩
  have HR : Hidden (entR ((k : Int) + 1) (rawE l k) = .agg #[.int .i64 ((k : Int) + 1), .int .i64 (rAt (rawE l k)), .int .i64 (rLen (rawE l k)), .int .i64 (rTag (rawE l k))] ∧ rTag (rawE l k) = ((rHd (rawE l k)).toNat : Int) - 1 ∧ hasE (rawE l k) = (((rHd (rawE l k)).toNat : Int) != 0)) := ⟨rfl, rfl, (bv_bne _).symm⟩
  have hW : Below w.heap.size w (w.alloc (.cells #[.int .i64 0, .int .i64 0, .int .i64 0, .int .i64 0] 97)) := (Below.refl _ _).alloc (Nat.le_refl _) _
  have c0 := HB.out _ hW
  generalize rawE l k = r at *
  generalize 5 * k + 1 = o1 at *
  generalize 5 * k + 3 = o3 at *
  generalize 5 * k + 5 = o5 at *
  generalize 5 * k = o at *
  clear hrd hW hRl
  generalize rHd r = hd at *
  generalize (rAt r : Int) = b1 at *
  generalize (rLen r : Int) = b2 at *
  have hx := u8_lt hd
  have hw0 : IntKind.i64.wrap (hd.toNat : Int) = (hd.toNat : Int) := IntWalk.i64_in _ (by omega)
  have hw1 : IntKind.i64.wrap ((hd.toNat : Int) - 1) = (hd.toNat : Int) - 1 := IntWalk.i64_in _ (by omega)
  go_enter Tryz.func74, Tryz.ntmps74
  go_wp2_with fail
  generalize (hd.toNat : Int) - 1 = tg at *
  have hB2 : Below w.heap.size w ((w.alloc (.cells #[.int .i64 0, .int .i64 0, .int .i64 0, .int .i64 0] 97)).alloc (.cells #[.int .i64 ((k : Int) + 1), .int .i64 0, .int .i64 0, .int .i64 tg] 97)) := ((Below.refl _ _).alloc (Nat.le_refl _) _).alloc (by simp) _
  refine (H1.out _ _ hB2).mono ?_
  rintro e w1 ⟨rfl, rfl⟩
  go_wp2_with fail
  have hB3 : Below w.heap.size w ((w.alloc (.cells #[.int .i64 0, .int .i64 0, .int .i64 0, .int .i64 0] 97)).alloc (.cells #[.int .i64 ((k : Int) + 1), .int .i64 b1, .int .i64 0, .int .i64 tg] 97)) := ((Below.refl _ _).alloc (Nat.le_refl _) _).alloc (by simp) _
  refine (H3.out _ _ hB3).mono ?_
  rintro e w1 ⟨rfl, rfl⟩
  have hB4 : Below w.heap.size w ((w.alloc (.cells #[.int .i64 0, .int .i64 0, .int .i64 0, .int .i64 0] 97)).alloc (.cells #[.int .i64 ((k : Int) + 1), .int .i64 b1, .int .i64 b2, .int .i64 tg] 97)) := ((Below.refl _ _).alloc (Nat.le_refl _) _).alloc (by simp) _
  have dS : ∀ f, ((w.alloc f).alloc (.cells #[.int .i64 ((k : Int) + 1), .int .i64 b1, .int .i64 b2, .int .i64 tg] 97)).cell? ⟨p, off + o, none⟩ = some (bv hd) ∧ FourAt ((w.alloc f).alloc (.cells #[.int .i64 ((k : Int) + 1), .int .i64 b1, .int .i64 b2, .int .i64 tg] 97)) (w.heap.size + 1) ((k : Int) + 1) b1 b2 tg := fun f => ⟨HB.out _ (((Below.refl _ _).alloc (Nat.le_refl _) _).alloc (by simp) _), fourAt_new w f _ _ _ _ _⟩
  unfold FourAt at dS
  have hwp : w.cell? ⟨p, off + o, none⟩ = some (bv hd) := HB.out _ (Below.refl _ _)
  clear hB2 hB3
  go_wp2_with fail
  go_region_held3 (fun W => W.cell? ⟨p, off + o, none⟩ = some (bv hd) ∧ W.cell? ⟨w.heap.size + 1, 0, none⟩ = some (.int .i64 ((k : Int) + 1)) ∧ W.cell? ⟨w.heap.size + 1, 1, none⟩ = some (.int .i64 b1) ∧ W.cell? ⟨w.heap.size + 1, 2, none⟩ = some (.int .i64 b2) ∧ W.cell? ⟨w.heap.size + 1, 3, none⟩ = some (.int .i64 tg)) (first | exact hwp | exact dS _ | exact (dS _).1 | exact (dS _).2.1 | exact (dS _).2.2.1 | exact (dS _).2.2.2.1 | exact (dS _).2.2.2.2) (fail)
  go_wp2_with fail
  refine bodyPost_ret (v := .tuple #[.agg #[.int .i64 ((k : Int) + 1), .int .i64 b1, .int .i64 b2, .int .i64 tg], .bool ((hd.toNat : Int) != 0)]) ?_ rfl ?_
  · simp [results, Tryz.f74, go_sem]
  · refine ⟨?_, (((Below.refl _ _).alloc (Nat.le_refl _) _).alloc (by simp) _).drew⟩
    obtain ⟨h1, h2, h3⟩ := HR.out
    rw [h1, h3, h2]
end Go.Proofs.YtcahgmnkphmnhaaGreat
/- The reference on images: copied, Wipe. -/
namespace Go.Proofs.YtcahgmnkphmnhaaGreat
open Go.RowKit

set_option maxRecDepth 100000 in
theorem refCopied_ok (p off n c : Nat) (l : Bytes) (w : World) (hn : l.length = n) (h1 : 1 ≤ n) (hl : n ≤ 140737488351232) (hr : Rd w (some ⟨p, off, none⟩) l) :
    Calls Tryz.prog 128 #[.slice (some ⟨p, off, none⟩) n c] w fun e w' => ∃ g cap, e = .returned (.slice (some ⟨g, 0, none⟩) n cap) ∧ w.heap.size ≤ g ∧ n ≤ cap ∧ Row w' 5 g cap l ∧ Below w.heap.size w w' := by
  obtain ⟨i0, hi0, hz0, hz1, hz2⟩ := info_parts byte_info
  go_enter Tryz.func128, Tryz.ntmps128
  go_wp2_with (at_builtin; refine wpList_append_own _ rfl (.tmp 4) (.tmp 5) _ rfl w.heap.size 5 i0 _ 1 1 Tryz.underlying22 hi0 hz0 hz1 hz2 rfl (by decide) (.slice none 0 0) 0 [] rfl (World.ownsRow_nil _ _ _ _) ⟨p, off, none⟩ n c (l.map bv) rfl (by simp; omega) hr.cells one_bv (by simp only [maxLen]; omega) (by omega) (Nat.le_refl _) ?_; intro v1 w1 hown1 hg1 hnn1)
  have hb1 : Below w.heap.size w w1 := (Below.refl _ _).grown hg1 (Nat.le_refl _) (fun k hk => by simp [Value.ownBlock] at hk)
  have hO : Own w1 w.heap.size 5 v1 l := by unfold Own; simpa [hn] using hown1
  have hne : v1 ≠ .slice none 0 0 := fun h => by
    subst h
    rcases hO.2 with ⟨_, h0⟩ | ⟨g, cap, cur, h, _⟩
    · omega
    · cases h
  obtain ⟨g, cap, hv, hbg, hrow⟩ := Row.of_own hO hne
  rw [hn] at hv
  subst hv
  have hcap := hrow.le.1
  clear hO hne hown1 hg1 hnn1
  go_ret
  exact ⟨g, cap, rfl, hbg, by omega, hrow, hb1⟩
set_option maxRecDepth 100000 in
theorem refWipe_ok (p off n c : Nat) (l : Bytes) (a m : Nat) (w : World) (hn : l.length = n) (h1 : 1 ≤ n) (hl : n ≤ 140737488351232) (hm : a + m ≤ n) (hr : Rd w (some ⟨p, off, none⟩) l) :
    Calls Tryz.prog 90 #[.slice (some ⟨p, off, none⟩) n c, .int .i64 (a : Int), .int .i64 (m : Int)] w fun e w' => ∃ g cap, e = .returned (.slice (some ⟨g, 0, none⟩) n cap) ∧ w.heap.size ≤ g ∧ n ≤ cap ∧ Row w' 5 g cap (splice l a (List.replicate m 0)) ∧ Below w.heap.size w w' := by
  go_enter Tryz.func90, Tryz.ntmps90
  go_wp2_with fail
  refine (refCopied_ok p off n c l _ hn h1 hl hr).mono ?_
  rintro e w1 ⟨g, cap, rfl, hg, hcap, hrow, hb1⟩
  have HZ : Hidden (∀ j, j < m → splice l a ((List.replicate m 0).take j) = splice l a ((List.replicate m 0).take j) ∧ (splice l a ((List.replicate m (0 : UInt8)).take j)).set (a + j) 0 = splice l a ((List.replicate m 0).take (j + 1))) := ⟨fun j hj => ⟨rfl, by
    have := splice_take_succ l (List.replicate m 0) a j (by simpa using hj) (by simp; omega)
    simpa using this⟩⟩
  have HL : Hidden (∀ j, j ≤ m → (splice l a ((List.replicate m 0).take j)).length = n) := ⟨fun j hj => by rw [splice_len _ _ _ (by simp; omega)]; exact hn⟩
  have HF : Hidden (splice l a ((List.replicate m 0).take m) = splice l a (List.replicate m 0)) := ⟨by rw [List.take_of_length_le (by simp)]⟩
  have hrow0 : Row w1 5 g cap (splice l a ((List.replicate m 0).take 0)) := by simpa [splice] using hrow
  generalize hS : (fun j => splice l a ((List.replicate m 0).take j)) = S at *
  have hSj : ∀ j, splice l a ((List.replicate m 0).take j) = S j := fun j => by rw [← hS]
  simp only [hSj] at HZ HL HF hrow0
  clear hS hSj hrow hr
  go_wp2_with fail
  go_loopg [8] m (fun q i wr => ∃ j : Nat, j ≤ m ∧ q = m - j ∧ i = .int .i64 (j : Int) ∧ Below w.heap.size w wr ∧ Row wr 5 g cap (S j))
  case atStart => exact ⟨0, by omega, rfl, rfl, hb1, hrow0⟩
  case round =>
    obtain ⟨j, hj, rfl, rfl, hbel, hrw⟩ := hrel
    by_cases hlt : j < m
    · have hsl := HL.out j hj
      have hcell := hrw.cell (a + j) (by omega)
      have hfr := hrw.frozen (a + j)
      have hst := hrw.store (a + j) (by omega) 0
      rw [(HZ.out j hlt).2] at hst
      have hbn := hbel.setCell (p := ⟨g, a + j, none⟩) hg (bv 0)
      have hbv : bv 0 = .int .u8 0 := rfl
      rw [hbv] at hst hbn
      have q1 : IntKind.i64.wrap ((a : Int) + j) = (a : Int) + j := IntWalk.i64_in _ (by omega)
      have k0 : (0 : Int) ≤ (a : Int) + j := by omega
      have k1 : (a : Int) + j < n := by omega
      have k2 : (j : Int) < m := by omega
      generalize (S j)[a + j] = u at hcell
      clear hbv hrw hsl
      go_wp2_with fail
      go_roundg (m - (j + 1))
      case measure => omega
      case rel => exact ⟨j + 1, by omega, rfl, by go_num, hbn, hst⟩
    · obtain rfl : j = m := by omega
      go_wp2_with fail
      go_ret
      exact ⟨g, cap, rfl, hg, hcap, HF.out ▸ hrw, hbel⟩
end Go.Proofs.YtcahgmnkphmnhaaGreat
/- The region of diff.Diff that appends a change: in whatever order. -/
namespace Go.Proofs.YtcahgmnkphmnhaaGreat
open Go.RowKit

theorem Row.grown {w w' : World} {e g cap : Nat} {l : Bytes} {r : Option Nat} (h : Row w e g cap l) (hg : w.grownBy w' r) (hr : r ≠ some g) : Row w' e g cap l := by
  obtain ⟨cur, h0, h1⟩ := h
  exact ⟨cur, (hg.block g (Array.getElem?_eq_some_iff.1 h0).1 (fun e => hr e.symm)).trans h0, h1⟩
theorem change_info : (Tryz.prog.info? 50).map (fun i => (i.zero, i.size, i.bytes)) = some (some (.agg #[.int .i64 0, .slice none 0 0, .slice none 0 0]), 3, 56) := by kernel_rfl

/-- the region with a number, in a body -/
def findReg (id : Nat) : Code → Option Code
  | .region i ops d => if i = id then some (.region i ops d) else none
  | .seq a b => match findReg id a with
    | some c => some c
    | none => findReg id b
  | .cond _ a b => match findReg id a with
    | some c => some c
    | none => findReg id b
  | .block _ c => findReg id c
  | .loop c => findReg id c
  | .scope c => findReg id c
  | _ => none
noncomputable def diffReg : Code := ((Tryz.f64.body.bind (findReg 12)).getD .skip)

set_option maxRecDepth 100000 in
set_option maxHeartbeats 1000000 in
theorem diff_region (Q : Exit → Act → World → Prop) (p off q off2 n c d i k : Nat) (v : Value) (m : Nat) (xs : List Value) (base : Nat) (a b : Bytes) (w : World) (u2 u3 u4 u5 u9 u10 u11 u12 u13 u14 u15 u16 u17 u18 u19 u20 u21 u22 u23 u24 u25 u26 u27 u28 u29 u30 u31 u32 u33 u34 u35 u36 u37 u38 u39 u40 u41 u42 u43 u44 u45 u46 u47 u48 u49 u50 u51 u52 u53 u54 u55 u56 u57 u58 u59 u60 u61 u62 u63 : Value)
    (han : a.length = n) (hbn : b.length = n) (ha : Rd w (some ⟨p, off, none⟩) a) (hb : Rd w (some ⟨q, off2, none⟩) b) (hik : i < k) (hkn : k ≤ n) (hn : n ≤ 6400) (hkc : k ≤ c) (hkd : k ≤ d) (hci : ¬ c = i) (hdi : ¬ d = i)
    (hown : w.ownsRow base 50 3 v m xs) (hbase : base ≤ w.heap.size) (hm : m ≤ 100000)
    (h : ∀ v' w' g1 c1 g2 c2 (x46 x47 x48 x49 x50 x51 x52 x53 x54 x55 x56 x57 x58 x59 x60 : Value), w'.ownsRow base 50 3 v' (m + 1) (xs ++ [.int .i64 i, .slice (some ⟨g1, 0, none⟩) (k - i) c1, .slice (some ⟨g2, 0, none⟩) (k - i) c2]) →
      w.heap.size ≤ g1 → w.heap.size ≤ g2 → Row w' 5 g1 c1 ((a.drop i).take (k - i)) → Row w' 5 g2 c2 ((b.drop i).take (k - i)) → w.grownBy w' v.ownBlock → Q .normal ⟨#[.slice (some ⟨p, off, none⟩) n c, .slice (some ⟨q, off2, none⟩) n d, u2, u3, u4, u5, v', .int .i64 i, .int .i64 k, u9, u10, u11, u12, u13, u14, u15, u16, u17, u18, u19, u20, u21, u22, u23, u24, u25, u26, u27, u28, u29, u30, u31, u32, u33, u34, u35, u36, u37, u38, u39, u40, u41, u42, u43, u44, u45, x46, x47, x48, x49, x50, x51, x52, x53, x54, x55, x56, x57, x58, x59, x60, u61, u62, u63], []⟩ w') :
    Code.wp Tryz.prog diffReg Q ⟨#[.slice (some ⟨p, off, none⟩) n c, .slice (some ⟨q, off2, none⟩) n d, u2, u3, u4, u5, v, .int .i64 i, .int .i64 k, u9, u10, u11, u12, u13, u14, u15, u16, u17, u18, u19, u20, u21, u22, u23, u24, u25, u26, u27, u28, u29, u30, u31, u32, u33, u34, u35, u36, u37, u38, u39, u40, u41, u42, u43, u44, u45, u46, u47, u48, u49, u50, u51, u52, u53, u54, u55, u56, u57, u58, u59, u60, u61, u62, u63], []⟩ w := by
  obtain ⟨i0, hi0, hz0, hz1, hz2⟩ := info_parts change_info
  have cA : ∀ W, Below w.heap.size w W → Calls Tryz.prog 46 #[.slice (some ⟨p, off + i, none⟩) (k - i) (c - i)] W fun e w' => ∃ g cap, e = .returned (.slice (some ⟨g, 0, none⟩) (k - i) cap) ∧ W.heap.size ≤ g ∧ Row w' 5 g cap ((a.drop i).take (k - i)) ∧ Below W.heap.size W w' := fun W hW =>
    clone_some _ (k - i) _ ((a.drop i).take (k - i)) W (by simp; omega) (by omega) (by have := (ha.below hW).cut i (k - i) (by omega); simpa [Addr.add_lit] using this)
  have cB : ∀ W, Below w.heap.size w W → Calls Tryz.prog 46 #[.slice (some ⟨q, off2 + i, none⟩) (k - i) (d - i)] W fun e w' => ∃ g cap, e = .returned (.slice (some ⟨g, 0, none⟩) (k - i) cap) ∧ W.heap.size ≤ g ∧ Row w' 5 g cap ((b.drop i).take (k - i)) ∧ Below W.heap.size W w' := fun W hW =>
    clone_some _ (k - i) _ ((b.drop i).take (k - i)) W (by simp; omega) (by omega) (by have := (hb.below hW).cut i (k - i) (by omega); simpa [Addr.add_lit] using this)
  have HA := Hidden.mk cA
  have HB := Hidden.mk cB
  have hik' : i ≤ k := by omega
  clear cA cB ha hb han hbn
  conv => arg 2; whnf
  go_region_held3 (fun _ => True) (first | trivial)
    (first
      | (go_at_call 46; refine (HA.out _ (by exact (Below.refl _ _).drew)).mono ?_; rintro e w1 ⟨g1, cap1, rfl, hg1, hrow1, hb1⟩)
      | (go_at_call 46; refine (HB.out w1 (by exact ((Below.refl _ _).drew).trans hb1)).mono ?_; rintro e w2 ⟨g2, cap2, rfl, hg2, hrow2, hb2⟩; have hB2 : Below w.heap.size w w2 := (((Below.refl _ _).drew).trans hb1).trans (hb2.mono hb1.size))
      | (refine step_append_lies _ (by rfl) _ _ _ (by rfl) base 50 i0 _ 3 56 Tryz.underlying46 hi0 hz0 hz1 hz2 rfl (by omega) v m xs (by rfl) (own_below hown (hB2.alloc hB2.size _))
          ⟨w2.heap.size, 0, none⟩ 1 1 [.int .i64 i, .slice (some ⟨g1, 0, none⟩) (k - i) cap1, .slice (some ⟨g2, 0, none⟩) (k - i) cap2] (by rfl) (by rfl) (World.news_of_block (cs := #[.int .i64 i, .slice (some ⟨g1, 0, none⟩) (k - i) cap1, .slice (some ⟨g2, 0, none⟩) (k - i) cap2]) (t := 50) (fr := (0, 0)) (heap_alloc_new w2 _)) (by simp [Value.oneCell'])
          (by omega) (by simp only [maxLen]; omega) (by omega) (by simp; have := hB2.size; omega) (w2.heap.size + 1) (by simp) ?_; intro gg cap w3 hown3 hgrow hat hlt))
  have hal : Below w2.heap.size w2 (w2.alloc (.cells #[.int .i64 i, .slice (some ⟨g1, 0, none⟩) (k - i) cap1, .slice (some ⟨g2, 0, none⟩) (k - i) cap2] 50)) := (Below.refl _ _).alloc (Nat.le_refl _) _
  have hg1' : w.heap.size ≤ g1 := hg1
  have hg2' : w.heap.size ≤ g2 := Nat.le_trans hb1.size hg2
  have hne1 : v.ownBlock ≠ some g1 := fun e => by have := (hown.lt _ e).2; omega
  have hne2 : v.ownBlock ≠ some g2 := fun e => by have := (hown.lt _ e).2; omega
  refine h _ _ g1 cap1 g2 cap2 _ _ _ _ _ _ _ _ _ _ _ _ _ _ _ hown3 hg1' hg2' (((hrow1.below hb2 hrow1.lt).below hal (Nat.lt_of_lt_of_le hrow1.lt hb2.size)).grown hgrow hne1) ((hrow2.below hal hrow2.lt).grown hgrow hne2) (grown_trans' (hB2.trans (hal.mono hB2.size)) hgrow)
end Go.Proofs.YtcahgmnkphmnhaaGreat
/- The contract of diff.Diff. -/
namespace Go.Proofs.YtcahgmnkphmnhaaGreat
open Go.RowKit

/-- one change, as it lies in a row of the call's own -/
def ChAt (w : World) (base : Nat) (xs : List Value) (i : Nat) (c : Chg) : Prop :=
  ∃ go co gn cn, base ≤ go ∧ base ≤ gn ∧ xs[3 * i]? = some (.int .i64 c.at_) ∧ xs[3 * i + 1]? = some (.slice (some ⟨go, 0, none⟩) c.old.length co) ∧ xs[3 * i + 2]? = some (.slice (some ⟨gn, 0, none⟩) c.new.length cn) ∧
    Row w 5 go co c.old ∧ Row w 5 gn cn c.new
/-- the slice v is the call's own, and has the changes L -/
def OwnC (w : World) (base : Nat) (v : Value) (L : List Chg) : Prop :=
  ∃ xs, w.ownsRow base 50 3 v L.length xs ∧ ∀ i (h : i < L.length), ChAt w base xs i L[i]

theorem own_row_ne {w : World} {base : Nat} {e e' : TypeId} {size : Nat} {v : Value} {n : Nat} {xs : List Value} {g cap : Nat} {l : Bytes} (h : w.ownsRow base e size v n xs) (hr : Row w e' g cap l) (hne : e ≠ e') : v.ownBlock ≠ some g := by
  rcases h.2 with ⟨rfl, _⟩ | ⟨g', cap', cur, rfl, _, hh, _⟩
  · simp [Value.ownBlock]
  · intro he
    have : g' = g := by simpa [Value.ownBlock] using he
    subst this
    obtain ⟨cur', h0, _⟩ := hr
    rw [hh] at h0
    injection h0 with h0
    injection h0 with _ ht
    exact hne ht
theorem OwnC.snoc {w w' : World} {base : Nat} {v v' : Value} {L : List Chg} {xs : List Value} {at_ : Int} {g1 c1 g2 c2 n m : Nat} {old new : Bytes} (h : w.ownsRow base 50 3 v L.length xs) (hat : ∀ i (h : i < L.length), ChAt w base xs i L[i])
    (h' : w'.ownsRow base 50 3 v' (L.length + 1) (xs ++ [.int .i64 at_, .slice (some ⟨g1, 0, none⟩) n c1, .slice (some ⟨g2, 0, none⟩) m c2])) (hg : w.grownBy w' v.ownBlock)
    (hr1 : Row w' 5 g1 c1 old) (hr2 : Row w' 5 g2 c2 new) (ho : old.length = n) (hn : new.length = m) (hb1 : base ≤ g1) (hb2 : base ≤ g2) : OwnC w' base v' (L ++ [⟨at_, old, new⟩]) := by
  subst ho hn
  have hlen : xs.length = L.length * 3 := h.1
  refine ⟨_, by simpa using h', fun i hi => ?_⟩
  rw [List.length_append, List.length_singleton] at hi
  by_cases hlt : i < L.length
  · obtain ⟨go, co, gn, cn, h1, h2, e0, e1, e2, r1, r2⟩ := hat i hlt
    rw [List.getElem_append_left hlt]
    refine ⟨go, co, gn, cn, h1, h2, ?_, ?_, ?_, r1.grown hg (own_row_ne h r1 (by decide)), r2.grown hg (own_row_ne h r2 (by decide))⟩
    · rw [List.getElem?_append_left (by omega)]; exact e0
    · rw [List.getElem?_append_left (by omega)]; exact e1
    · rw [List.getElem?_append_left (by omega)]; exact e2
  · obtain rfl : i = L.length := by omega
    rw [List.getElem_append_right (Nat.le_refl _)]
    refine ⟨g1, c1, g2, c2, hb1, hb2, ?_, ?_, ?_, by simpa using hr1, by simpa using hr2⟩
    · rw [List.getElem?_append_right (by omega), show 3 * L.length - xs.length = 0 from by omega]; simp
    · rw [List.getElem?_append_right (by omega), show 3 * L.length + 1 - xs.length = 1 from by omega]; simp
    · rw [List.getElem?_append_right (by omega), show 3 * L.length + 2 - xs.length = 2 from by omega]; simp

theorem diff_e3 (A B : Option Addr) (n m c d : Nat) (w : World) (h : n ≠ m) :
    Calls Tryz.prog 64 #[.slice A n c, .slice B m d] w fun e w' => e = .returned (.tuple #[.slice none 0 0, .iface 88 (.int .i64 3)]) ∧ w = w' := by
  have h' : ((n : Int) != (m : Int)) = true := by simp; omega
  clear h
  go_enter Tryz.func64, Tryz.ntmps64
  go_wp2
  go_ret2
  exact ⟨rfl, rfl⟩
theorem diff_e4 (A B : Option Addr) (n c d : Nat) (w : World) (h : 6400 < n) :
    Calls Tryz.prog 64 #[.slice A n c, .slice B n d] w fun e w' => e = .returned (.tuple #[.slice none 0 0, .iface 88 (.int .i64 4)]) ∧ w = w' := by
  go_enter Tryz.func64, Tryz.ntmps64
  go_wp2
  go_ret2
  exact ⟨rfl, rfl⟩

set_option maxRecDepth 100000 in
theorem diff_ok (A B : Option Addr) (n c d : Nat) (a b : Bytes) (w : World) (hn : a.length = n) (hm : b.length = n) (hle : n ≤ 6400) (hc : n ≤ c) (hd : n ≤ d) (ha : Rd w A a) (hb : Rd w B b) :
    Calls Tryz.prog 64 #[.slice A n c, .slice B n d] w fun e w' => ∃ v, e = .returned (.tuple #[v, .nilIface]) ∧ OwnC w' w.heap.size v (diffL a b) ∧ Below w.heap.size w w' := by
  subst hn
  obtain ⟨i0, hi0, hz0, hz1, hz2⟩ := info_parts change_info
  go_enter Tryz.func64, Tryz.ntmps64
  go_wp2_with fail
  go_loopw [6, 7] (fun v i wr => ∃ (k : Nat) (L : List Chg), k ≤ a.length + 1 ∧ i = .int .i64 k ∧ Below w.heap.size w wr ∧ OwnC wr w.heap.size v L ∧ L.length ≤ k ∧ Hidden (L ++ diffF a b (a.length - k) k = diffL a b)) (fun _ i _ => a.length + 1 - (intOf i).toNat)
  case atStart => exact ⟨0, [], by omega, rfl, Below.refl _ _, ⟨[], World.ownsRow_nil _ _ _ _, by simp⟩, by simp, ⟨by simp [diffL]⟩⟩
  case round =>
    obtain ⟨i, L, hi, rfl, hbel, hown, hLi, HL⟩ := hrel
    by_cases hlt : i < a.length
    · have hrl := runAt_le a b i hm.symm (by omega)
      have hstep := diffF_step a b i hlt
      obtain ⟨wo, rfl⟩ : ∃ wo : World, wo = wr := ⟨_, rfl⟩
      have ha1 := ha.below hbel
      have hb1 := hb.below hbel
      obtain ⟨p, off, rfl, _⟩ := ha1 i hlt
      obtain ⟨q, off2, rfl, _⟩ := hb1 i (by omega)
      have HS := Hidden.mk hstep
      have HI := Hidden.mk hi
      clear hstep
      go_wp2_with fail
      go_loopw [8] (fun kk w2 => (∃ nq, w2 = wo.drewN nq) ∧ ∃ k : Nat, i ≤ k ∧ k ≤ a.length ∧ kk = .int .i64 k ∧ Hidden (∀ j, i ≤ j → j < k → a[j]? ≠ b[j]?)) (fun kk _ => a.length - (intOf kk).toNat)
      case atStart => exact ⟨⟨0, rfl⟩, i, by omega, by omega, rfl, ⟨fun j h1 h2 => by omega⟩⟩
      case round =>
        obtain ⟨⟨nq, rfl⟩, k, hik, hk, rfl, hne⟩ := hrel
        by_cases hk2 : k < a.length
        · have hcp := ha1.at_ k hk2
          have hcq := hb1.at_ k (by omega)
          by_cases he : a[k] = b[k]
          · have hbq : ((a[k].toNat : Int) != (b[k].toNat : Int)) = false := by simp [he]
            have HR : Hidden (runAt a b i = k - i) := ⟨runAt_at a b i k hm.symm hik hk hne.out (.inr (by rw [List.getElem?_eq_getElem hk2, List.getElem?_eq_getElem (by omega), he]))⟩
            clear hne
            go_wp2_with fail
            go_quiet (fail)
            by_cases hki : i < k
            · obtain ⟨xs, hxs, hat⟩ := hown
              go_wp2_with fail
              refine diff_region _ p off q off2 a.length c d i k u6 L.length xs w.heap.size a b _ _ _ _ _ _ _ _ _ _ _ _ _ _ _ _ _ _ _ _ _ _ _ _ _ _ _ _ _ _ _ _ _ _ _ _ _ _ _ _ _ _ _ _ _ _ _ _ _ _ _ _ _ _ _ _ _ _ _ _ rfl hm ha1 hb1 hki hk hle (by omega) (by omega) (by omega) (by omega) hxs hbel.size (by omega) ?_
              intro v' w3 g1 c1 g2 c2 x46 x47 x48 x49 x50 x51 x52 x53 x54 x55 x56 x57 x58 x59 x60 hown3 hg1 hg2 hrow1 hrow2 hgrow
              have hrun := HR.out
              have hst := HS.out
              rw [hrun, if_pos (by omega), show i + (k - i) + 1 = k + 1 from by omega] at hst
              have HL2 : Hidden ((L ++ [⟨i, (a.drop i).take (k - i), (b.drop i).take (k - i)⟩]) ++ diffF a b (a.length - (k + 1)) (k + 1) = diffL a b) := ⟨by rw [List.append_assoc, ← hst]; exact HL.out⟩
              have hOC : OwnC w3 w.heap.size v' (L ++ [⟨i, (a.drop i).take (k - i), (b.drop i).take (k - i)⟩]) := OwnC.snoc (w := wo.drewN _) hxs hat hown3 hgrow hrow1 hrow2 (by simp; omega) (by simp; omega) (Nat.le_trans hbel.size hg1) (Nat.le_trans hbel.size hg2)
              have hB3 : Below w.heap.size w w3 := hbel.trans ((below_drewN (Below.refl _ _) _).grown hgrow hbel.size (fun q hq => (hxs.lt q hq).1))
              clear hrun hst HR HS HL hgrow hown3
              go_wp2_with fail
              go_roundw
              case rel => exact ⟨k + 1, _, by omega, by go_num, hB3, hOC, by simp; omega, HL2⟩
              case measure => simp [intOf]; omega
            · obtain rfl : k = i := by omega
              have hrun : runAt a b k = 0 := by have := HR.out; omega
              have hst := HS.out
              rw [hrun, if_neg (by omega), show k + 0 + 1 = k + 1 from by omega, List.nil_append] at hst
              have HL2 : Hidden (L ++ diffF a b (a.length - (k + 1)) (k + 1) = diffL a b) := ⟨by rw [← hst]; exact HL.out⟩
              have hOC : ∀ N, OwnC (wo.drewN N) w.heap.size u6 L := fun _ => hown
              clear hrun hst HR HS HL
              go_wp2_with fail
              go_roundw
              case rel => exact ⟨k + 1, L, by omega, by go_num, below_drewN hbel _, hOC _, by omega, HL2⟩
              case measure => simp [intOf]; omega
          · have hbq : ((a[k].toNat : Int) != (b[k].toNat : Int)) = true := by
              simp only [bne_iff_ne, ne_eq]; intro h; apply he; rw [← UInt8.toNat_inj]; omega
            have hnk : Hidden (∀ j, i ≤ j → j < k + 1 → a[j]? ≠ b[j]?) := ⟨fun j h1 h2 => by
              rcases Nat.lt_or_ge j k with h | h
              · exact hne.out j h1 h
              · obtain rfl : j = k := by omega
                rw [List.getElem?_eq_getElem hk2, List.getElem?_eq_getElem (by omega)]
                simpa using he⟩
            clear he hne
            go_wp2_with fail
            go_quiet (fail)
            go_wp2_with fail
            go_roundw
            case rel => exact ⟨⟨_, rfl⟩, k + 1, by omega, by omega, by go_num, hnk⟩
            case measure => simp [intOf]; omega
        · have hk2' : decide ((k : Int) < a.length) = false := by simp; omega
          have HR : Hidden (runAt a b i = k - i) := ⟨runAt_at a b i k hm.symm hik hk hne.out (.inl (by omega))⟩
          clear hne
          go_wp2_with fail
          go_quiet (fail)
          by_cases hki : i < k
          · obtain ⟨xs, hxs, hat⟩ := hown
            go_wp2_with fail
            refine diff_region _ p off q off2 a.length c d i k u6 L.length xs w.heap.size a b _ _ _ _ _ _ _ _ _ _ _ _ _ _ _ _ _ _ _ _ _ _ _ _ _ _ _ _ _ _ _ _ _ _ _ _ _ _ _ _ _ _ _ _ _ _ _ _ _ _ _ _ _ _ _ _ _ _ _ _ rfl hm ha1 hb1 hki hk hle (by omega) (by omega) (by omega) (by omega) hxs hbel.size (by omega) ?_
            intro v' w3 g1 c1 g2 c2 x46 x47 x48 x49 x50 x51 x52 x53 x54 x55 x56 x57 x58 x59 x60 hown3 hg1 hg2 hrow1 hrow2 hgrow
            have hrun := HR.out
            have hst := HS.out
            rw [hrun, if_pos (by omega), show i + (k - i) + 1 = k + 1 from by omega] at hst
            have HL2 : Hidden ((L ++ [⟨i, (a.drop i).take (k - i), (b.drop i).take (k - i)⟩]) ++ diffF a b (a.length - (k + 1)) (k + 1) = diffL a b) := ⟨by rw [List.append_assoc, ← hst]; exact HL.out⟩
            have hOC : OwnC w3 w.heap.size v' (L ++ [⟨i, (a.drop i).take (k - i), (b.drop i).take (k - i)⟩]) := OwnC.snoc (w := wo.drewN _) hxs hat hown3 hgrow hrow1 hrow2 (by simp; omega) (by simp; omega) (Nat.le_trans hbel.size hg1) (Nat.le_trans hbel.size hg2)
            have hB3 : Below w.heap.size w w3 := hbel.trans ((below_drewN (Below.refl _ _) _).grown hgrow hbel.size (fun q hq => (hxs.lt q hq).1))
            clear hrun hst HR HS HL hgrow hown3
            go_wp2_with fail
            go_roundw
            case rel => exact ⟨k + 1, _, by omega, by go_num, hB3, hOC, by simp; omega, HL2⟩
            case measure => simp [intOf]; omega
          · obtain rfl : k = i := by omega
            have hrun : runAt a b k = 0 := by have := HR.out; omega
            have hst := HS.out
            rw [hrun, if_neg (by omega), show k + 0 + 1 = k + 1 from by omega, List.nil_append] at hst
            have HL2 : Hidden (L ++ diffF a b (a.length - (k + 1)) (k + 1) = diffL a b) := ⟨by rw [← hst]; exact HL.out⟩
            have hOC : ∀ N, OwnC (wo.drewN N) w.heap.size u6 L := fun _ => hown
            clear hrun hst HR HS HL
            go_wp2_with fail
            go_roundw
            case rel => exact ⟨k + 1, L, by omega, by go_num, below_drewN hbel _, hOC _, by omega, HL2⟩
            case measure => simp [intOf]; omega
    · go_wp2_with fail
      go_ret2
      have hfin : Hidden (L = diffL a b) := ⟨by
        have := HL.out
        rw [show a.length - i = 0 from by omega] at this
        simpa [diffF] using this⟩
      exact ⟨_, rfl, by rw [← hfin.out]; exact hown, hbel⟩
end Go.Proofs.YtcahgmnkphmnhaaGreat
/- Reading what diff.Diff gave. -/
namespace Go.Proofs.YtcahgmnkphmnhaaGreat
open Go.RowKit

/-- the cells of one change of a slice that lies at A -/
structure ChCells (w : World) (g off i : Nat) (c : Chg) (go co gn cn : Nat) : Prop where
  at_ : w.cell? ⟨g, off + i * 3, none⟩ = some (.int .i64 c.at_)
  old : w.cell? ⟨g, off + i * 3 + 1, none⟩ = some (.slice (some ⟨go, 0, none⟩) c.old.length co)
  new : w.cell? ⟨g, off + i * 3 + 2, none⟩ = some (.slice (some ⟨gn, 0, none⟩) c.new.length cn)
  rowO : Row w 5 go co c.old
  rowN : Row w 5 gn cn c.new
/-- the slice at A has the changes L -/
def RdC (w : World) (A : Option Addr) (L : List Chg) : Prop := ∀ i (h : i < L.length), ∃ g off go co gn cn, A = some ⟨g, off, none⟩ ∧ ChCells w g off i L[i] go co gn cn
theorem OwnC.rd {w : World} {base : Nat} {v : Value} {L : List Chg} (h : OwnC w base v L) : ∃ A c, v = .slice A L.length c ∧ L.length ≤ c ∧ c ≤ maxLen ∧ RdC w A L := by
  obtain ⟨xs, hown, hat⟩ := h
  rcases hown.2 with ⟨rfl, h0⟩ | ⟨g, cap, cur, rfl, _, hh, hc, hm, hz, ht⟩
  · rw [h0]
    exact ⟨none, 0, rfl, by omega, by simp, fun i hi => by omega⟩
  · refine ⟨_, cap, rfl, hc, hm, fun i hi => ?_⟩
    obtain ⟨go, co, gn, cn, _, _, e0, e1, e2, r1, r2⟩ := hat i hi
    have hcell : ∀ j u, xs[j]? = some u → w.cell? ⟨g, 0 + j, none⟩ = some u := fun j u hu => by
      have := hown.cells (g := g) rfl j u hu
      rw [Addr.add_lit] at this
      exact this
    rw [Nat.mul_comm 3 i] at e0 e1 e2
    exact ⟨g, 0, go, co, gn, cn, rfl, hcell _ _ e0, (Nat.add_assoc 0 (i * 3) 1) ▸ hcell _ _ e1, (Nat.add_assoc 0 (i * 3) 2) ▸ hcell _ _ e2, r1, r2⟩
theorem ChCells.below {w w' : World} {g off i : Nat} {c : Chg} {go co gn cn : Nat} (h : ChCells w g off i c go co gn cn) (hb : Below w.heap.size w w') : ChCells w' g off i c go co gn cn :=
  ⟨(hb.cell (block_lt_of_cell h.at_)).trans h.at_, (hb.cell (block_lt_of_cell h.old)).trans h.old, (hb.cell (block_lt_of_cell h.new)).trans h.new, h.rowO.below hb h.rowO.lt, h.rowN.below hb h.rowN.lt⟩
theorem RdC.below {w w' : World} {A : Option Addr} {L : List Chg} (h : RdC w A L) (hb : Below w.heap.size w w') : RdC w' A L := fun i hi => by
  obtain ⟨g, off, go, co, gn, cn, hA, hc⟩ := h i hi
  exact ⟨g, off, go, co, gn, cn, hA, hc.below hb⟩
end Go.Proofs.YtcahgmnkphmnhaaGreat
/- PutRoot at any arguments, and what the difference to the empty image is. -/
namespace Go.Proofs.YtcahgmnkphmnhaaGreat
open Go.RowKit

/-- the eleven bytes that stand for a root -/
structure RootX (s X : Bytes) : Prop where
  len : X.length = 11
  zero : s = [] → X = List.replicate 11 0
  some_ : s ≠ [] → X[0]? ≠ some 0
theorem rootX_ok (s : Bytes) (h : Int) (hnm : isName s = true) : RootX s (rootB s h) := by
  cases s with
  | nil => simp [isName] at hnm
  | cons x xs =>
    simp only [isName, Bool.and_eq_true, List.any_cons, Bool.not_eq_true', Bool.or_eq_false_iff, decide_eq_true_eq] at hnm
    obtain ⟨⟨_, h8⟩, hx, _⟩ := hnm
    refine ⟨?_, by simp, fun _ => ?_⟩
    · simp only [rootB, nameB, List.length_append, List.length_replicate, List.length_cons, List.length_nil] at h8 ⊢
      omega
    · simp only [rootB, nameB, List.cons_append, List.getElem?_cons_zero, ne_eq, Option.some.injEq]
      rintro rfl
      simp [notLower] at hx
theorem root_all (A : Option Addr) (n c : Nat) (l : Bytes) (i : Int) (s : Bytes) (h : Int) (w : World) (hs : s.length ≤ 140737488351232) (hn : l.length = n) (hnc : n ≤ c) (hrd : Rd w A l) (hr : rightB n = true) :
    Calls Tryz.prog 100 #[.slice A n c, .int .i64 i, rootV s h] w fun e w' => (∃ x, e = .returned (.tuple #[.slice none 0 0, .iface 88 (.int .i64 x)]) ∧ Below w.heap.size w w') ∨
      (∃ g cap X, 0 ≤ i ∧ i < 8 ∧ RootX s X ∧ e = .returned (.tuple #[.slice (some ⟨g, 0, none⟩) n cap, .nilIface]) ∧ w.heap.size ≤ g ∧ Row w' 5 g cap (splice l (rootO i) X) ∧ Below w.heap.size w w') := by
  by_cases hi : i < 0 ∨ 8 ≤ i
  · exact (root_e1 A n c i s h w hr hi).mono fun e w' he => .inl ⟨1, he⟩
  have hi1 : 0 ≤ i := by omega
  have hi2 : i < 8 := by omega
  by_cases h0 : s = [] ∧ h = 0
  · obtain ⟨rfl, rfl⟩ := h0
    refine (root_zero A n c l i w hn hnc hrd hr hi1 hi2).mono ?_
    rintro e w' ⟨g, cap, he, hg, hrow, hb⟩
    exact .inr ⟨g, cap, _, hi1, hi2, ⟨by simp, fun _ => rfl, fun hh => absurd rfl hh⟩, he, hg, hrow, hb⟩
  cases hh : handleB h with
  | false => exact (root_e1h A n c i s h w hr hi1 hi2 h0 hh).mono fun e w' he => .inl ⟨1, he⟩
  | true =>
    cases hnm : isName s with
    | false => exact (root_e2 A n c i s h w hs hr hi1 hi2 hh hnm).mono fun e w' he => .inl ⟨2, he⟩
    | true =>
      refine (root_ok A n c l i s h w hn hrd hr hi1 hi2 hh hnm).mono ?_
      rintro e w' ⟨g, cap, he, hg, hrow, hb⟩
      exact .inr ⟨g, cap, _, hi1, hi2, rootX_ok s h hnm, he, hg, hrow, hb⟩
/-- the difference is empty exactly where the root is -/
theorem rootX_diff (m o : Nat) (s X : Bytes) (hX : RootX s X) (hfit : o + 11 ≤ m) : decide (0 < (diffL (List.replicate m 0) (splice (List.replicate m 0) o X)).length) = !decide (s = []) := by
  have hzl : (List.replicate m (0 : UInt8)).length = m := by simp
  have hf : o + X.length ≤ (List.replicate m (0 : UInt8)).length := by rw [hX.len, hzl]; exact hfit
  by_cases hs : s = []
  · have he : splice (List.replicate m (0 : UInt8)) o X = List.replicate m 0 := by
      rw [hX.zero hs]
      simp only [splice, List.take_replicate, List.drop_replicate, List.length_replicate, List.replicate_append_replicate]
      congr 1
      omega
    rw [he, diffL_self]
    simp [hs]
  · have hpos : 0 < (diffL (List.replicate m 0) (splice (List.replicate m 0) o X)).length := by
      rcases Nat.eq_zero_or_pos (diffL (List.replicate m 0) (splice (List.replicate m 0) o X)).length with h0 | h0
      · exfalso
        have hlen : (splice (List.replicate m (0 : UInt8)) o X).length = m := by rw [splice_len _ _ _ hf, hzl]
        have := diffL_eq_nil _ _ (hzl.trans hlen.symm) (List.eq_nil_of_length_eq_zero h0)
        have h1 := splice_get (List.replicate m (0 : UInt8)) X o 0 hf (by rw [hX.len]; omega)
        rw [← this, Nat.add_zero, List.getElem?_replicate, if_pos (by omega)] at h1
        exact hX.some_ hs h1.symm
      · exact h0
    simp [hs, hpos]
end Go.Proofs.YtcahgmnkphmnhaaGreat
/- The reference on images: Entries, Roots. -/
namespace Go.Proofs.YtcahgmnkphmnhaaGreat
open Go.RowKit

end Go.Proofs.YtcahgmnkphmnhaaGreat
/- The reference on images: PutEntry. -/
namespace Go.Proofs.YtcahgmnkphmnhaaGreat
open Go.RowKit

theorem refPut_fit (A : Option Addr) (n c : Nat) (l : Bytes) (a x s : Nat) (w : World) (hn : l.length = n) (hl : n ≤ 140737488351232) (hr : Rd w A l) (h1 : 1 ≤ s) (h4 : s ≤ 4) (hx : (x : Int) ≤ mostN (s : Int)) (ha : a + s ≤ n) :
    Calls Tryz.prog 156 #[.slice A n c, .int .i64 (a : Int), .int .i64 (x : Int), .int .i64 (s : Int)] w fun e w' => ∃ A' c', e = .returned (.tuple #[.slice A' n c', .int .i64 0]) ∧ Rd w' A' (splice l a (numB x s)) ∧ Below w.heap.size w w' := by
  have hE : putE n (a : Int) (x : Int) (s : Int) = 0 := by
    unfold putE; rw [if_pos ⟨by omega, by omega, by omega, hx⟩, if_neg (by omega)]
  have hF : putF l (a : Int) (x : Int) (s : Int) = splice l a (numB x s) := by
    unfold putF; rw [hn, if_pos hE]; rfl
  have hL : (splice l a (numB x s)).length = n := by rw [splice_len _ _ _ (by rw [numB_length]; omega)]; exact hn
  refine (refPut_any A n c l a x s w hn hl hr).mono ?_
  rintro e w' ⟨A', c', rfl, hrd, hb⟩
  rw [hF, hE, hL]
  rw [hF] at hrd
  exact ⟨A', c', rfl, hrd, hb⟩
theorem entV_cells (h a b t : Int) : (entV h a b t) = .agg #[.int .i64 h, .int .i64 a, .int .i64 b, .int .i64 t] := rfl
/-- the fault of an entry that is put -/
def entE (n : Nat) (h a len tag : Int) : Nat := if handleB h = false ∨ tagB tag = false ∨ lenB len = false then 1 else if withinB n a len = false then 3 else 0
def entF (l : Bytes) (h a len tag : Int) : Bytes := if entE l.length h a len tag = 0 then putEnt l h a len tag else []
theorem refPutEntry_e1 (A : Option Addr) (n c : Nat) (h a len tag : Int) (w : World) (hbad : handleB h = false ∨ tagB tag = false ∨ lenB len = false) :
    Calls Tryz.prog 123 #[.slice A n c, entV h a len tag] w fun e w' => e = .returned (.tuple #[.slice none 0 0, .int .i64 1]) ∧ Below w.heap.size w w' := by
  have hB : Below w.heap.size w (w.alloc (.cells #[.int .i64 h, .int .i64 a, .int .i64 len, .int .i64 tag] 97)) := (Below.refl _ _).alloc (Nat.le_refl _) _
  unfold entV
  go_enter Tryz.func123, Tryz.ntmps123
  go_wp2_with fail
  refine (ref_handle_any h _).mono ?_
  rintro e w1 ⟨rfl, rfl⟩
  cases hh : handleB h with
  | false =>
    clear hbad hh
    go_wp2_with fail
    go_ret2
    exact ⟨rfl, hB⟩
  | true =>
    rw [hh] at hbad
    have hb2 : tag < 0 ∨ 15 < tag ∨ len < 1 ∨ 1000 < len := by
      rcases hbad with h1 | h1 | h1
      · cases h1
      · have := tagB_false.1 h1; omega
      · have := lenB_false.1 h1; omega
    clear hbad hh
    by_cases t1 : tag < 0
    · clear hb2
      go_wp2_with fail
      go_ret2
      exact ⟨rfl, hB⟩
    · by_cases t2 : 15 < tag
      · clear hb2
        go_wp2_with fail
        go_ret2
        exact ⟨rfl, hB⟩
      · by_cases t3 : len < 1
        · clear hb2
          go_wp2_with fail
          go_ret2
          exact ⟨rfl, hB⟩
        · have t4 : 1000 < len := by omega
          clear hb2
          go_wp2_with fail
          go_ret2
          exact ⟨rfl, hB⟩
theorem refPutEntry_e3 (A : Option Addr) (n c : Nat) (h a len tag : Int) (w : World) (hn : n ≤ 6400) (hh : handleB h = true) (ht : tagB tag = true) (hl : lenB len = true) (hw : withinB n a len = false) :
    Calls Tryz.prog 123 #[.slice A n c, entV h a len tag] w fun e w' => e = .returned (.tuple #[.slice none 0 0, .int .i64 3]) ∧ Below w.heap.size w w' := by
  have hB : Below w.heap.size w (w.alloc (.cells #[.int .i64 h, .int .i64 a, .int .i64 len, .int .i64 tag] 97)) := (Below.refl _ _).alloc (Nat.le_refl _) _
  have htb := tagB_true.1 ht
  have hlb := lenB_true.1 hl
  have hbad : a < 288 ∨ (n : Int) < len ∨ (n : Int) - len < a := by
    simp only [withinB, Bool.and_eq_false_iff, decide_eq_false_iff_not] at hw; omega
  have t1 : decide (tag < 0) = false := by simp; omega
  have t2 : decide (15 < tag) = false := by simp; omega
  have t3 : decide (len < 1) = false := by simp; omega
  have t4 : decide (1000 < len) = false := by simp; omega
  unfold entV
  go_enter Tryz.func123, Tryz.ntmps123
  go_wp2_with fail
  refine (ref_handle_any h _).mono ?_
  rintro e w1 ⟨rfl, rfl⟩
  rw [hh]
  clear hw ht hl hh
  by_cases q1 : a < 288
  · clear hbad htb hlb
    go_wp2_with fail
    go_ret2
    exact ⟨rfl, hB⟩
  · by_cases q2 : (n : Int) < a
    · clear hbad htb hlb
      go_wp2_with fail
      go_ret2
      exact ⟨rfl, hB⟩
    · have s1 : IntKind.i64.wrap ((n : Int) - a) = (n : Int) - a := IntWalk.i64_in _ (by omega)
      have q3 : (n : Int) - a < len := by omega
      clear hbad htb hlb
      go_wp2_with fail
      go_ret2
      exact ⟨rfl, hB⟩
def PutAt (n : Nat) (o : Nat) (x s : Int) (l l' : Bytes) : Prop := ∀ (A : Option Addr) (c : Nat) (W : World), Rd W A l → Calls Tryz.prog 156 #[.slice A n c, .int .i64 (o : Int), .int .i64 x, .int .i64 s] W fun e w' => ∃ A' c', e = .returned (.tuple #[.slice A' n c', .int .i64 0]) ∧ Rd w' A' l' ∧ Below W.heap.size W w'
theorem putAt (n o x s : Nat) (l : Bytes) (hn : l.length = n) (hl : n ≤ 140737488351232) (h1 : 1 ≤ s) (h4 : s ≤ 4) (hx : (x : Int) ≤ mostN (s : Int)) (ha : o + s ≤ n) : PutAt n o (x : Int) (s : Int) l (splice l o (numB x s)) :=
  fun A c W hW => refPut_fit A n c l o x s W hn hl hW h1 h4 hx ha
set_option maxRecDepth 100000 in
theorem refPutEntry_walk (A : Option Addr) (n c k o o1 o3 t tt b m : Nat) (l l1 l2 l3 : Bytes) (w : World) (hrd : Rd w A l) (hh : handleB ((k : Int) + 1) = true)
    (s0 : IntKind.i64.wrap (k : Int) = (k : Int)) (s1 : IntKind.i64.wrap (5 * (k : Int)) = (o : Int)) (s2 : IntKind.i64.wrap ((t : Int) + 1) = (tt : Int))
    (s3 : IntKind.i64.wrap ((o : Int) + 1) = (o1 : Int)) (s4 : IntKind.i64.wrap ((o : Int) + 3) = (o3 : Int)) (ht : t ≤ 15) (hm1 : 1 ≤ m) (hm : m ≤ 1000) (hb : 288 ≤ b) (hbn : b + m ≤ n) (hn : n ≤ 6400)
    (c1 : PutAt n o tt 1 l l1) (c2 : PutAt n o1 b 2 l1 l2) (c3 : PutAt n o3 m 2 l2 l3) :
    Calls Tryz.prog 123 #[.slice A n c, entV ((k : Int) + 1) b m t] w fun e w' => ∃ A' c', e = .returned (.tuple #[.slice A' n c', .int .i64 0]) ∧ Rd w' A' l3 ∧ Below w.heap.size w w' := by
  have hB : Below w.heap.size w (w.alloc (.cells #[.int .i64 ((k : Int) + 1), .int .i64 b, .int .i64 m, .int .i64 t] 97)) := (Below.refl _ _).alloc (Nat.le_refl _) _
  have hF0 := fourAt_one w ((k : Int) + 1) b m t 97
  have s5 : IntKind.i64.wrap ((n : Int) - b) = (n : Int) - b := IntWalk.i64_in _ (by omega)
  have t1 : decide ((t : Int) < 0) = false := by simp
  have t2 : decide (15 < (t : Int)) = false := by simp; omega
  have t2' : decide (15 < t) = false := by simp; omega
  have t3 : decide ((m : Int) < 1) = false := by simp; omega
  have t3' : decide (m < 1) = false := by simp; omega
  have t4 : decide (1000 < (m : Int)) = false := by simp; omega
  have t4' : decide (1000 < m) = false := by simp; omega
  have t5 : decide ((b : Int) < 288) = false := by simp; omega
  have t5' : decide (b < 288) = false := by simp; omega
  have t6 : decide ((n : Int) < b) = false := by simp; omega
  have t6' : decide (n < b) = false := by simp; omega
  have t7 : decide ((n : Int) - b < m) = false := by simp; omega
  have hr0 := hrd.below hB
  have C1 := Hidden.mk c1
  have C2 := Hidden.mk c2
  have C3 := Hidden.mk c3
  clear ht hm1 hm hb hbn hn c1 c2 c3 hrd
  unfold entV
  go_enter Tryz.func123, Tryz.ntmps123
  go_wp2_with fail
  refine (ref_handle_any _ _).mono ?_
  rintro e w1 ⟨rfl, rfl⟩
  rw [hh]
  clear hh
  go_wp2_with fail
  generalize w.alloc (.cells #[.int .i64 ((k : Int) + 1), .int .i64 (b : Int), .int .i64 (m : Int), .int .i64 (t : Int)] 97) = w0 at *
  refine (C1.out A c _ hr0).mono ?_
  rintro e w1 ⟨A1, c1, rfl, hr1, hb1⟩
  have hF1 := hF0.below hb1
  have hB1 := hB.trans (hb1.mono hB.size)
  have HF1 := Hidden.mk hF1
  obtain ⟨x0, x1, x2, x3⟩ := hF1
  clear hb1 hF0
  go_wp2_with fail
  refine (C2.out A1 c1 _ hr1).mono ?_
  rintro e w2 ⟨A2, c2, rfl, hr2, hb2⟩
  have hF2 := HF1.out.below hb2
  have hB2 := hB1.trans (hb2.mono hB1.size)
  obtain ⟨y0, y1, y2, y3⟩ := hF2
  clear hb2 x0 x1 x2 x3
  go_wp2_with fail
  refine (C3.out A2 c2 _ hr2).mono ?_
  rintro e w3 ⟨A3, c3, rfl, hr3, hb3⟩
  have hB3 := hB2.trans (hb3.mono hB2.size)
  clear hb3 y0 y1 y2 y3
  go_wp2_with fail
  go_ret2
  exact ⟨A3, c3, rfl, hr3, hB3⟩
theorem putEnt_three (l : Bytes) (k t b m : Nat) (h : 5 * k + 5 ≤ l.length) (ht : t ≤ 15) : putEnt l ((k : Int) + 1) (b : Int) (m : Int) (t : Int) = splice (splice (splice l (5 * k) (numB (t + 1) 1)) (5 * k + 1) (numB b 2)) (5 * k + 3) (numB m 2) := by
  have e1 := splice_join l (numB (t + 1) 1) (numB b 2) (5 * k) (by rw [numB_length, numB_length]; omega)
  have e2 := splice_join l (numB (t + 1) 1 ++ numB b 2) (numB m 2) (5 * k) (by rw [List.length_append, numB_length, numB_length, numB_length]; omega)
  rw [List.length_append, numB_length, numB_length] at e2
  rw [numB_length] at e1
  rw [e1, show 5 * k + 3 = 5 * k + (1 + 2) by omega, e2]
  unfold putEnt entB
  rw [entO_k]
  have hm : numB (t + 1) 1 = [UInt8.ofNat (t + 1)] := by
    show [UInt8.ofNat ((t + 1) % 256)] = _
    rw [Nat.mod_eq_of_lt (by omega)]
  rw [hm]
  rfl
theorem refPutEntry_ok (A : Option Addr) (n c : Nat) (l : Bytes) (h a len tag : Int) (w : World) (hln : l.length = n) (hr : rightB n = true) (hrd : Rd w A l) (hh : handleB h = true) (ht : tagB tag = true) (hl : lenB len = true) (hw : withinB n a len = true) :
    Calls Tryz.prog 123 #[.slice A n c, entV h a len tag] w fun e w' => ∃ A' c', e = .returned (.tuple #[.slice A' n c', .int .i64 0]) ∧ Rd w' A' (putEnt l h a len tag) ∧ Below w.heap.size w w' := by
  have htb := tagB_true.1 ht
  have hlb := lenB_true.1 hl
  have hhb := handleB_true.1 hh
  have hwb := withinB_true.1 hw
  have hnb := rightB_true.1 hr
  obtain ⟨k, rfl⟩ : ∃ k : Nat, h = (k : Int) + 1 := ⟨(h - 1).toNat, by omega⟩
  obtain ⟨t, rfl⟩ := Int.eq_ofNat_of_zero_le (show 0 ≤ tag by omega)
  obtain ⟨b, rfl⟩ := Int.eq_ofNat_of_zero_le (show 0 ≤ a by omega)
  obtain ⟨m, rfl⟩ := Int.eq_ofNat_of_zero_le (show 0 ≤ len by omega)
  rw [putEnt_three l k t b m (by omega) (by omega)]
  have hl1 : (splice l (5 * k) (numB (t + 1) 1)).length = n := by rw [splice_len _ _ _ (by rw [numB_length]; omega)]; exact hln
  have hl2 : (splice (splice l (5 * k) (numB (t + 1) 1)) (5 * k + 1) (numB b 2)).length = n := by rw [splice_len _ _ _ (by rw [numB_length, hl1]; omega)]; exact hl1
  have hm1 : mostN ((1 : Nat) : Int) = 255 := rfl
  have hm2 : mostN ((2 : Nat) : Int) = 65535 := rfl
  exact refPutEntry_walk A n c k (5 * k) (5 * k + 1) (5 * k + 3) t (t + 1) b m l _ _ _ w hrd hh (IntWalk.i64_in _ (by omega)) (by rw [IntWalk.i64_in _ (by omega)]; omega) (by rw [IntWalk.i64_in _ (by omega)]; omega) (by rw [IntWalk.i64_in _ (by omega)]; omega) (by rw [IntWalk.i64_in _ (by omega)]; omega)
    (by omega) (by omega) (by omega) (by omega) (by omega) (by omega)
    (putAt n (5 * k) (t + 1) 1 l hln (by omega) (by omega) (by omega) (by rw [hm1]; omega) (by omega))
    (putAt n (5 * k + 1) b 2 _ hl1 (by omega) (by omega) (by omega) (by rw [hm2]; omega) (by omega))
    (putAt n (5 * k + 3) m 2 _ hl2 (by omega) (by omega) (by omega) (by rw [hm2]; omega) (by omega))
theorem refPutEntry_any (A : Option Addr) (n c : Nat) (l : Bytes) (h a len tag : Int) (w : World) (hln : l.length = n) (hr : rightB n = true) (hrd : Rd w A l) :
    Calls Tryz.prog 123 #[.slice A n c, entV h a len tag] w fun e w' => RowAns w w' e (entF l h a len tag) (.int .i64 (entE n h a len tag)) := by
  unfold entF
  rw [hln]
  by_cases hbad : handleB h = false ∨ tagB tag = false ∨ lenB len = false
  · have hE : entE n h a len tag = 1 := by unfold entE; rw [if_pos hbad]
    rw [hE]
    exact (refPutEntry_e1 A n c h a len tag w hbad).mono fun e w' ⟨he, hb⟩ => ⟨none, 0, he, Rd.nil_, hb⟩
  · have h1 : handleB h = true := by cases hx : handleB h <;> simp_all
    have h2 : tagB tag = true := by cases hx : tagB tag <;> simp_all
    have h3 : lenB len = true := by cases hx : lenB len <;> simp_all
    cases hw : withinB n a len with
    | false =>
      have hE : entE n h a len tag = 3 := by unfold entE; rw [if_neg hbad, if_pos hw]
      rw [hE]
      exact (refPutEntry_e3 A n c h a len tag w (by have := rightB_true.1 hr; omega) h1 h2 h3 hw).mono fun e w' ⟨he, hb⟩ => ⟨none, 0, he, Rd.nil_, hb⟩
    | true =>
      have hE : entE n h a len tag = 0 := by unfold entE; rw [if_neg hbad, if_neg (by simp [hw])]
      have hL : (putEnt l h a len tag).length = n := by rw [putEnt_len _ _ _ _ _ (handleB_true.1 h1).1 (handleB_true.1 h1).2 (by have := rightB_true.1 hr; omega)]; exact hln
      rw [hE, if_pos rfl]
      refine (refPutEntry_ok A n c l h a len tag w hln hr hrd h1 h2 h3 hw).mono ?_
      rintro e w' ⟨A', c', rfl, hrd', hb⟩
      exact ⟨A', c', by rw [hL]; rfl, hrd', hb⟩
/-- the program's Put, told likewise -/
theorem iput_ans (A : Option Addr) (n c : Nat) (l : Bytes) (h a len tag : Int) (w : World) (hln : l.length = n) (hnc : n ≤ c) (hr : rightB n = true) (hrd : Rd w A l) :
    Calls Tryz.prog 84 #[.slice A n c, entV h a len tag] w fun e w' => RowAns w w' e (entF l h a len tag) (errV (entE n h a len tag)) := by
  unfold entF
  rw [hln]
  by_cases hbad : handleB h = false ∨ tagB tag = false ∨ lenB len = false
  · have hE : entE n h a len tag = 1 := by unfold entE; rw [if_pos hbad]
    rw [hE]
    exact (iput_e1 A n c h a len tag w hr hbad).mono fun e w' ⟨he, hb⟩ => ⟨none, 0, he, Rd.nil_, hb⟩
  · have h1 : handleB h = true := by cases hx : handleB h <;> simp_all
    have h2 : tagB tag = true := by cases hx : tagB tag <;> simp_all
    have h3 : lenB len = true := by cases hx : lenB len <;> simp_all
    cases hw : withinB n a len with
    | false =>
      have hE : entE n h a len tag = 3 := by unfold entE; rw [if_neg hbad, if_pos hw]
      rw [hE]
      exact (iput_e3w A n c h a len tag w hr h1 h2 h3 hw).mono fun e w' ⟨he, hb⟩ => ⟨none, 0, he, Rd.nil_, hb⟩
    | true =>
      have hE : entE n h a len tag = 0 := by unfold entE; rw [if_neg hbad, if_neg (by simp [hw])]
      have hL : (putEnt l h a len tag).length = n := by rw [putEnt_len _ _ _ _ _ (handleB_true.1 h1).1 (handleB_true.1 h1).2 (by have := rightB_true.1 hr; omega)]; exact hln
      rw [hE, if_pos rfl]
      refine (iput_ok A n c l h a len tag w hln hnc hrd hr h1 h2 h3 hw).mono ?_
      rintro e w' ⟨g, cap, rfl, hg, hrow, hb⟩
      exact ⟨some ⟨g, 0, none⟩, cap, by rw [hL]; rfl, hrow.rd, hb⟩
end Go.Proofs.YtcahgmnkphmnhaaGreat
/- The contract of check.handles: the walk. -/
namespace Go.Proofs.YtcahgmnkphmnhaaGreat
open Go.RowKit

set_option maxRecDepth 100000 in
set_option maxHeartbeats 1000000 in
theorem handles_ok (A : Option Addr) (n c : Nat) (l : Bytes) (w : World) (hn : l.length = n) (hr : rightB n = true) (hnc : n ≤ c) (hrd : Rd w A l) :
    Calls Tryz.prog 115 #[.slice A n c] w fun e w' => ∃ vf vr vw, e = .returned (.tuple #[vf, vr]) ∧ HSt w' w.heap.size vf vr vw (faultsH n (rawE l) 40) (rightL n (rawE l) 40) (wholeL n (rawE l) 40) ∧ Below w.heap.size w w' := by
  have hnb := rightB_true.1 hr
  obtain ⟨i1, hi1, hy0, hy1, hy2⟩ := info_parts fault_info
  obtain ⟨i2, hi2, hx0, hx1, hx2⟩ := info_parts entry_info
  have HGET : Hidden (∀ k : Nat, k < 40 → ∀ W, Below w.heap.size w W → Calls Tryz.prog 49 #[.slice A n c, .int .i64 ((k : Int) + 1)] W fun e w' => (hasE (rawE l k) = true → e = .returned (.tuple #[entR ((k : Int) + 1) (rawE l k), .nilIface])) ∧ (hasE (rawE l k) = false → e = .returned (.tuple #[entV 0 0 0 0, .iface 88 (.int .i64 5)])) ∧ Below W.heap.size W w') :=
    ⟨fun k hk W hW => iget_ok A n c l k W hn hr hnc (hrd.below hW) hk⟩
  have HRAW : Hidden (∀ k : Nat, k < 40 → ∀ W, Below w.heap.size w W → Rd W (A.map (·.add (5 * k))) (rawE l k)) := ⟨fun k hk W hW => rawE_rd (hrd.below hW) k hk (by omega)⟩
  have HLEN : Hidden (∀ k : Nat, k < 40 → (rawE l k).length = 5) := ⟨fun k hk => rawE_len l k hk (by omega)⟩
  generalize rawE l = R at *
  clear hr hrd hn
  go_enter Tryz.func115, Tryz.ntmps115
  go_wp2_with fail
  go_loopw [2, 3, 4, 5] (fun vf vr vw h wr => ∃ k : Nat, k ≤ 40 ∧ h = .int .i64 ((k : Int) + 1) ∧ Below w.heap.size w wr ∧ HSt wr w.heap.size vf vr vw (faultsH n R k) (rightL n R k) (wholeL n R k)) (fun _ _ _ h _ => 41 - (intOf h).toNat)
  case atStart => exact ⟨0, by omega, rfl, Below.refl _ _, World.ownsRow_nil _ _ _ _, World.ownsRow_nil _ _ _ _, World.ownsRow_nil _ _ _ _, fun b hb => by cases hb⟩
  case round =>
    obtain ⟨k, hk, rfl, hbel, hst⟩ := hrel
    by_cases hlt : k < 40
    · have k0 : ((k : Int) + 1) ≤ 40 := by omega
      have s1 : IntKind.i64.wrap ((k : Int) + 1 + 1) = (k : Int) + 1 + 1 := IntWalk.i64_in _ (by omega)
      have hlF := faultsH_len n R k
      have hlR : (rightL n R k).length ≤ k := entsL_len _ R k
      have hlW : (wholeL n R k).length ≤ k := entsL_len _ R k
      have hget := HGET.out k hlt wr hbel
      have HG := Hidden.mk hget
      clear hget
      have HSF := Hidden.mk (faultsH_succ n R k)
      have HSR : Hidden (rightL n R (k + 1) = rightL n R k ++ if (kindH n R k == 6) = true then [(((k : Int) + 1), R k)] else []) := ⟨entsL_succ _ R k⟩
      have HSW : Hidden (wholeL n R (k + 1) = wholeL n R k ++ if wholeE n (R k) = true then [(((k : Int) + 1), R k)] else []) := ⟨entsL_succ _ R k⟩
      cases hE : hasE (R k) with
      | false =>
        have hW0 : wholeE n (R k) = false := by simp [wholeE, hE]
        have hKK : kindH n R k = if zeroE (R k) = true then 0 else 3 := by unfold kindH; rw [hE]; simp
        have HKK := Hidden.mk hKK
        have HW0 := Hidden.mk hW0
        have HEE := Hidden.mk hE
        clear hW0 hKK hE
        go_wp2_with fail
        refine HG.out.mono ?_
        rintro e w1 ⟨_, he, hb1⟩
        have he := he HEE.out
        subst he
        have hB1 := hbel.trans (hb1.mono hbel.size)
        have hst1 := hst.below hb1
        have hB2 : Below w.heap.size w (w1.alloc (.cells #[.int .i64 0, .int .i64 0, .int .i64 0, .int .i64 0] 97)) := hB1.alloc hB1.size _
        have hst2 := hst1.below ((Below.refl _ _).alloc (Nat.le_refl _) (.cells #[.int .i64 0, .int .i64 0, .int .i64 0, .int .i64 0] 97))
        clear hst hst1 hB1 hb1 hbel
        go_wp2_with fail
        generalize w1.alloc (.cells #[.int .i64 0, .int .i64 0, .int .i64 0, .int .i64 0] 97) = w2 at *
        refine (raw_any A n c ((k : Int) + 1) _ (by omega) (by omega) (by omega) hnc).mono ?_
        rintro e w3 ⟨rfl, rfl⟩
        rw [entO_k]
        go_wp2_with fail
        refine (izero_any _ 5 _ (R k) _ (HLEN.out k hlt) (by simp [maxLen]) (HRAW.out k hlt w2 hB2)).mono ?_
        rintro e w3 ⟨rfl, rfl⟩
        cases hz : zeroE (R k) with
        | true =>
          have e1 : faultsH n R (k + 1) = faultsH n R k := by rw [HSF.out, HKK.out, hz]; simp [fltOf]
          have e2 : rightL n R (k + 1) = rightL n R k := by rw [HSR.out, HKK.out, hz]; simp
          have e3 : wholeL n R (k + 1) = wholeL n R k := by rw [HSW.out, HW0.out]; simp
          have hst3 : HSt w2 w.heap.size u2 u3 u4 (faultsH n R (k + 1)) (rightL n R (k + 1)) (wholeL n R (k + 1)) := by rw [e1, e2, e3]; exact hst2
          have HST := Hidden.mk hst3
          clear e1 e2 e3 hst3 hst2 hz
          go_wp2_with fail
          go_roundw
          case rel => exact ⟨k + 1, by omega, by go_num, hB2, HST.out⟩
          case measure => simp [intOf]; omega
        | false =>
          have e1 : faultsH n R (k + 1) = faultsH n R k ++ [⟨3, k + 1⟩] := by rw [HSF.out, HKK.out, hz]; simp [fltOf]
          have e2 : rightL n R (k + 1) = rightL n R k := by rw [HSR.out, HKK.out, hz]; simp
          have e3 : wholeL n R (k + 1) = wholeL n R k := by rw [HSW.out, HW0.out]; simp
          have HE1 := Hidden.mk e1
          have HE2 := Hidden.mk e2
          have HE3 := Hidden.mk e3
          clear e1 e2 e3 hz
          go_wp2_with (at_builtin; refine wpList_append_lies _ rfl (.tmp 30) (.tmp 33) _ rfl w.heap.size 140 i1 _ 2 16 Tryz.underlying136 hi1 hy0 hy1 hy2 rfl (by decide) u2 (faultsH n R k).length ((faultsH n R k).flatMap fcells) rfl (own_below hst2.f ((Below.refl _ _).alloc (Nat.le_refl _) _)) ⟨w2.heap.size, 0, none⟩ 1 1 [.int .i64 3, .int .i64 ((k : Int) + 1)] rfl rfl (World.news_of_block (cs := #[.int .i64 3, .int .i64 ((k : Int) + 1)]) (t := 140) (fr := (0, 0)) (heap_alloc_new w2 _)) (by simp [Value.oneCell']) (by omega) (by simp only [maxLen]; omega) (by omega) (by have := hB2.size; simp; omega) (w2.heap.size + 1) (by simp) ?_; intro gf capf w7 hown7 hg7 hat7 hlt7)
          have hgF := grown_trans' ((Below.refl _ _).alloc (Nat.le_refl _) _) hg7
          have hst7 := hst2.addF (x := ⟨3, k + 1⟩) hgF hown7
          have hB7 : Below w.heap.size w w7 := hB2.grown hgF hB2.size (fun q hq => (hst2.f.lt q hq).1)
          clear hown7 hg7 hat7 hlt7 hgF hst2 hB2
          go_roundw
          case rel => exact ⟨k + 1, by omega, by go_num, hB7, by rw [HE1.out, HE2.out, HE3.out]; exact hst7⟩
          case measure => simp [intOf]; omega
      | true =>
        have HKK : Hidden (kindH n R k = if strayE n (R k) = true then 1 else if (wholeL n R k).any (fun x => overE (R k) x.2) = true then 2 else 6) := ⟨by rw [wholeL_any]; unfold kindH; rw [hE]; simp⟩
        have HWW : Hidden (wholeE n (R k) = !strayE n (R k)) := ⟨by unfold wholeE; rw [hE]; simp⟩
        have HEE := Hidden.mk hE
        have HSTR : Hidden ((!(tagB (rTag (R k)) && lenB (rLen (R k)) && withinB n (rAt (R k)) (rLen (R k)))) = strayE n (R k)) := ⟨rfl⟩
        have HENT : Hidden (∀ h, entR h (R k) = entV h (rAt (R k)) (rLen (R k)) (rTag (R k))) := ⟨fun _ => rfl⟩
        have b1 := rAt_le (R k)
        have b2 := rLen_le (R k)
        have HCELL : Hidden (ecells (((k : Int) + 1), R k) = [.int .i64 ((k : Int) + 1), .int .i64 (rAt (R k)), .int .i64 (rLen (R k)), .int .i64 (rTag (R k))]) := ⟨rfl⟩
        have HOV : Hidden (∀ (Bx : Nat) (x : Int × Bytes) (W : World), W.cell? ⟨Bx, 1, none⟩ = some (.int .i64 (rAt (R k))) → W.cell? ⟨Bx, 2, none⟩ = some (.int .i64 (rLen (R k))) → Calls Tryz.prog 149 #[entR x.1 x.2, .pointer (some ⟨Bx, 0, none⟩)] W fun e w' => e = .returned (.bool (overE (R k) x.2)) ∧ Below W.heap.size W w') := ⟨fun (Bx : Nat) (x : Int × Bytes) (W : World) h1 h2 => over1_any (R k) Bx x W h1 h2⟩
        clear hE
        go_wp2_with fail
        refine HG.out.mono ?_
        rintro e w1 ⟨he, _, hb1⟩
        have he := he HEE.out
        rw [HENT.out] at he
        subst he
        generalize rAt (R k) = a1 at *
        generalize rLen (R k) = a2 at *
        generalize rTag (R k) = a3 at *
        have hB1 := hbel.trans (hb1.mono hbel.size)
        have hst1 := hst.below hb1
        have nf : ∀ q, u2.ownBlock = some q → q < w1.heap.size := fun q hq => Nat.lt_of_lt_of_le (hst.f.lt q hq).2 hb1.size
        have nr : ∀ q, u3.ownBlock = some q → q < w1.heap.size := fun q hq => Nat.lt_of_lt_of_le (hst.r.lt q hq).2 hb1.size
        have NF := Hidden.mk nf
        have NR := Hidden.mk nr
        have hal : Below w1.heap.size w1 (w1.alloc (.cells #[.int .i64 ((k : Int) + 1), .int .i64 a1, .int .i64 a2, .int .i64 a3] 97)) := (Below.refl _ _).alloc (Nat.le_refl _) _
        have hB2 : Below w.heap.size w (w1.alloc (.cells #[.int .i64 ((k : Int) + 1), .int .i64 a1, .int .i64 a2, .int .i64 a3] 97)) := hB1.alloc hB1.size _
        have hst2 := hst1.below hal
        have hbx : (w1.alloc (.cells #[.int .i64 ((k : Int) + 1), .int .i64 a1, .int .i64 a2, .int .i64 a3] 97)).heap[w1.heap.size]? = some (.cells #[.int .i64 ((k : Int) + 1), .int .i64 a1, .int .i64 a2, .int .i64 a3] 97 (0, 0)) := heap_alloc_new w1 _
        clear hst hst1 hB1 hb1 hbel hal nf nr
        go_wp2_with fail
        generalize w1.alloc (.cells #[.int .i64 ((k : Int) + 1), .int .i64 a1, .int .i64 a2, .int .i64 a3] 97) = w2 at *
        generalize w1.heap.size = Bx at *
        refine (stray_any A n c ((k : Int) + 1) a1 a2 a3 _ (by omega) (by omega) (by omega) (by omega)).mono ?_
        rintro e w3 ⟨rfl, hb3⟩
        rw [HSTR.out]
        have hB3 := hB2.trans (hb3.mono hB2.size)
        have hst3 := hst2.below hb3
        have hltx : Bx < w2.heap.size := (Array.getElem?_eq_some_iff.1 hbx).1
        have hbx3 := (hb3.block Bx hltx).trans hbx
        have hltx3 : Bx < w3.heap.size := (Array.getElem?_eq_some_iff.1 hbx3).1
        clear hB2 hst2 hb3 hbx hltx
        cases hs : strayE n (R k) with
        | true =>
          have HE1 : Hidden (faultsH n R (k + 1) = faultsH n R k ++ [⟨1, k + 1⟩]) := ⟨by rw [HSF.out, HKK.out, hs]; simp [fltOf]⟩
          have HE2 : Hidden (rightL n R (k + 1) = rightL n R k) := ⟨by rw [HSR.out, HKK.out, hs]; simp⟩
          have HE3 : Hidden (wholeL n R (k + 1) = wholeL n R k) := ⟨by rw [HSW.out, HWW.out, hs]; simp⟩
          clear hs
          go_wp2_with (at_builtin; refine wpList_append_lies _ rfl (.tmp 39) (.tmp 42) _ rfl w.heap.size 140 i1 _ 2 16 Tryz.underlying136 hi1 hy0 hy1 hy2 rfl (by decide) u2 (faultsH n R k).length ((faultsH n R k).flatMap fcells) rfl (own_below hst3.f ((Below.refl _ _).alloc (Nat.le_refl _) _)) ⟨w3.heap.size, 0, none⟩ 1 1 [.int .i64 1, .int .i64 ((k : Int) + 1)] rfl rfl (World.news_of_block (cs := #[.int .i64 1, .int .i64 ((k : Int) + 1)]) (t := 140) (fr := (0, 0)) (heap_alloc_new w3 _)) (by simp [Value.oneCell']) (by omega) (by simp only [maxLen]; omega) (by omega) (by have := hB3.size; simp; omega) (w3.heap.size + 1) (by simp) ?_; intro gf capf w7 hown7 hg7 hat7 hlt7)
          have hgF := grown_trans' ((Below.refl _ _).alloc (Nat.le_refl _) _) hg7
          have hst7 := hst3.addF (x := ⟨1, k + 1⟩) hgF hown7
          have hB7 : Below w.heap.size w w7 := hB3.grown hgF hB3.size (fun q hq => (hst3.f.lt q hq).1)
          clear hown7 hg7 hat7 hlt7 hgF hst3 hB3
          go_roundw
          case rel => exact ⟨k + 1, by omega, by go_num, hB7, by rw [HE1.out, HE2.out, HE3.out]; exact hst7⟩
          case measure => simp [intOf]; omega
        | false =>
          obtain ⟨A4, c4, hv4, hc4, hrd4⟩ := own_rdEs hst3.o
          subst hv4
          have hcf := cfe_over (fun x => overE (R k) x.2) A4 (wholeL n R k).length c4 (wholeL n R k) (.pointer (some ⟨Bx, 0, none⟩)) w3 rfl (by omega) hrd4 (fun x _ W hW => HOV.out Bx x W (by have := (hW.block Bx hltx3).trans hbx3; simp [World.cell?, this]) (by have := (hW.block Bx hltx3).trans hbx3; simp [World.cell?, this]))
          have HCF := Hidden.mk hcf
          clear hcf
          go_wp2_with fail
          refine HCF.out.mono ?_
          rintro e w4 ⟨rfl, hb4⟩
          have hB4 := hB3.trans (hb4.mono hB3.size)
          have hst4 := hst3.below hb4
          have hbx4 := (hb4.block Bx hltx3).trans hbx3
          have hltx4 : Bx < w4.heap.size := (Array.getElem?_eq_some_iff.1 hbx4).1
          have hrdc4 : ∀ W : World, W.heap[Bx]? = some (.cells #[.int .i64 ((k : Int) + 1), .int .i64 a1, .int .i64 a2, .int .i64 a3] 97 (0, 0)) → W.cell? ⟨Bx, 0, none⟩ = some (.int .i64 ((k : Int) + 1)) ∧ W.cell? ⟨Bx, 1, none⟩ = some (.int .i64 a1) ∧ W.cell? ⟨Bx, 2, none⟩ = some (.int .i64 a2) ∧ W.cell? ⟨Bx, 3, none⟩ = some (.int .i64 a3) := fun W h => by simp [World.cell?, h]
          have HRD := Hidden.mk hrdc4
          obtain ⟨y0, y1, y2, y3⟩ := hrdc4 w4 hbx4
          clear hB3 hst3 hb4 hbx3 hltx3 hrd4 hrdc4
          have HE3 : Hidden (wholeL n R (k + 1) = wholeL n R k ++ [(((k : Int) + 1), R k)]) := ⟨by rw [HSW.out, HWW.out, hs]; simp⟩
          cases hany : (wholeL n R k).any (fun x => overE (R k) x.2) with
          | true =>
            have HE1 : Hidden (faultsH n R (k + 1) = faultsH n R k ++ [⟨2, k + 1⟩]) := ⟨by rw [HSF.out, HKK.out, hs, hany]; simp [fltOf]⟩
            have HE2 : Hidden (rightL n R (k + 1) = rightL n R k) := ⟨by rw [HSR.out, HKK.out, hs, hany]; simp⟩
            clear hs hany
            go_wp2_with (first | (at_builtin; refine wpList_append_lies _ rfl (.tmp 48) (.tmp 51) _ rfl w.heap.size 140 i1 _ 2 16 Tryz.underlying136 hi1 hy0 hy1 hy2 rfl (by decide) u2 (faultsH n R k).length ((faultsH n R k).flatMap fcells) rfl (own_below hst4.f ((Below.refl _ _).alloc (Nat.le_refl _) _)) ⟨w4.heap.size, 0, none⟩ 1 1 [.int .i64 2, .int .i64 ((k : Int) + 1)] rfl rfl (World.news_of_block (cs := #[.int .i64 2, .int .i64 ((k : Int) + 1)]) (t := 140) (fr := (0, 0)) (heap_alloc_new w4 _)) (by simp [Value.oneCell']) (by omega) (by simp only [maxLen]; omega) (by omega) (by have := hB4.size; simp; omega) (w4.heap.size + 1) (by simp) ?_; intro gf capf w7 hown7 hg7 hat7 hlt7; have hgF := grown_trans' ((Below.refl _ _).alloc (Nat.le_refl _) _) hg7; have hst7 := hst4.addF (x := ⟨2, k + 1⟩) hgF hown7; have hB7 : Below w.heap.size w w7 := hB4.grown hgF hB4.size (fun q hq => (hst4.f.lt q hq).1); obtain ⟨z0, z1, z2, z3⟩ := HRD.out w7 ((hgF.block Bx hltx4 (fun e => Nat.lt_irrefl _ (NF.out Bx e.symm))).trans hbx4)) | (at_builtin; refine wpList_append_lies _ rfl (.tmp 53) (.tmp 55) _ rfl w.heap.size 97 i2 _ 4 32 Tryz.underlying124 hi2 hx0 hx1 hx2 rfl (by decide) (.slice A4 (wholeL n R k).length c4) (wholeL n R k).length ((wholeL n R k).flatMap ecells) rfl (own_below hst7.o ((Below.refl _ _).alloc (Nat.le_refl _) _)) ⟨w7.heap.size, 0, none⟩ 1 1 [.int .i64 ((k : Int) + 1), .int .i64 a1, .int .i64 a2, .int .i64 a3] rfl rfl (World.news_of_block (cs := #[.int .i64 ((k : Int) + 1), .int .i64 a1, .int .i64 a2, .int .i64 a3]) (t := 97) (fr := (0, 0)) (heap_alloc_new w7 _)) (by simp [Value.oneCell']) (by omega) (by simp only [maxLen]; omega) (by omega) (by have := hB7.size; simp; omega) (w7.heap.size + 1) (by simp) ?_; intro g8 cap8 w8 hown8 hg8 hat8 hlt8))
            have hgW := grown_trans' ((Below.refl _ _).alloc (Nat.le_refl _) _) hg8
            have hst8 := hst7.addW (x := (((k : Int) + 1), R k)) hgW rfl (by rw [HCELL.out]; exact hown8) (by rcases hat8 with h | h; exact .inl h; exact .inr (by omega))
            have hB8 : Below w.heap.size w w8 := hB7.grown hgW hB7.size (fun q hq => (hst7.o.lt q hq).1)
            go_roundw
            case rel => exact ⟨k + 1, by omega, by go_num, hB8, by rw [HE1.out, HE2.out, HE3.out]; exact hst8⟩
            case measure => simp [intOf]; omega
          | false =>
            have HE1 : Hidden (faultsH n R (k + 1) = faultsH n R k) := ⟨by rw [HSF.out, HKK.out, hs, hany]; simp [fltOf]⟩
            have HE2 : Hidden (rightL n R (k + 1) = rightL n R k ++ [(((k : Int) + 1), R k)]) := ⟨by rw [HSR.out, HKK.out, hs, hany]; simp⟩
            clear hs hany
            go_wp2_with (first | (at_builtin; refine wpList_append_lies _ rfl (.tmp 18) (.tmp 20) _ rfl w.heap.size 97 i2 _ 4 32 Tryz.underlying124 hi2 hx0 hx1 hx2 rfl (by decide) u3 (rightL n R k).length ((rightL n R k).flatMap ecells) rfl (own_below hst4.r ((Below.refl _ _).alloc (Nat.le_refl _) _)) ⟨w4.heap.size, 0, none⟩ 1 1 [.int .i64 ((k : Int) + 1), .int .i64 a1, .int .i64 a2, .int .i64 a3] rfl rfl (World.news_of_block (cs := #[.int .i64 ((k : Int) + 1), .int .i64 a1, .int .i64 a2, .int .i64 a3]) (t := 97) (fr := (0, 0)) (heap_alloc_new w4 _)) (by simp [Value.oneCell']) (by omega) (by simp only [maxLen]; omega) (by omega) (by have := hB4.size; simp; omega) (w4.heap.size + 1) (by simp) ?_; intro g6 cap6 w6 hown6 hg6 hat6 hlt6; have hgR := grown_trans' ((Below.refl _ _).alloc (Nat.le_refl _) _) hg6; have hst6 := hst4.addR (x := (((k : Int) + 1), R k)) hgR rfl (by rw [HCELL.out]; exact hown6) (by rcases hat6 with h | h; exact .inl h; exact .inr (by omega)); have hB6 : Below w.heap.size w w6 := hB4.grown hgR hB4.size (fun q hq => (hst4.r.lt q hq).1); obtain ⟨z0, z1, z2, z3⟩ := HRD.out w6 ((hgR.block Bx hltx4 (fun e => Nat.lt_irrefl _ (NR.out Bx e.symm))).trans hbx4)) | (at_builtin; refine wpList_append_lies _ rfl (.tmp 53) (.tmp 55) _ rfl w.heap.size 97 i2 _ 4 32 Tryz.underlying124 hi2 hx0 hx1 hx2 rfl (by decide) (.slice A4 (wholeL n R k).length c4) (wholeL n R k).length ((wholeL n R k).flatMap ecells) rfl (own_below hst6.o ((Below.refl _ _).alloc (Nat.le_refl _) _)) ⟨w6.heap.size, 0, none⟩ 1 1 [.int .i64 ((k : Int) + 1), .int .i64 a1, .int .i64 a2, .int .i64 a3] rfl rfl (World.news_of_block (cs := #[.int .i64 ((k : Int) + 1), .int .i64 a1, .int .i64 a2, .int .i64 a3]) (t := 97) (fr := (0, 0)) (heap_alloc_new w6 _)) (by simp [Value.oneCell']) (by omega) (by simp only [maxLen]; omega) (by omega) (by have := hB6.size; simp; omega) (w6.heap.size + 1) (by simp) ?_; intro g8 cap8 w8 hown8 hg8 hat8 hlt8))
            have hgW := grown_trans' ((Below.refl _ _).alloc (Nat.le_refl _) _) hg8
            have hst8 := hst6.addW (x := (((k : Int) + 1), R k)) hgW rfl (by rw [HCELL.out]; exact hown8) (by rcases hat8 with h | h; exact .inl h; exact .inr (by omega))
            have hB8 : Below w.heap.size w w8 := hB6.grown hgW hB6.size (fun q hq => (hst6.o.lt q hq).1)
            go_roundw
            case rel => exact ⟨k + 1, by omega, by go_num, hB8, by rw [HE1.out, HE2.out, HE3.out]; exact hst8⟩
            case measure => simp [intOf]; omega
    · obtain rfl : k = 40 := by omega
      go_wp2_with fail
      go_ret2
      exact ⟨u2, u3, u4, rfl, hst, hbel⟩
end Go.Proofs.YtcahgmnkphmnhaaGreat
/- The contract of check.Check. -/
namespace Go.Proofs.YtcahgmnkphmnhaaGreat
open Go.RowKit

theorem flt_one (F : List Flt) : ∀ u ∈ F.flatMap fcells, u.oneCell' = true := by
  intro u hu
  obtain ⟨f, _, h⟩ := List.mem_flatMap.1 hu
  simp only [fcells, List.mem_cons, List.not_mem_nil, or_false] at h
  rcases h with rfl | rfl <;> rfl
theorem right_leads (n : Nat) (R : Nat → Bytes) (x : UInt8) : ((rightL n R 40).any fun e => e.1 == (x.toNat : Int)) = leadsE n R x := by
  unfold rightL entsL leadsE
  rw [List.any_map, List.any_filter]
  congr 1
  funext k
  simp only [Function.comp]
  congr 1
  rw [Bool.eq_iff_iff]; simp; omega
theorem check_no (A : Option Addr) (n c : Nat) (w : World) (hr : rightB n = false) :
    Calls Tryz.prog 77 #[.slice A n c] w fun e w' => e = .returned (.tuple #[.slice none 0 0, .iface 88 (.int .i64 3)]) ∧ w = w' := by
  go_enter Tryz.func77, Tryz.ntmps77
  go_wp2_with fail
  refine (right_any _ _).mono ?_
  rintro e w1 ⟨rfl, rfl⟩
  rw [hr]
  go_wp2_with fail
  go_ret2
  exact ⟨rfl, rfl⟩
set_option maxRecDepth 100000 in
theorem check_yes (A : Option Addr) (n c : Nat) (l : Bytes) (w : World) (hn : l.length = n) (hr : rightB n = true) (hnc : n ≤ c) (hrd : Rd w A l) :
    Calls Tryz.prog 77 #[.slice A n c] w fun e w' => ∃ v, e = .returned (.tuple #[v, .nilIface]) ∧ w'.ownsRow w.heap.size 140 2 v (checkL l).length ((checkL l).flatMap fcells) ∧ Below w.heap.size w w' := by
  obtain ⟨i1, hi1, hy0, hy1, hy2⟩ := info_parts fault_info
  have hlF := faultsH_len n (rawE l) 40
  have hlR : (rightL n (rawE l) 40).length ≤ 40 := entsL_len _ _ 40
  have hlG := faultsR_len (leadsE n (rawE l)) (rawR l) 8
  have HCL : Hidden (checkL l = faultsH n (rawE l) 40 ++ faultsR (leadsE n (rawE l)) (rawR l) 8) := ⟨by unfold checkL; rw [hn]⟩
  go_enter Tryz.func77, Tryz.ntmps77
  go_wp2_with fail
  refine (right_any _ _).mono ?_
  rintro e w1 ⟨rfl, rfl⟩
  rw [hr]
  go_wp2_with fail
  refine (handles_ok A n c l _ hn hr hnc hrd).mono ?_
  rintro e w1 ⟨vf, vr, vw, rfl, hst, hb1⟩
  obtain ⟨Ar, cr, rfl, hcr, hre⟩ := own_rdEs hst.r
  go_wp2_with fail
  refine (roots_ok A Ar n c _ cr l (rightL n (rawE l) 40) (leadsE n (rawE l)) _ hn hr hnc (hrd.below hb1) rfl (by omega) hre (right_leads n (rawE l))).mono ?_
  rintro e w2 ⟨vg, rfl, hg2, hb2⟩
  have hf2 := own_below hst.f hb2
  obtain ⟨Ag, cg, rfl, hcg, hsrc⟩ := Src.of_own hg2
  have hB2 := hb1.trans (hb2.mono hb1.size)
  generalize faultsH n (rawE l) 40 = FH at *
  generalize faultsR (leadsE n (rawE l)) (rawR l) 8 = FR at *
  have HS := Hidden.mk hsrc
  have HF2 := Hidden.mk hf2
  clear hst hre hg2 hsrc hf2 hb1 hb2 hn hr hrd
  go_wp2_with (at_builtin; refine wpList_append_src _ rfl (.tmp 16) (.tmp 19) _ rfl w.heap.size 140 i1 _ 2 16 Tryz.underlying136 hi1 hy0 hy1 hy2 rfl (by decide) vf FH.length (FH.flatMap fcells) rfl HF2.out Ag FR.length cg (FR.flatMap fcells) rfl HS.out (flt_one _) (by simp only [maxLen]; omega) (by omega) hB2.size ?_; intro v7 w7 hown7 hg7 hat7)
  have hB7 : Below w.heap.size w w7 := hB2.grown hg7 hB2.size (fun q hq => (HF2.out.lt q hq).1)
  go_ret2
  refine ⟨_, rfl, ?_, hB7⟩
  rw [HCL.out]
  simpa using hown7
end Go.Proofs.YtcahgmnkphmnhaaGreat
/- The contract of check.Mend. -/
namespace Go.Proofs.YtcahgmnkphmnhaaGreat
open Go.RowKit

/-- the slice at A has the faults L -/
def RdFs (w : World) (A : Option Addr) (L : List Flt) : Prop := ∀ i (h : i < L.length), ∃ g off, A = some ⟨g, off, none⟩ ∧ w.cell? ⟨g, off + i * 2, none⟩ = some (.int .i64 L[i].what) ∧ w.cell? ⟨g, off + i * 2 + 1, none⟩ = some (.int .i64 L[i].which)
theorem RdFs.below {w w' : World} {A : Option Addr} {L : List Flt} (h : RdFs w A L) (hb : Below w.heap.size w w') : RdFs w' A L := fun i hi => by
  obtain ⟨g, off, hA, c0, c1⟩ := h i hi
  exact ⟨g, off, hA, (hb.cell (block_lt_of_cell c0)).trans c0, (hb.cell (block_lt_of_cell c1)).trans c1⟩
theorem fcells_at (L : List Flt) (q : Nat) (hq : q < 2) : ∀ i (h : i < L.length), (L.flatMap fcells)[i * 2 + q]? = (fcells L[i])[q]? := by
  induction L with
  | nil => intro i h; simp at h
  | cons x L ih =>
    intro i h
    rw [List.flatMap_cons]
    have hl : (fcells x).length = 2 := rfl
    cases i with
    | zero => rw [List.getElem?_append_left (by omega)]; simp
    | succ i =>
      rw [List.getElem?_append_right (by omega), hl, show (i + 1) * 2 + q - 2 = i * 2 + q from by omega, ih i (by simpa using h)]
      simp
theorem own_rdFs {w : World} {base : Nat} {v : Value} {L : List Flt} (h : w.ownsRow base 140 2 v L.length (L.flatMap fcells)) : ∃ A c, v = .slice A L.length c ∧ L.length ≤ c ∧ RdFs w A L := by
  rcases h.2 with ⟨rfl, h0⟩ | ⟨g, cap, cur, rfl, _, hh, hc, hm, hz, ht⟩
  · exact ⟨none, 0, by rw [h0], by omega, fun i hi => by omega⟩
  · refine ⟨_, cap, rfl, hc, fun i hi => ?_⟩
    have hcell : ∀ q u, q < 2 → (fcells L[i])[q]? = some u → w.cell? ⟨g, 0 + (i * 2 + q), none⟩ = some u := fun q u hq hu => by
      have := h.cells (g := g) rfl (i * 2 + q) u (by rw [fcells_at L q hq i hi]; exact hu)
      rw [Addr.add_lit] at this
      exact this
    refine ⟨g, 0, rfl, ?_, ?_⟩
    · exact hcell 0 _ (by omega) rfl
    · exact (Nat.add_assoc 0 (i * 2) 1) ▸ hcell 1 _ (by omega) rfl
theorem own_rdFs' {w : World} {base c : Nat} {A : Option Addr} {L : List Flt} (h : w.ownsRow base 140 2 (.slice A L.length c) L.length (L.flatMap fcells)) : RdFs w A L := by
  obtain ⟨A', c', hv, _, hr⟩ := own_rdFs h
  injection hv with hv
  subst hv
  exact hr
theorem flt_range {l : Bytes} {f : Flt} (h : f ∈ checkL l) : ((f.what = 4 ∨ f.what = 5) ∧ f.which < 8) ∨ (f.what ≠ 4 ∧ f.what ≠ 5 ∧ 1 ≤ f.which ∧ f.which ≤ 40) := by
  rcases mem_checkL.1 h with ⟨k, hk, hn, rfl⟩ | ⟨i, hi, hn, rfl⟩
  · have := kindH_cases l.length (rawE l) k
    right; simp only; omega
  · have := kindR_cases (leadsE l.length (rawE l)) (rawR l) i
    left; simp only; omega
theorem clearAll_snoc (l : Bytes) (F : List Flt) (j : Nat) (hj : j < F.length) : clearAll l (F.take (j + 1)) = clearF (clearAll l (F.take j)) F[j] := by
  rw [List.take_succ_eq_append_getElem hj]
  unfold clearAll
  rw [List.foldl_append]
  rfl
theorem checkL_len (l : Bytes) : (checkL l).length ≤ 48 := by
  unfold checkL
  have h1 := faultsH_len l.length (rawE l) 40
  have h2 := faultsR_len (leadsE l.length (rawE l)) (rawR l) 8
  rw [List.length_append]; omega
/-- the round of Mend's inner loop, told -/
structure MSt (w wr : World) (g cap b1 : Nat) (vf : Value) (l : Bytes) (F : List Flt) : Prop where
  bel : Below w.heap.size w wr
  row : Row wr 5 g cap l
  own : wr.ownsRow b1 140 2 vf F.length (F.flatMap fcells)
  lt : g < b1
  le : w.heap.size ≤ g
theorem MSt.alloc {w wr : World} {g cap b1 : Nat} {vf : Value} {l : Bytes} {F : List Flt} (h : MSt w wr g cap b1 vf l F) (o : Obj) : MSt w (wr.alloc o) g cap b1 vf l F :=
  ⟨h.bel.alloc h.bel.size o, h.row.below ((Below.refl _ wr).alloc (Nat.le_refl _) o) h.row.lt, h.own.alloc o, h.lt, h.le⟩
theorem MSt.clear {w wr : World} {g cap b1 : Nat} {vf : Value} {l : Bytes} {F : List Flt} (h : MSt w wr g cap b1 vf l F) (o n : Nat) (hn : 0 < n) (hin : o + n ≤ l.length) :
    ∃ w', (∀ c ty, (Builtin.clear_ #[22] ty #[.slice (some ⟨g, o, none⟩) n c]).run Tryz.prog wr = .ok (.tuple #[]) w') ∧ MSt w w' g cap b1 vf (splice l o (List.replicate n 0)) F := by
  obtain ⟨cur, hcur, hc1, _, hcs, _⟩ := id h.row
  refine ⟨wr.setRow g (setB cur o ((List.replicate n (0 : UInt8)).map bv)), fun c ty => run_clear_row wr g o n c cur _ hcur hn (by omega) ty, below_setRow h.bel h.le _, h.row.set_ o _ (by simpa using hin) cur hcur, ?_, h.lt, h.le⟩
  exact h.own.kept (grownBy_setRow wr g _) (.inr fun e => by have := (h.own.lt _ e).1; have := h.lt; omega)
theorem mend_no (A : Option Addr) (n c : Nat) (l : Bytes) (w : World) (hn : l.length = n) (hl : n ≤ 140737488351232) (hr : rightB n = false) (hrd : Rd w A l) :
    Calls Tryz.prog 37 #[.slice A n c] w fun e w' => e = .returned (.tuple #[.slice none 0 0, .iface 88 (.int .i64 3)]) ∧ Below w.heap.size w w' := by
  rcases A with _ | ad
  · have h0 : n = 0 := by
      rcases Nat.eq_zero_or_pos n with h0 | h0
      · exact h0
      · obtain ⟨b, off, h, _⟩ := hrd 0 (by omega); cases h
    go_enter Tryz.func37, Tryz.ntmps37
    go_wp2_with fail
    refine (clone_nil _ _ _).mono ?_
    rintro e w1 ⟨rfl, rfl⟩
    go_wp2_with fail
    refine wp_loop_rounds 1 ?_
    rw [rounds_succ]
    go_wp2_with fail
    refine (check_no _ 0 _ _ (by decide)).mono ?_
    rintro e w1 ⟨rfl, rfl⟩
    go_wp2_with fail
    go_ret2
    exact ⟨rfl, Below.refl _ _⟩
  · go_enter Tryz.func37, Tryz.ntmps37
    go_wp2_with fail
    refine (clone_some _ _ _ _ _ hn hl hrd).mono ?_
    rintro e w1 ⟨g, cap, rfl, hg, hrow, hb⟩
    go_wp2_with fail
    refine wp_loop_rounds 1 ?_
    rw [rounds_succ]
    go_wp2_with fail
    refine (check_no _ n _ _ hr).mono ?_
    rintro e w1 ⟨rfl, rfl⟩
    go_wp2_with fail
    go_ret2
    exact ⟨rfl, hb⟩
set_option maxRecDepth 100000 in
theorem mend_yes (A : Option Addr) (n c : Nat) (l : Bytes) (w : World) (hn : l.length = n) (hr : rightB n = true) (hrd : Rd w A l) :
    Calls Tryz.prog 37 #[.slice A n c] w fun e w' => ∃ g cap, e = .returned (.tuple #[.slice (some ⟨g, 0, none⟩) n cap, .nilIface]) ∧ w.heap.size ≤ g ∧ n ≤ cap ∧ Row w' 5 g cap (mendL l) ∧ Below w.heap.size w w' := by
  have hnb := rightB_true.1 hr
  obtain ⟨p0, off0, rfl, hlt0⟩ := hrd.lt (by omega)
  have HM : Hidden (mendL l = clearAll l (checkL l)) := ⟨rfl⟩
  have HID : Hidden (checkL l = [] → mendL l = l) := ⟨mend_id⟩
  have HCLEAN : Hidden (checkL (mendL l) = []) := ⟨mend_clean (by omega)⟩
  have HML : Hidden ((mendL l).length = n) := ⟨by rw [mendL_len (by omega), hn]⟩
  have HN := Hidden.mk hn
  have HIN : Hidden (∀ f ∈ checkL l, FltIn l.length f) := ⟨fun _ hf => flt_in (by omega) hf⟩
  have HRG : Hidden (∀ f ∈ checkL l, ((f.what = 4 ∨ f.what = 5) ∧ f.which < 8) ∨ (f.what ≠ 4 ∧ f.what ≠ 5 ∧ 1 ≤ f.which ∧ f.which ≤ 40)) := ⟨fun _ hf => flt_range hf⟩
  have hcl48 := checkL_len l
  go_enter Tryz.func37, Tryz.ntmps37
  go_wp2_with fail
  refine (clone_some _ _ _ _ _ hn (by omega) hrd).mono ?_
  rintro e w1 ⟨g, cap, rfl, hg, hrow, hb⟩
  have hlc := hrow.le
  have hlc1 : n ≤ cap := by have := hlc.1; omega
  clear hn hlc
  go_wp2_with fail
  go_loopg [] 2 (fun k wr => ∃ lb : Bytes, Below w.heap.size w wr ∧ Row wr 5 g cap lb ∧ Hidden ((k = 2 ∧ lb = l) ∨ (k = 1 ∧ lb = mendL l)))
  case atStart => exact ⟨l, hb, hrow, ⟨.inl ⟨rfl, rfl⟩⟩⟩
  case round =>
    obtain ⟨lb, hbel, hrow1, hcase⟩ := hrel
    have HLB : Hidden (lb.length = n) := ⟨by rcases hcase.out with ⟨_, rfl⟩ | ⟨_, rfl⟩; exact HN.out; exact HML.out⟩
    have HFIN : Hidden (checkL lb = [] → lb = mendL l) := ⟨fun h0 => by rcases hcase.out with ⟨_, rfl⟩ | ⟨_, rfl⟩; exact (HID.out h0).symm; rfl⟩
    have HFIRST : Hidden (checkL lb ≠ [] → gk = 2 ∧ lb = l) := ⟨fun h0 => by rcases hcase.out with h | ⟨_, rfl⟩; exact h; exact absurd HCLEAN.out h0⟩
    go_wp2_with fail
    refine (check_yes (some ⟨g, 0, none⟩) n cap lb _ HLB.out hr hlc1 hrow1.rd).mono ?_
    rintro e w2 ⟨v, rfl, hown, hb2⟩
    have hrow2 := hrow1.below hb2 hrow1.lt
    have hB2 := hbel.trans (hb2.mono hbel.size)
    have hgl := hrow1.lt
    generalize wr.heap.size = b1 at *
    obtain ⟨Af, cf, rfl, hcf, -⟩ := own_rdFs hown
    obtain ⟨F, hFF⟩ : ∃ F, checkL lb = F := ⟨_, rfl⟩
    rw [hFF] at hown hcf
    rw [hFF]
    have HFF := Hidden.mk hFF
    clear hFF
    by_cases hF : F = []
    · subst hF
      have hfin := HFIN.out HFF.out
      have HROW : Hidden (Row w2 5 g cap (mendL l)) := ⟨by rw [← hfin]; exact hrow2⟩
      clear hfin hown hcf hrow1 hrow2
      go_wp2_with fail
      go_ret2
      exact ⟨g, cap, rfl, hg, hlc1, HROW.out, hB2⟩
    · have hfi := HFIRST.out (by rw [HFF.out]; exact hF)
      obtain ⟨rfl, rfl⟩ := hfi
      have hne : 0 < F.length := List.length_pos_iff.2 hF
      have hst : MSt w w2 g cap b1 (.slice Af F.length cf) lb F := ⟨hB2, hrow2, hown, hgl, hg⟩
      have hl48 : F.length ≤ 48 := by rw [← HFF.out]; exact hcl48
      clear hF hown hrow1 hrow2 hB2 hb2 hbel hcl48 hcf
      go_wp2_with fail
      go_loopg [24] F.length (fun k i wr => ∃ j : Nat, j ≤ F.length ∧ k = F.length - j ∧ i = .int .i64 j ∧ MSt w wr g cap b1 (.slice Af F.length cf) (clearAll lb (F.take j)) F)
      case atStart => exact ⟨0, by omega, rfl, rfl, hst⟩
      case round =>
        obtain ⟨j, hj, rfl, rfl, hst3⟩ := hrel
        by_cases hlt : j < F.length
        · obtain ⟨gf, off, hA, c0, c1⟩ := own_rdFs' hst3.own j hlt
          subst hA
          have HCL : Hidden (clearAll lb (F.take (j + 1)) = clearF (clearAll lb (F.take j)) F[j]) := ⟨clearAll_snoc lb F j hlt⟩
          have HLJ : Hidden ((clearAll lb (F.take j)).length = n) := ⟨by rw [clearAll_len _ _ (fun f hf => HIN.out f (by rw [HFF.out]; exact List.mem_of_mem_take hf)), HN.out]⟩
          have hin := HIN.out F[j] (by rw [HFF.out]; exact List.getElem_mem hlt)
          have hrg := HRG.out F[j] (by rw [HFF.out]; exact List.getElem_mem hlt)
          unfold FltIn fltO fltN at hin
          have i0 : (0 : Int) ≤ j := by omega
          have i1 : (j : Int) < F.length := by omega
          generalize F[j] = f at *
          obtain ⟨what, which⟩ := f
          dsimp only at *
          have hst4 := hst3.alloc (.cells #[.int .i64 what, .int .i64 which] 140)
          clear hst3
          by_cases h4 : what = 4
          · subst h4
            rw [show (((4 : Nat)) : Int) = 4 from rfl] at c0 hst4
            have hw8 : which < 8 := by omega
            have hEQ : clearF (clearAll lb (F.take j)) ⟨4, which⟩ = splice (clearAll lb (F.take j)) (200 + 11 * which) (List.replicate 11 0) := by simp [clearF, fltO, fltN]
            rw [hEQ] at HCL
            clear hrg hin hEQ
            go_wp2_with fail
            refine (rawRoot_any (some ⟨g, 0, none⟩) n cap (which : Int) _ (by omega) (by omega) (by omega) hlc1).mono ?_
            rintro e w4 ⟨rfl, rfl⟩
            rw [rootO_k]
            simp only [Option.map_some, Addr.add_lit, Nat.zero_add]
            obtain ⟨w5, hclear, hst5⟩ := hst4.clear (200 + 11 * which) 11 (by omega) (by rw [HLJ.out]; omega)
            have HST5 := Hidden.mk hst5
            clear hst5 hst4
            go_wp2_with (simp only [hclear])
            go_roundg (F.length - (j + 1))
            case measure => omega
            case rel => exact ⟨j + 1, by omega, rfl, by go_num, by rw [HCL.out]; exact HST5.out⟩
          · by_cases h5 : what = 5
            · subst h5
              rw [show (((5 : Nat)) : Int) = 5 from rfl] at c0 hst4
              have hw8 : which < 8 := by omega
              have hEQ : clearF (clearAll lb (F.take j)) ⟨5, which⟩ = splice (clearAll lb (F.take j)) (200 + 11 * which) (List.replicate 11 0) := by simp [clearF, fltO, fltN]
              rw [hEQ] at HCL
              clear hrg hin hEQ h4
              go_wp2_with fail
              refine (rawRoot_any (some ⟨g, 0, none⟩) n cap (which : Int) _ (by omega) (by omega) (by omega) hlc1).mono ?_
              rintro e w4 ⟨rfl, rfl⟩
              rw [rootO_k]
              simp only [Option.map_some, Addr.add_lit, Nat.zero_add]
              obtain ⟨w5, hclear, hst5⟩ := hst4.clear (200 + 11 * which) 11 (by omega) (by rw [HLJ.out]; omega)
              have HST5 := Hidden.mk hst5
              clear hst5 hst4
              go_wp2_with (simp only [hclear])
              go_roundg (F.length - (j + 1))
              case measure => omega
              case rel => exact ⟨j + 1, by omega, rfl, by go_num, by rw [HCL.out]; exact HST5.out⟩
            · obtain ⟨m, rfl⟩ : ∃ m, which = m + 1 := ⟨which - 1, by omega⟩
              have hw8 : m < 40 := by omega
              have hEQ : clearF (clearAll lb (F.take j)) ⟨what, m + 1⟩ = splice (clearAll lb (F.take j)) (5 * m) (List.replicate 5 0) := by simp [clearF, fltO, fltN, h4, h5]
              rw [hEQ] at HCL
              have b4 : ((what : Int) == 4) = false := by simp; omega
              have b5 : ((what : Int) == 5) = false := by simp; omega
              have hm1 : ((m + 1 : Nat) : Int) = (m : Int) + 1 := by omega
              rw [hm1] at c1 hst4
              clear hrg hin hEQ h4 h5 hm1
              go_wp2_with fail
              refine (raw_any (some ⟨g, 0, none⟩) n cap ((m : Int) + 1) _ (by omega) (by omega) (by omega) hlc1).mono ?_
              rintro e w4 ⟨rfl, rfl⟩
              rw [entO_k]
              simp only [Option.map_some, Addr.add_lit, Nat.zero_add]
              obtain ⟨w5, hclear, hst5⟩ := hst4.clear (5 * m) 5 (by omega) (by rw [HLJ.out]; omega)
              have HST5 := Hidden.mk hst5
              clear hst5 hst4
              go_wp2_with (simp only [hclear])
              go_roundg (F.length - (j + 1))
              case measure => omega
              case rel => exact ⟨j + 1, by omega, rfl, by go_num, by rw [HCL.out]; exact HST5.out⟩
        · obtain rfl : j = F.length := by omega
          rw [List.take_of_length_le (Nat.le_refl _)] at hst3
          have hfin : clearAll lb F = mendL lb := by rw [HM.out, HFF.out]
          rw [hfin] at hst3
          have HST := Hidden.mk hst3
          clear hst3 hfin
          go_wp2_with fail
          go_roundg 1
          case measure => omega
          case rel => exact ⟨_, HST.out.bel, HST.out.row, ⟨.inr ⟨rfl, rfl⟩⟩⟩
end Go.Proofs.YtcahgmnkphmnhaaGreat
/- The contract of image.Drop; what puts leave of an image, in plain words. -/
namespace Go.Proofs.YtcahgmnkphmnhaaGreat
open Go.RowKit

set_option maxRecDepth 100000 in
theorem idrop_ok (A : Option Addr) (n c : Nat) (l : Bytes) (k : Nat) (w : World) (hn : l.length = n) (hr : rightB n = true) (hnc : n ≤ c) (hrd : Rd w A l) (hk : k < 40) (hE : hasE (rawE l k) = true) :
    Calls Tryz.prog 54 #[.slice A n c, .int .i64 ((k : Int) + 1)] w fun e w' => ∃ g cap, e = .returned (.tuple #[.slice (some ⟨g, 0, none⟩) n cap, .nilIface]) ∧ w.heap.size ≤ g ∧ Row w' 5 g cap (splice l (5 * k) (List.replicate 5 0)) ∧ Below w.heap.size w w' := by
  have hnb := rightB_true.1 hr
  have HG := Hidden.mk ((iget_ok A n c l k w hn hr hnc hrd hk).mono fun _ _ h => (⟨h.1 hE, h.2.2⟩ : _ ∧ _))
  unfold entR entV at HG
  generalize (rAt (rawE l k) : Int) = a1 at *
  generalize (rLen (rawE l k) : Int) = a2 at *
  generalize rTag (rawE l k) = a3 at *
  clear hE
  obtain ⟨p, off, rfl, hpl⟩ := hrd.lt (by omega)
  go_enter Tryz.func54, Tryz.ntmps54
  go_wp2_with fail
  refine HG.out.mono ?_
  rintro e w1 ⟨rfl, hb1⟩
  have hB2 : Below w.heap.size w (w1.alloc (.cells #[.int .i64 ((k : Int) + 1), .int .i64 a1, .int .i64 a2, .int .i64 a3] 97)) := hb1.alloc hb1.size _
  clear hb1
  go_wp2_with fail
  generalize w1.alloc (.cells #[.int .i64 ((k : Int) + 1), .int .i64 a1, .int .i64 a2, .int .i64 a3] 97) = w2 at *
  refine (clone_some _ n c l _ hn (by omega) (hrd.below hB2)).mono ?_
  rintro e w3 ⟨g, cap, rfl, hg, hrow, hb3⟩
  have hB3 := hB2.trans (hb3.mono hB2.size)
  have hgw : w.heap.size ≤ g := Nat.le_trans hB2.size hg
  have hlc := hrow.le.1
  clear hg hb3 hB2
  go_wp2_with fail
  refine (raw_any (some ⟨g, 0, none⟩) n cap ((k : Int) + 1) _ (by omega) (by omega) (by omega) (by omega)).mono ?_
  rintro e w4 ⟨rfl, rfl⟩
  rw [entO_k]
  simp only [Option.map_some, Addr.add_lit, Nat.zero_add]
  obtain ⟨cur, hcur, _, _, hcs, _⟩ := id hrow
  have hclear := fun c' ty => run_clear_row w3 g (5 * k) 5 c' cur _ hcur (by omega) (by omega) ty
  have hrow5 := hrow.set_ (5 * k) (List.replicate 5 0) (by simp; omega) cur hcur
  have hB5 : Below w.heap.size w (w3.setRow g (setB cur (5 * k) ((List.replicate 5 (0 : UInt8)).map bv))) := below_setRow hB3 hgw _
  have H5 := Hidden.mk (And.intro hrow5 hB5)
  clear hrow hrow5 hB5 hB3 hcur hcs hlc
  generalize w3.setRow g (setB cur (5 * k) ((List.replicate 5 (0 : UInt8)).map bv)) = w5 at *
  go_wp2_with (simp only [hclear])
  go_ret2
  exact ⟨g, cap, rfl, hgw, H5.out.1, H5.out.2⟩
theorem splice_get_ (l x : Bytes) (o p : Nat) (h : o + x.length ≤ l.length) : (splice l o x)[p]? = if o ≤ p ∧ p < o + x.length then x[p - o]? else l[p]? := splice_at l x o p h
theorem rawE_splice (l x : Bytes) (k j : Nat) (hx : x.length = 5) (hk : k < 40) (_hj : j < 40) (hl : 200 ≤ l.length) : rawE (splice l (5 * k) x) j = if j = k then x else rawE l j := by
  apply List.ext_getElem?
  intro q
  unfold rawE
  rw [List.getElem?_take, List.getElem?_drop, splice_at _ _ _ _ (by omega)]
  by_cases hq : q < 5
  · rw [if_pos hq]
    by_cases hjk : j = k
    · subst hjk
      rw [if_pos (by omega), if_pos rfl]
      congr 1; omega
    · rw [if_neg (by omega), if_neg hjk, List.getElem?_take, if_pos hq, List.getElem?_drop]
  · rw [if_neg hq]
    by_cases hjk : j = k
    · rw [if_pos hjk, List.getElem?_eq_none (by omega)]
    · rw [if_neg hjk, List.getElem?_take, if_neg hq]
theorem rawR_splice (l x : Bytes) (i j : Nat) (hx : x.length = 11) (hi : i < 8) (_hj : j < 8) (hl : 288 ≤ l.length) : rawR (splice l (200 + 11 * i) x) j = if j = i then x else rawR l j := by
  apply List.ext_getElem?
  intro q
  unfold rawR
  rw [List.getElem?_take, List.getElem?_drop, splice_at _ _ _ _ (by omega)]
  by_cases hq : q < 11
  · rw [if_pos hq]
    by_cases hji : j = i
    · subst hji
      rw [if_pos (by omega), if_pos rfl]
      congr 1; omega
    · rw [if_neg (by omega), if_neg hji, List.getElem?_take, if_pos hq, List.getElem?_drop]
  · rw [if_neg hq]
    by_cases hji : j = i
    · rw [if_pos hji, List.getElem?_eq_none (by omega)]
    · rw [if_neg hji, List.getElem?_take, if_neg hq]
theorem rawR_head (l x : Bytes) (o j : Nat) (hx : o + x.length ≤ 200) (hl : 200 ≤ l.length) : rawR (splice l o x) j = rawR l j := by
  apply List.ext_getElem?
  intro q
  unfold rawR
  rw [List.getElem?_take, List.getElem?_drop, List.getElem?_take, List.getElem?_drop]
  by_cases hq : q < 11
  · rw [if_pos hq, if_pos hq, splice_at _ _ _ _ (by omega), if_neg (by omega)]
  · rw [if_neg hq, if_neg hq]
theorem ofB_two (n : Nat) (h : n < 65536) : ofB (numB n 2) = n := by
  have h1 := ofNat_mod n
  have h2 := ofNat_mod (n / 256)
  simp only [numB, ofB, h1, h2]
  omega
theorem entB_rd (a b t : Nat) (ha : a < 65536) (hb : b < 65536) (ht : t ≤ 15) : hasE (entB a b t) = true ∧ rAt (entB a b t) = a ∧ rLen (entB a b t) = b ∧ rTag (entB a b t) = t := by
  have hd : (UInt8.ofNat (t + 1)).toNat = t + 1 := by rw [UInt8.toNat_ofNat', Nat.mod_eq_of_lt (by omega)]
  have h2 : (numB a 2).length = 2 := numB_length a 2
  have h3 : (numB b 2).length = 2 := numB_length b 2
  refine ⟨?_, ?_, ?_, ?_⟩
  · unfold hasE rHd entB
    simp only [List.headD_cons]
    rw [bne_iff_ne]
    intro e
    rw [e] at hd
    simp at hd
  · unfold rAt entB
    rw [List.drop_one, List.tail_cons, List.take_append_of_le_length (by omega), List.take_of_length_le (by omega), ofB_two a ha]
  · unfold rLen entB
    rw [List.drop_succ_cons, List.drop_append, List.drop_of_length_le (by omega), h2, List.nil_append, List.drop_zero, List.take_of_length_le (by omega), ofB_two b hb]
  · unfold rTag rHd entB
    simp only [List.headD_cons]
    omega
/-- an image in which the roots from i on are none -/
def NoRoots (l : Bytes) (i : Nat) : Prop := ∀ j, i ≤ j → j < 8 → rawR l j = List.replicate 11 0
theorem rootsF_zeros (S : Nat → Bytes) (i : Nat) (h : ∀ j, i ≤ j → j < 8 → S j = List.replicate 11 0) : ∀ m, i ≤ m → m ≤ 8 → rootsF S m = rootsF S i
  | 0, h0, _ => by rw [show i = 0 by omega]
  | m + 1, h0, h8 => by
    by_cases hm : i = m + 1
    · rw [hm]
    · rw [rootsF_succ, h m (by omega) (by omega), zeros_zero, rootsF_zeros S i h m (by omega) (by omega)]
      simp
theorem rootsF_congr (S S' : Nat → Bytes) : ∀ m, (∀ j, j < m → S j = S' j) → rootsF S m = rootsF S' m
  | 0, _ => rfl
  | m + 1, h => by rw [rootsF_succ, rootsF_succ, h m (by omega), rootsF_congr S S' m (fun j hj => h j (by omega))]
theorem roots_put (l X : Bytes) (i : Nat) (hX : X.length = 11) (hi : i < 8) (hl : 288 ≤ l.length) (hz : NoRoots l i) :
    rootsL (splice l (200 + 11 * i) X) = rootsL l ++ (if zeroE X = true then [] else [rootP X]) ∧ NoRoots (splice l (200 + 11 * i) X) (i + 1) := by
  have hS : ∀ j, j < 8 → rawR (splice l (200 + 11 * i) X) j = if j = i then X else rawR l j := fun j hj => rawR_splice l X i j hX hi hj hl
  refine ⟨?_, fun j h1 h2 => by rw [hS j h2, if_neg (by omega)]; exact hz j (by omega) h2⟩
  unfold rootsL
  rw [rootsF_zeros (rawR l) i hz 8 (by omega) (by omega), rootsF_zeros (rawR (splice l (200 + 11 * i) X)) (i + 1) (fun j h1 h2 => by rw [hS j h2, if_neg (by omega)]; exact hz j (by omega) h2) 8 (by omega) (by omega),
    rootsF_succ, hS i hi, if_pos rfl, rootsF_congr (rawR (splice l (200 + 11 * i) X)) (rawR l) i (fun j hj => by rw [hS j (by omega), if_neg (by omega)])]
theorem idrop_e (A : Option Addr) (n c : Nat) (h k : Int) (w : World) (hget : Calls Tryz.prog 49 #[.slice A n c, .int .i64 h] w fun e w' => e = .returned (.tuple #[entV 0 0 0 0, .iface 88 (.int .i64 k)]) ∧ Below w.heap.size w w') :
    Calls Tryz.prog 54 #[.slice A n c, .int .i64 h] w fun e w' => e = .returned (.tuple #[.slice none 0 0, .iface 88 (.int .i64 k)]) ∧ Below w.heap.size w w' := by
  have HG := Hidden.mk hget
  unfold entV at HG
  clear hget
  go_enter Tryz.func54, Tryz.ntmps54
  go_wp2_with fail
  refine HG.out.mono ?_
  rintro e w1 ⟨rfl, hb1⟩
  have hB2 : Below w.heap.size w (w1.alloc (.cells #[.int .i64 0, .int .i64 0, .int .i64 0, .int .i64 0] 97)) := hb1.alloc hb1.size _
  clear hb1
  go_wp2_with fail
  go_ret2
  exact ⟨rfl, hB2⟩
end Go.Proofs.YtcahgmnkphmnhaaGreat
/- An image that is right, plainly: its handles, its roots; what stays right. No walk here. -/
namespace Go.Proofs.YtcahgmnkphmnhaaGreat
open Go.RowKit

/-- which handles have an object -/
def leadsS (R : Nat → Bytes) (x : UInt8) : Bool := (List.range 40).any fun k => hasE (R k) && x.toNat == k + 1
/-- an image of n bytes that is right: R its handles, S its roots -/
structure GoodS (n : Nat) (R S : Nat → Bytes) : Prop where
  none : ∀ k, k < 40 → hasE (R k) = false → zeroE (R k) = true
  fit : ∀ k, k < 40 → hasE (R k) = true → strayE n (R k) = false
  apart : ∀ k, k < 40 → ∀ j, j < k → hasE (R k) = true → hasE (R j) = true → overE (R k) (R j) = false
  root : ∀ i, i < 8 → zeroE (S i) = false → badR (leadsS R) (S i) = false
  name : ∀ i, i < 8 → ∀ j, j < i → zeroE (S i) = false → zeroE (S j) = false → nmR (S i) ≠ nmR (S j)
structure Good (l : Bytes) : Prop where
  len : rightB l.length = true
  chk : checkL l = []
theorem checkL_nil {l : Bytes} : checkL l = [] ↔ (∀ k, k < 40 → kindH l.length (rawE l) k = 0 ∨ kindH l.length (rawE l) k = 6) ∧ (∀ i, i < 8 → kindR (leadsE l.length (rawE l)) (rawR l) i = 0 ∨ kindR (leadsE l.length (rawE l)) (rawR l) i = 6) := by
  constructor
  · intro h
    have hn : ∀ f, f ∉ checkL l := fun f hf => by rw [h] at hf; cases hf
    refine ⟨fun k hk => ?_, fun i hi => ?_⟩
    · exact Classical.byContradiction fun hc => hn _ (mem_checkL.2 (.inl ⟨k, hk, hc, rfl⟩))
    · exact Classical.byContradiction fun hc => hn _ (mem_checkL.2 (.inr ⟨i, hi, hc, rfl⟩))
  · rintro ⟨h1, h2⟩
    refine List.eq_nil_iff_forall_not_mem.2 fun f hf => ?_
    rcases mem_checkL.1 hf with ⟨k, hk, hn, _⟩ | ⟨i, hi, hn, _⟩
    · exact hn (h1 k hk)
    · exact hn (h2 i hi)
theorem overE_symm (r s : Bytes) : overE r s = overE s r := by unfold overE; rw [Bool.and_comm]
theorem kindH_has {n : Nat} {R : Nat → Bytes} {k : Nat} (h : kindH n R k = 0 ∨ kindH n R k = 6) : (hasE (R k) = true → kindH n R k = 6 ∧ strayE n (R k) = false ∧ (List.range k).any (fun j => wholeE n (R j) && overE (R k) (R j)) = false) ∧ (hasE (R k) = false → kindH n R k = 0 ∧ zeroE (R k) = true) := by
  unfold kindH at h ⊢
  constructor
  · intro hh
    rw [if_pos hh] at h ⊢
    cases hs : strayE n (R k) with
    | true => rw [hs] at h; simp at h
    | false =>
      rw [hs] at h
      cases ha : (List.range k).any (fun j => wholeE n (R j) && overE (R k) (R j)) with
      | true => rw [ha] at h; simp at h
      | false => simp
  · intro hh
    rw [if_neg (by rw [hh]; decide)] at h ⊢
    cases hz : zeroE (R k) with
    | true => simp
    | false => rw [hz] at h; simp at h
theorem leads_eq {n : Nat} {R : Nat → Bytes} (h : ∀ k, k < 40 → (kindH n R k = 6 ↔ hasE (R k) = true)) : leadsE n R = leadsS R := by
  funext x
  unfold leadsE leadsS
  have : ∀ k ∈ List.range 40, (kindH n R k == 6 && x.toNat == k + 1) = (hasE (R k) && x.toNat == k + 1) := fun k hk => by
    have := h k (List.mem_range.1 hk)
    congr 1
    rw [Bool.eq_iff_iff, beq_iff_eq]
    exact this
  rw [Bool.eq_iff_iff, List.any_eq_true, List.any_eq_true]
  constructor
  · rintro ⟨k, hk, h⟩; exact ⟨k, hk, (this k hk) ▸ h⟩
  · rintro ⟨k, hk, h⟩; exact ⟨k, hk, (this k hk).symm ▸ h⟩
theorem kinds_good {n : Nat} {R S : Nat → Bytes} : ((∀ k, k < 40 → kindH n R k = 0 ∨ kindH n R k = 6) ∧ (∀ i, i < 8 → kindR (leadsE n R) S i = 0 ∨ kindR (leadsE n R) S i = 6)) ↔ GoodS n R S := by
  constructor
  · rintro ⟨hH, hR⟩
    have hle : leadsE n R = leadsS R := leads_eq fun k hk => by
      have := kindH_has (hH k hk)
      constructor
      · intro h6
        cases hh : hasE (R k) with
        | true => rfl
        | false => have := (this.2 hh).1; omega
      · intro hh; exact (this.1 hh).1
    rw [hle] at hR
    have hr : ∀ i, i < 8 → zeroE (S i) = false → badR (leadsS R) (S i) = false ∧ (List.range i).any (fun j => okR (leadsS R) (S j) && (nmR (S i) == nmR (S j))) = false := fun i hi hz => by
      have h := hR i hi
      unfold kindR at h
      rw [if_neg (by rw [hz]; decide)] at h
      cases hb : badR (leadsS R) (S i) with
      | true => rw [hb] at h; simp at h
      | false =>
        rw [hb] at h
        cases ha : (List.range i).any (fun j => okR (leadsS R) (S j) && (nmR (S i) == nmR (S j))) with
        | true => rw [ha] at h; simp at h
        | false => simp
    refine ⟨fun k hk hh => ((kindH_has (hH k hk)).2 hh).2, fun k hk hh => ((kindH_has (hH k hk)).1 hh).2.1, fun k hk j hj hh hh' => ?_, fun i hi hz => (hr i hi hz).1, fun i hi j hj hz hz' => ?_⟩
    · have h1 := ((kindH_has (hH k hk)).1 hh).2.2
      have h2 := ((kindH_has (hH j (by omega))).1 hh').2.1
      rw [List.any_eq_false] at h1
      have h3 := h1 j (List.mem_range.2 hj)
      unfold wholeE at h3
      rw [hh', h2] at h3
      simpa using h3
    · have h1 := (hr i hi hz).2
      have h2 := (hr j (by omega) hz').1
      rw [List.any_eq_false] at h1
      have h3 := h1 j (List.mem_range.2 hj)
      unfold okR at h3
      rw [hz', h2] at h3
      simpa using h3
  · intro g
    have hH : ∀ k, k < 40 → (hasE (R k) = true → kindH n R k = 6) ∧ (hasE (R k) = false → kindH n R k = 0) := fun k hk => by
      unfold kindH
      constructor
      · intro hh
        rw [if_pos hh, if_neg (by rw [g.fit k hk hh]; decide), if_neg]
        rw [Bool.not_eq_true, List.any_eq_false]
        intro j hj
        have hj := List.mem_range.1 hj
        cases hh' : hasE (R j) with
        | false => simp [wholeE, hh']
        | true => rw [g.apart k hk j hj hh hh']; simp
      · intro hh
        rw [if_neg (by rw [hh]; decide), if_pos (g.none k hk hh)]
    have hle : leadsE n R = leadsS R := leads_eq fun k hk => by
      constructor
      · intro h6
        cases hh : hasE (R k) with
        | true => rfl
        | false => have := (hH k hk).2 hh; omega
      · intro hh; exact (hH k hk).1 hh
    rw [hle]
    refine ⟨fun k hk => ?_, fun i hi => ?_⟩
    · cases hh : hasE (R k) with
      | true => exact .inr ((hH k hk).1 hh)
      | false => exact .inl ((hH k hk).2 hh)
    · unfold kindR
      cases hz : zeroE (S i) with
      | true => left; simp
      | false =>
        right
        rw [if_neg (by decide), if_neg (by rw [g.root i hi hz]; decide), if_neg]
        rw [Bool.not_eq_true, List.any_eq_false]
        intro j hj
        have hj := List.mem_range.1 hj
        cases hz' : zeroE (S j) with
        | true => simp [okR, hz']
        | false =>
          have := g.name i hi j hj hz hz'
          simp [this]
theorem good_iff {l : Bytes} : Good l ↔ rightB l.length = true ∧ GoodS l.length (rawE l) (rawR l) := by
  constructor
  · rintro ⟨h1, h2⟩; exact ⟨h1, kinds_good.1 (checkL_nil.1 h2)⟩
  · rintro ⟨h1, h2⟩; exact ⟨h1, checkL_nil.2 (kinds_good.2 h2)⟩
theorem Good.s {l : Bytes} (h : Good l) : GoodS l.length (rawE l) (rawR l) := (good_iff.1 h).2
theorem Good.bd {l : Bytes} (h : Good l) : 288 ≤ l.length ∧ l.length ≤ 6400 := by have := rightB_true.1 h.len; omega
section
variable {n : Nat} {R R' S S' : Nat → Bytes}
theorem leadsS_iff {x : UInt8} : leadsS R x = true ↔ ∃ k, k < 40 ∧ hasE (R k) = true ∧ x.toNat = k + 1 := by
  unfold leadsS
  rw [List.any_eq_true]
  simp only [List.mem_range, Bool.and_eq_true, beq_iff_eq]
theorem badR_mono {L L' : UInt8 → Bool} {r : Bytes} (h : badR L r = false) (hm : L (r.getD 10 0) = true → L' (r.getD 10 0) = true) : badR L' r = false := by
  unfold badR at h ⊢
  simp only [Bool.or_eq_false_iff, Bool.not_eq_false'] at h ⊢
  exact ⟨h.1, hm h.2⟩
theorem badR_lead {L : UInt8 → Bool} {r : Bytes} (h : badR L r = false) : L (r.getD 10 0) = true := by
  unfold badR at h
  simp only [Bool.or_eq_false_iff, Bool.not_eq_false'] at h
  exact h.2
/-- an entry that is put -/
theorem GoodS.putE (g : GoodS n R S) (k : Nat) (hk : k < 40) (r : Bytes) (h' : ∀ j, j < 40 → R' j = if j = k then r else R j) (hr : hasE r = true) (hs : strayE n r = false) (ho : ∀ j, j < 40 → j ≠ k → hasE (R j) = true → overE r (R j) = false) : GoodS n R' S where
  none j hj hh := by
    rw [h' j hj] at hh ⊢
    by_cases e : j = k
    · rw [if_pos e, hr] at hh; cases hh
    · rw [if_neg e] at hh ⊢; exact g.none j hj hh
  fit j hj hh := by
    rw [h' j hj] at hh ⊢
    by_cases e : j = k
    · rw [if_pos e]; exact hs
    · rw [if_neg e] at hh ⊢; exact g.fit j hj hh
  apart i hi j hj hh hh' := by
    rw [h' i hi] at hh ⊢
    rw [h' j (by omega)] at hh' ⊢
    by_cases e : i = k
    · rw [if_pos e, if_neg (by omega)]
      rw [if_neg (by omega)] at hh'
      exact ho j (by omega) (by omega) hh'
    · rw [if_neg e] at hh ⊢
      by_cases e' : j = k
      · rw [if_pos e', overE_symm]
        exact ho i hi (by omega) hh
      · rw [if_neg e'] at hh' ⊢
        exact g.apart i hi j hj hh hh'
  root i hi hz := badR_mono (g.root i hi hz) fun hl => by
    obtain ⟨j, hj, hh, hx⟩ := leadsS_iff.1 hl
    refine leadsS_iff.2 ⟨j, hj, ?_, hx⟩
    rw [h' j hj]
    by_cases e : j = k
    · rw [if_pos e]; exact hr
    · rw [if_neg e]; exact hh
  name := g.name
/-- an entry that is dropped: no root leads to it -/
theorem GoodS.dropE (g : GoodS n R S) (k : Nat) (_hk : k < 40) (h' : ∀ j, j < 40 → R' j = if j = k then List.replicate 5 0 else R j) (hno : ∀ i, i < 8 → zeroE (S i) = false → ((S i).getD 10 0).toNat ≠ k + 1) : GoodS n R' S where
  none j hj hh := by
    rw [h' j hj] at hh ⊢
    by_cases e : j = k
    · rw [if_pos e]; exact zeros_zero 5
    · rw [if_neg e] at hh ⊢; exact g.none j hj hh
  fit j hj hh := by
    rw [h' j hj] at hh ⊢
    by_cases e : j = k
    · rw [if_pos e, zeros_has] at hh; cases hh
    · rw [if_neg e] at hh ⊢; exact g.fit j hj hh
  apart i hi j hj hh hh' := by
    rw [h' i hi] at hh ⊢
    rw [h' j (by omega)] at hh' ⊢
    by_cases e : i = k
    · rw [if_pos e, zeros_has] at hh; cases hh
    · by_cases e' : j = k
      · rw [if_pos e', zeros_has] at hh'; cases hh'
      · rw [if_neg e] at hh ⊢
        rw [if_neg e'] at hh' ⊢
        exact g.apart i hi j hj hh hh'
  root i hi hz := badR_mono (g.root i hi hz) fun hl => by
    obtain ⟨j, hj, hh, hx⟩ := leadsS_iff.1 hl
    refine leadsS_iff.2 ⟨j, hj, ?_, hx⟩
    rw [h' j hj]
    by_cases e : j = k
    · exact absurd (by omega) (hno i hi hz)
    · rw [if_neg e]; exact hh
  name := g.name
/-- a root that is put, or nothing in its place -/
theorem GoodS.putR (g : GoodS n R S) (i : Nat) (r : Bytes) (h' : ∀ j, j < 8 → S' j = if j = i then r else S j) (hr : zeroE r = true ∨ (badR (leadsS R) r = false ∧ ∀ j, j < 8 → j ≠ i → zeroE (S j) = false → nmR r ≠ nmR (S j))) : GoodS n R S' where
  none := g.none
  fit := g.fit
  apart := g.apart
  root j hj hz := by
    rw [h' j hj] at hz ⊢
    by_cases e : j = i
    · rw [if_pos e] at hz ⊢
      rcases hr with h | h
      · rw [h] at hz; cases hz
      · exact h.1
    · rw [if_neg e] at hz ⊢; exact g.root j hj hz
  name a ha b hb hz hz' := by
    rw [h' a ha] at hz ⊢
    rw [h' b (by omega)] at hz' ⊢
    by_cases e : a = i
    · rw [if_pos e] at hz ⊢
      rw [if_neg (by omega)] at hz' ⊢
      rcases hr with h | h
      · rw [h] at hz; cases hz
      · exact h.2 b (by omega) (by omega) hz'
    · rw [if_neg e] at hz ⊢
      by_cases e' : b = i
      · rw [if_pos e'] at hz' ⊢
        rcases hr with h | h
        · rw [h] at hz'; cases hz'
        · exact (h.2 a ha e hz).symm
      · rw [if_neg e'] at hz' ⊢; exact g.name a ha b hb hz hz'
end
theorem zeros_cut' (n a m : Nat) (h : a + m ≤ n) : ((List.replicate n (0 : UInt8)).drop a).take m = List.replicate m 0 := by
  rw [List.drop_replicate, List.take_replicate]; congr 1; omega
/-- an image of nothing -/
theorem good_zero' {n : Nat} (h : rightB n = true) : Good (List.replicate n 0) := by
  have hb := rightB_true.1 h
  have hE : ∀ k, k < 40 → rawE (List.replicate n 0) k = List.replicate 5 0 := fun k hk => zeros_cut' n (5 * k) 5 (by omega)
  have hR : ∀ i, i < 8 → rawR (List.replicate n 0) i = List.replicate 11 0 := fun i hi => zeros_cut' n (200 + 11 * i) 11 (by omega)
  refine good_iff.2 ⟨by rw [List.length_replicate]; exact h, ⟨fun k hk _ => by rw [hE k hk]; exact zeros_zero 5, fun k hk hh => ?_, fun k hk j hj hh _ => ?_, fun i hi hz => ?_, fun i hi j hj hz _ => ?_⟩⟩
  · rw [hE k hk, zeros_has] at hh; cases hh
  · rw [hE k hk, zeros_has] at hh; cases hh
  · rw [hR i hi, zeros_zero] at hz; cases hz
  · rw [hR i hi, zeros_zero] at hz; cases hz
end Go.Proofs.YtcahgmnkphmnhaaGreat
/- The reference's Check: a row of numbers in memory; what is wrong with handles. -/
namespace Go.Proofs.YtcahgmnkphmnhaaGreat
open Go.RowKit

def updI (f : Nat → Int) (i : Nat) (v : Int) (j : Nat) : Int := if j = i then v else f j
/-- block g is a row of N numbers -/
structure IRow (w : World) (g N : Nat) (f : Nat → Int) : Prop where
  out : ∃ cur, w.heap[g]? = some (.cells cur 3 (0, 0)) ∧ cur.size = N ∧ ∀ i, i < N → cur[i]? = some (.int .i64 (f i))
section
variable {w w' : World} {g N : Nat} {f : Nat → Int}
theorem IRow.cell (h : IRow w g N f) (i : Nat) (hi : i < N) : w.cell? ⟨g, i, none⟩ = some (.int .i64 (f i)) := by
  obtain ⟨cur, h0, h1, h2⟩ := h.out
  rw [cell_of_row w g i cur _ _ h0]; exact h2 i hi
theorem IRow.frozen (h : IRow w g N f) (i : Nat) : w.frozen? ⟨g, i, none⟩ = false := by
  obtain ⟨cur, h0, _⟩ := h.out
  exact frozen_of_row w g i _ _ h0
theorem IRow.set (h : IRow w g N f) (i : Nat) (v : Int) : IRow (w.setCell ⟨g, i, none⟩ (.int .i64 v)) g N (updI f i v) := by
  obtain ⟨cur, h0, h1, h2⟩ := h.out
  refine ⟨cur.setIfInBounds i (.int .i64 v), heap_setK h0 _, by simpa using h1, fun j hj => ?_⟩
  rw [Array.getElem?_setIfInBounds]
  unfold updI
  by_cases hij : i = j
  · rw [if_pos hij, if_pos (by omega), if_pos hij.symm]
  · rw [if_neg hij, if_neg (fun e => hij e.symm)]; exact h2 j hj
theorem IRow.block (h : IRow w g N f) (hb : w'.heap[g]? = w.heap[g]?) : IRow w' g N f := by
  obtain ⟨cur, h0, h1⟩ := h.out
  exact ⟨cur, hb.trans h0, h1⟩
theorem IRow.lt (h : IRow w g N f) : g < w.heap.size := by
  obtain ⟨cur, h0, _⟩ := h.out
  exact (Array.getElem?_eq_some_iff.1 h0).1
theorem IRow.below (h : IRow w g N f) (hb : Below w.heap.size w w') : IRow w' g N f := h.block (hb.block _ h.lt)
theorem IRow.congr {f' : Nat → Int} (h : IRow w g N f) (he : ∀ i, i < N → f i = f' i) : IRow w g N f' := by
  obtain ⟨cur, h0, h1, h2⟩ := h.out
  exact ⟨cur, h0, h1, fun i hi => by rw [h2 i hi, he i hi]⟩
theorem IRow.ne (h : IRow w g N f) {base : Nat} {e : TypeId} {size n : Nat} {v : Value} {xs : List Value} (h2 : w.ownsRow base e size v n xs) (hne : e ≠ 3) : v.ownBlock ≠ some g := fun he => by
  obtain ⟨cur, h0, _⟩ := h.out
  rcases h2.2 with ⟨rfl, _⟩ | ⟨g', cap', cur', rfl, _, hh', _⟩
  · simp [Value.ownBlock] at he
  · obtain rfl : g' = g := by simpa [Value.ownBlock] using he
    rw [h0] at hh'
    injection hh' with hh'
    injection hh' with _ hh'
    exact hne hh'.symm
theorem IRow.grown (h : IRow w g N f) {v : Value} (hg : w.grownBy w' v.ownBlock) (hne : v.ownBlock ≠ some g) : IRow w' g N f := h.block (hg.block g h.lt (fun e => hne e.symm))
end
theorem int_infoC : (Tryz.prog.info? 3).map (fun i => (i.zero, i.size, i.bytes)) = some (some (.int .i64 0), 1, 8) := by kernel_rfl
/-- make([]int, n) -/
theorem mk_ints (n : Nat) (hn : n ≤ 35184372088832) (w : World) :
    (Instr.makeSlice 24 (.int .i64 n) (.int .i64 n)).run Tryz.prog w = .ok (.slice (some ⟨w.heap.size, 0, none⟩) n n) (w.alloc (.cells (Array.replicate n (.int .i64 0)) 3)) := by
  obtain ⟨i0, hi0, hz0, hz1, hz2⟩ := info_parts int_infoC
  have hr := run_make (P := Tryz.prog) w 24 3 i0 _ Tryz.underlying24 hi0 hz0 .i64 .i64 n n (by omega) (by omega) (by rw [hz2]; omega) (by omega)
  simp only [Int.toNat_natCast, hz1, Nat.mul_one] at hr
  have hcells : madeCells (Value.int IntKind.i64 0).cells n = Array.replicate n (.int .i64 0) := by
    apply Array.ext'
    rw [show (Value.int IntKind.i64 0).cells = #[Value.int IntKind.i64 0] from rfl, toList_madeCells_one]
    simp
  rw [hcells] at hr
  exact hr
theorem IRow.new (w : World) (n : Nat) : IRow (w.alloc (.cells (Array.replicate n (.int .i64 0)) 3)) w.heap.size n (fun _ => 0) :=
  ⟨_, heap_alloc_new w _, by simp, fun i hi => by simp [hi]⟩
/-- what the reference notes of a handle -/
def wvK (k : Nat) : Int := if k = 6 then 1 else if k = 2 then 2 else if k = 1 then 3 else 0
def whatF (n : Nat) (R : Nat → Bytes) (m i : Nat) : Int := if 1 ≤ i ∧ i ≤ m then wvK (kindH n R (i - 1)) else 0
theorem whatF_succ (n : Nat) (R : Nat → Bytes) (k i : Nat) : whatF n R (k + 1) i = updI (whatF n R k) (k + 1) (wvK (kindH n R k)) i := by
  unfold whatF updI
  by_cases h : i = k + 1
  · rw [if_pos (by omega), if_pos h, h]; rfl
  · rw [if_neg h]
    dsimp only
    by_cases h2 : 1 ≤ i ∧ i ≤ k
    · rw [if_pos (by omega), if_pos h2]
    · rw [if_neg (by omega), if_neg h2]
theorem whatF_zero (n : Nat) (R : Nat → Bytes) (k : Nat) (h : wvK (kindH n R k) = 0) (i : Nat) : whatF n R (k + 1) i = whatF n R k i := by
  rw [whatF_succ]
  unfold updI
  by_cases hi : i = k + 1
  · rw [if_pos hi, h, hi]; unfold whatF; rw [if_neg (by omega)]
  · rw [if_neg hi]
theorem whatF_at (n : Nat) (R : Nat → Bytes) (k j : Nat) (h : j < k) : whatF n R k (j + 1) = wvK (kindH n R j) := by
  unfold whatF; rw [if_pos (by omega)]; rfl
theorem wv_whole (n : Nat) (R : Nat → Bytes) (j : Nat) : wholeE n (R j) = (decide (wvK (kindH n R j) = 1) || decide (wvK (kindH n R j) = 2)) := by
  obtain ⟨b, hb⟩ : ∃ b, (List.range j).any (fun i => wholeE n (R i) && overE (R j) (R i)) = b := ⟨_, rfl⟩
  unfold kindH
  rw [hb]
  unfold wholeE wvK
  cases hasE (R j) <;> cases strayE n (R j) <;> cases b <;> cases zeroE (R j) <;> simp
theorem updI_same (f : Nat → Int) (i : Nat) (a b : Int) (j : Nat) : updI (updI f i a) i b j = updI f i b j := by
  unfold updI; split <;> rfl
theorem zero5 (r : Bytes) (h5 : r.length = 5) (h0 : hasE r = false) : zeroE r = (decide (rAt r = 0) && decide (rLen r = 0)) := by
  match r, h5 with
  | [a, b, c, d, e], _ =>
    have hz : ∀ x : UInt8, x = 0 ↔ x.toNat = 0 := fun x => by rw [← UInt8.toNat_inj]; rfl
    have ha : a = 0 := by simpa [hasE, rHd] using h0
    subst ha
    have hA : rAt [0, b, c, d, e] = b.toNat + 256 * c.toNat := by simp [rAt, ofB]
    have hL : rLen [0, b, c, d, e] = d.toNat + 256 * e.toNat := by simp [rLen, ofB]
    rw [hA, hL]
    by_cases h : b = 0 ∧ c = 0 ∧ d = 0 ∧ e = 0
    · obtain ⟨rfl, rfl, rfl, rfl⟩ := h
      decide
    · have h' : ¬ (b.toNat = 0 ∧ c.toNat = 0 ∧ d.toNat = 0 ∧ e.toNat = 0) := fun hh => h ⟨(hz b).2 hh.1, (hz c).2 hh.2.1, (hz d).2 hh.2.2.1, (hz e).2 hh.2.2.2⟩
      have e1 : zeroE [0, b, c, d, e] = false := by
        cases hq : zeroE [0, b, c, d, e] with
        | false => rfl
        | true =>
          exfalso
          apply h
          simpa [zeroE, nonZero] using hq
      rw [e1]
      symm
      rw [Bool.and_eq_false_iff, decide_eq_false_iff_not, decide_eq_false_iff_not]
      omega
theorem stray_entE (n : Nat) (k : Nat) (hk : k < 40) (r : Bytes) : (entE n ((k : Int) + 1) (rAt r) (rLen r) (rTag r) = 0 ↔ strayE n r = false) := by
  have hh : handleB ((k : Int) + 1) = true := handleB_true.2 (by omega)
  unfold entE strayE
  rw [hh]
  cases tagB (rTag r) <;> cases lenB (rLen r) <;> cases withinB n (rAt r) (rLen r) <;> simp
/-- over one of the first j -/
def anyO (n : Nat) (R : Nat → Bytes) (k j : Nat) : Bool := (List.range j).any fun i => wholeE n (R i) && overE (R k) (R i)
theorem anyO_succ (n : Nat) (R : Nat → Bytes) (k j : Nat) : anyO n R k (j + 1) = (anyO n R k j || (wholeE n (R j) && overE (R k) (R j))) := by
  unfold anyO; rw [List.range_succ, List.any_append]; simp
theorem wvK_one {k : Nat} (n : Nat) (R : Nat → Bytes) : wvK (kindH n R k) = 1 ↔ kindH n R k = 6 := by
  rcases kindH_cases n R k with h | h | h | h | h <;> rw [h] <;> decide
theorem leads_what (n : Nat) (R : Nat → Bytes) (x : UInt8) : leadsE n R x = (handleB (x.toNat : Int) && decide (whatF n R 40 x.toNat = 1)) := by
  rw [Bool.eq_iff_iff, Bool.and_eq_true, decide_eq_true_eq, handleB_true]
  unfold leadsE
  rw [List.any_eq_true]
  constructor
  · rintro ⟨k, hk, h⟩
    have hk := List.mem_range.1 hk
    simp only [Bool.and_eq_true, beq_iff_eq] at h
    rw [h.2]
    exact ⟨by omega, by rw [whatF_at n R 40 k hk]; exact (wvK_one n R).2 h.1⟩
  · rintro ⟨hx, h⟩
    refine ⟨x.toNat - 1, List.mem_range.2 (by omega), ?_⟩
    have e : x.toNat = x.toNat - 1 + 1 := by omega
    rw [e, whatF_at n R 40 (x.toNat - 1) (by omega)] at h
    simp only [Bool.and_eq_true, beq_iff_eq]
    exact ⟨(wvK_one n R).1 h, e⟩
set_option maxRecDepth 100000 in
/-- the loop over the overlaps of one handle, told as a step -/
theorem any_next (n : Nat) (R : Nat → Bytes) (k j : Nat) (f : Nat → Int) (i : Nat) :
    updI f (k + 1) (if anyO n R k (j + 1) = true then 2 else 1) i = if (wholeE n (R j) && overE (R k) (R j)) = true then updI (updI f (k + 1) (if anyO n R k j = true then 2 else 1)) (k + 1) 2 i else updI f (k + 1) (if anyO n R k j = true then 2 else 1) i := by
  rw [anyO_succ]
  cases (wholeE n (R j) && overE (R k) (R j)) with
  | true => rw [Bool.or_true, if_pos rfl, if_pos rfl, updI_same]
  | false => rw [Bool.or_false, if_neg (show ¬ false = true by decide)]
end Go.Proofs.YtcahgmnkphmnhaaGreat
