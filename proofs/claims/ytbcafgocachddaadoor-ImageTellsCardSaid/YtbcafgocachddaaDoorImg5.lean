/- The contracts of image.Entries, Roots and Drop, and of image.Get where there is none. -/
import Derived.Test.YtbcafgocachddaaDoorChk4
import Derived.Test.YtbcafgocachddaaDoorApp
import Derived.Deep.LoopGhost
namespace Go.Proofs.YtbcafgocachddaaDoor
open Go.RowKit

/-- the entries of an image -/
def entriesL (l : Bytes) : List (Int × Bytes) := entsL (fun k => hasE (rawE l k)) (rawE l) 40
theorem ientries_no (A : Option Addr) (n c : Nat) (w : World) (hr : rightB n = false) :
    Calls Tryd.prog 14 #[.slice A n c] w fun e w' => e = .returned (.tuple #[.slice none 0 0, .iface 132 (.int .i64 3)]) ∧ w = w' := by
  go_enter Tryd.func14, Tryd.ntmps14
  go_wp2_with fail
  refine (check_e3 A n c 1 _ hr).mono ?_
  rintro e w1 ⟨rfl, rfl⟩
  go_wp2_with fail
  go_ret2
  exact ⟨rfl, rfl⟩
set_option maxRecDepth 100000 in
theorem ientries_ok (A : Option Addr) (n c : Nat) (l : Bytes) (w : World) (hn : l.length = n) (hr : rightB n = true) (hnc : n ≤ c) (hrd : Rd w A l) :
    Calls Tryd.prog 14 #[.slice A n c] w fun e w' => ∃ v, e = .returned (.tuple #[v, .nilIface]) ∧ w'.ownsRow w.heap.size 26 4 v (entriesL l).length ((entriesL l).flatMap ecells) ∧ Below w.heap.size w w' := by
  have hnb := rightB_true.1 hr
  obtain ⟨i2, hi2, hx0, hx1, hx2⟩ := info_parts entry_info
  have HF : Hidden (∀ k : Nat, k < 40 → ∀ W, Below w.heap.size w W → Calls Tryd.prog 79 #[.slice A n c, .int .i64 ((k : Int) + 1)] W fun e w' => e = .returned (.tuple #[entV ((k : Int) + 1) (rAt (rawE l k)) (rLen (rawE l k)) (rTag (rawE l k)), .bool (hasE (rawE l k))]) ∧ Below W.heap.size W w') :=
    ⟨fun k hk W hW => find_ok A n c l k W hn (by omega) hnc (hrd.below hW) hk⟩
  have HL : Hidden (entriesL l = entsL (fun k => hasE (rawE l k)) (rawE l) 40) := ⟨rfl⟩
  generalize rawE l = R at *
  clear hrd hn
  go_enter Tryd.func14, Tryd.ntmps14
  go_wp2_with fail
  refine (check_ok A n c 1 _ hr (by decide)).mono ?_
  rintro e w1 ⟨rfl, rfl⟩
  go_wp2_with fail
  go_loopg [5, 6] 40 (fun m v h wr => ∃ k : Nat, k ≤ 40 ∧ m = 40 - k ∧ h = .int .i64 ((k : Int) + 1) ∧ Below w.heap.size w wr ∧ wr.ownsRow w.heap.size 26 4 v (entsL (fun k => hasE (R k)) R k).length ((entsL (fun k => hasE (R k)) R k).flatMap ecells))
  case atStart => exact ⟨0, by omega, rfl, rfl, Below.refl _ _, World.ownsRow_nil _ _ _ _⟩
  case round =>
    obtain ⟨k, hk, rfl, rfl, hbel, hown⟩ := hrel
    by_cases hlt : k < 40
    · have k0 : ((k : Int) + 1) ≤ 40 := by omega
      have s1 : IntKind.i64.wrap ((k : Int) + 1 + 1) = (k : Int) + 1 + 1 := IntWalk.i64_in _ (by omega)
      have hll := entsL_len (fun k => hasE (R k)) R k
      have HS := Hidden.mk (entsL_succ (fun k => hasE (R k)) R k)
      have HG := Hidden.mk (HF.out k hlt wr hbel)
      have HC : Hidden (ecells (((k : Int) + 1), R k) = [.int .i64 ((k : Int) + 1), .int .i64 (rAt (R k)), .int .i64 (rLen (R k)), .int .i64 (rTag (R k))]) := ⟨rfl⟩
      generalize entsL (fun k => hasE (R k)) R k = L at *
      go_wp2_with fail
      refine HG.out.mono ?_
      rintro e w1 ⟨rfl, hb1⟩
      generalize (rAt (R k) : Int) = a1 at *
      generalize (rLen (R k) : Int) = a2 at *
      generalize rTag (R k) = a3 at *
      have hB1 := hbel.trans (hb1.mono hbel.size)
      have hown1 := own_below hown hb1
      have hal : Below w1.heap.size w1 (w1.alloc (.cells #[.int .i64 ((k : Int) + 1), .int .i64 a1, .int .i64 a2, .int .i64 a3] 26)) := (Below.refl _ _).alloc (Nat.le_refl _) _
      have hB2 : Below w.heap.size w (w1.alloc (.cells #[.int .i64 ((k : Int) + 1), .int .i64 a1, .int .i64 a2, .int .i64 a3] 26)) := hB1.alloc hB1.size _
      have hown2 := own_below hown1 hal
      have hbx : (w1.alloc (.cells #[.int .i64 ((k : Int) + 1), .int .i64 a1, .int .i64 a2, .int .i64 a3] 26)).heap[w1.heap.size]? = some (.cells #[.int .i64 ((k : Int) + 1), .int .i64 a1, .int .i64 a2, .int .i64 a3] 26 (0, 0)) := heap_alloc_new w1 _
      clear hal hown hown1 hbel hB1 hb1
      cases hE : hasE (R k) with
      | false =>
        rw [hE] at HS
        go_wp2_with fail
        generalize w1.alloc (.cells #[.int .i64 ((k : Int) + 1), .int .i64 a1, .int .i64 a2, .int .i64 a3] 26) = w2 at *
        go_roundg (40 - (k + 1))
        case measure => omega
        case rel => exact ⟨k + 1, by omega, rfl, by go_num, hB2, by rw [HS.out]; simpa using hown2⟩
      | true =>
        rw [hE] at HS
        clear hE hbx
        have hnb : ((w1.alloc (.cells #[.int .i64 ((k : Int) + 1), .int .i64 a1, .int .i64 a2, .int .i64 a3] 26)).alloc (.cells #[.int .i64 ((k : Int) + 1), .int .i64 a1, .int .i64 a2, .int .i64 a3] 26)).heap[w1.heap.size + 1]? = some (.cells #[.int .i64 ((k : Int) + 1), .int .i64 a1, .int .i64 a2, .int .i64 a3] 26) := by
          have := heap_alloc_new (w1.alloc (.cells #[.int .i64 ((k : Int) + 1), .int .i64 a1, .int .i64 a2, .int .i64 a3] 26)) (.cells #[.int .i64 ((k : Int) + 1), .int .i64 a1, .int .i64 a2, .int .i64 a3] 26)
          rwa [World.size_alloc] at this
        have HNB := Hidden.mk hnb
        have HOW := Hidden.mk hown2
        have HBB := Hidden.mk hB2
        clear hnb hown2 hB2
        go_wp2_with (at_builtin; refine wpList_append_lies _ rfl (.tmp 25) (.tmp 27) _ rfl w.heap.size 26 i2 _ 4 32 Tryd.underlying35 hi2 hx0 hx1 hx2 rfl (by decide) u5 L.length (L.flatMap ecells) rfl (own_below HOW.out ((Below.refl _ _).alloc (Nat.le_refl _) _)) ⟨w1.heap.size + 1, 0, none⟩ 1 1 [.int .i64 ((k : Int) + 1), .int .i64 a1, .int .i64 a2, .int .i64 a3] rfl rfl (World.news_of_block (cs := #[.int .i64 ((k : Int) + 1), .int .i64 a1, .int .i64 a2, .int .i64 a3]) (t := 26) (fr := (0, 0)) HNB.out) (by simp [Value.oneCell']) (by omega) (by simp only [maxLen]; omega) (by omega) (by have := HBB.out.size; simp at this ⊢; omega) (w1.heap.size + 2) (by simp) ?_; intro g8 cap8 w8 hown8 hg8 hat8 hlt8)
        have hown2 := HOW.out
        have hB2 := HBB.out
        have hgW := grown_trans' ((Below.refl _ _).alloc (Nat.le_refl _) _) hg8
        have hB8 : Below w.heap.size w w8 := hB2.grown hgW hB2.size (fun q hq => (hown2.lt q hq).1)
        clear hown2 hB2 hg8 hgW hat8 hlt8
        go_roundg (40 - (k + 1))
        case measure => omega
        case rel => exact ⟨k + 1, by omega, rfl, by go_num, hB8, by rw [HS.out]; simpa [HC.out] using hown8⟩
    · obtain rfl : k = 40 := by omega
      go_wp2_with fail
      go_ret2
      exact ⟨_, rfl, by rw [HL.out]; exact hown, hbel⟩

/-- a root: its name, its handle -/
def rootP (r : Bytes) : Bytes × Nat := (if gotName (r.take 8) = true then nmR r else [], (r.getD 10 0).toNat)
def rootsF (S : Nat → Bytes) (m : Nat) : List (Bytes × Nat) := ((List.range m).filter fun i => !zeroE (S i)).map fun i => rootP (S i)
def rootsL (l : Bytes) : List (Bytes × Nat) := rootsF (rawR l) 8
theorem rootsF_succ (S : Nat → Bytes) (m : Nat) : rootsF S (m + 1) = rootsF S m ++ (if zeroE (S m) = true then [] else [rootP (S m)]) := by
  unfold rootsF
  rw [List.range_succ, List.filter_append, List.map_append]
  congr 1
  cases h : zeroE (S m) <;> simp [h]
theorem rootsF_len (S : Nat → Bytes) (m : Nat) : (rootsF S m).length ≤ m := by
  unfold rootsF
  rw [List.length_map]
  have := List.length_filter_le (fun i => !zeroE (S i)) (List.range m)
  rwa [List.length_range] at this
def rcells (x : Bytes × Nat) : List Value := [sv x.1, .int .i64 x.2]
theorem root_info : (Tryd.prog.info? 28).map (fun i => (i.zero, i.size, i.bytes)) = some (some (.agg #[.string ByteArray.empty, .int .i64 0]), 2, 24) := by kernel_rfl
theorem iroots_no (A : Option Addr) (n c : Nat) (w : World) (hr : rightB n = false) :
    Calls Tryd.prog 15 #[.slice A n c] w fun e w' => e = .returned (.tuple #[.slice none 0 0, .iface 132 (.int .i64 3)]) ∧ w = w' := by
  go_enter Tryd.func15, Tryd.ntmps15
  go_wp2_with fail
  refine (check_e3 A n c 1 _ hr).mono ?_
  rintro e w1 ⟨rfl, rfl⟩
  go_wp2_with fail
  go_ret2
  exact ⟨rfl, rfl⟩
set_option maxRecDepth 100000 in
theorem iroots_ok (A : Option Addr) (n c : Nat) (l : Bytes) (w : World) (hn : l.length = n) (hr : rightB n = true) (hnc : n ≤ c) (hrd : Rd w A l) :
    Calls Tryd.prog 15 #[.slice A n c] w fun e w' => ∃ v, e = .returned (.tuple #[v, .nilIface]) ∧ w'.ownsRow w.heap.size 28 2 v (rootsL l).length ((rootsL l).flatMap rcells) ∧ Below w.heap.size w w' := by
  have hnb := rightB_true.1 hr
  obtain ⟨i2, hi2, hx0, hx1, hx2⟩ := info_parts root_info
  have HRAW : Hidden (∀ k : Nat, k < 8 → ∀ W, Below w.heap.size w W → Rd W (A.map (·.add (200 + 11 * k))) (rawR l k)) := ⟨fun k hk W hW => rawR_rd (hrd.below hW) k hk (by omega)⟩
  have HLEN : Hidden (∀ k : Nat, k < 8 → (rawR l k).length = 11) := ⟨fun k hk => rawR_len l k hk (by omega)⟩
  have HL : Hidden (rootsL l = rootsF (rawR l) 8) := ⟨rfl⟩
  generalize rawR l = S at *
  clear hrd hn
  go_enter Tryd.func15, Tryd.ntmps15
  go_wp2_with fail
  refine (check_ok A n c 1 _ hr (by decide)).mono ?_
  rintro e w1 ⟨rfl, rfl⟩
  go_wp2_with fail
  go_loopg [5, 15] 8 (fun m v i wr => ∃ k : Nat, k ≤ 8 ∧ m = 8 - k ∧ i = .int .i64 (k : Int) ∧ Below w.heap.size w wr ∧ wr.ownsRow w.heap.size 28 2 v (rootsF S k).length ((rootsF S k).flatMap rcells))
  case atStart => exact ⟨0, by omega, rfl, rfl, Below.refl _ _, World.ownsRow_nil _ _ _ _⟩
  case round =>
    obtain ⟨k, hk, rfl, rfl, hbel, hown⟩ := hrel
    by_cases hlt : k < 8
    · have k0 : (k : Int) < 8 := by omega
      have s1 : IntKind.i64.wrap ((k : Int) + 1) = (k : Int) + 1 := IntWalk.i64_in _ (by omega)
      have hll := rootsF_len S k
      have HS := Hidden.mk (rootsF_succ S k)
      have hrw := HRAW.out k hlt wr hbel
      have hlen := HLEN.out k hlt
      obtain ⟨p, off, hA, hpl⟩ := hrw.lt (by omega)
      rw [hA] at hrw
      have HA := Hidden.mk hA
      have q10 := hrw.at_ 10 (by omega)
      have g10 : (S k).getD 10 0 = (S k)[10]'(by omega) := by simp [hlen]
      have HP : Hidden (rootP (S k) = (if gotName ((S k).take 8) = true then nmR (S k) else [], ((S k)[10]'(by omega)).toNat)) := ⟨by unfold rootP; rw [g10]⟩
      have HLK := Hidden.mk hlen
      generalize (S k)[10]'(by omega) = x10 at *
      generalize rootsF S k = L at *
      have w10 : IntKind.i64.wrap (x10.toNat : Int) = (x10.toNat : Int) := IntWalk.i64_in _ (by have := u8_lt x10; omega)
      generalize hcc : c - (200 + 11 * k) = cc at *
      have hc8 : 8 ≤ cc := by omega
      have HCC := Hidden.mk hcc
      clear hA g10 hcc hlen
      go_wp2_with fail
      refine (rawRoot_any A n c (k : Int) _ (by omega) (by omega) (by omega) hnc).mono ?_
      rintro e w1 ⟨rfl, rfl⟩
      rw [rootO_k, HA.out, HCC.out]
      go_wp2_with fail
      refine (izero_any _ 11 _ (S k) _ HLK.out (by simp [maxLen]) hrw).mono ?_
      rintro e w1 ⟨rfl, rfl⟩
      cases hz : zeroE (S k) with
      | true =>
        rw [hz] at HS
        clear hz q10
        go_wp2_with fail
        go_roundg (8 - (k + 1))
        case measure => omega
        case rel => exact ⟨k + 1, by omega, rfl, by go_num, hbel, by rw [HS.out]; simpa using hown⟩
      | false =>
        rw [hz] at HS
        clear hz
        go_wp2_with fail
        refine (getName_any (some ⟨p, off, none⟩) cc ((S k).take 8) _ (by simp [HLK.out]) hc8 (hrw.take 8 (by rw [HLK.out]; omega))).mono ?_
        rintro e w3 ⟨he, hb3⟩
        have hB3 := hbel.trans (hb3.mono hbel.size)
        have hown3 := own_below hown hb3
        have z10 := (hb3.cell (p := ⟨p, off + 10, none⟩) hpl).trans q10
        clear hb3 hbel hown q10 hpl hrw
        cases hg : gotName ((S k).take 8)
        all_goals
          rw [hg] at he HP
          first | simp only [Bool.false_eq_true, if_false] at he | simp only [if_true] at he
          subst he
          have HG := Hidden.mk hg
          clear hg
        case false =>
          go_wp2_with (at_builtin; refine wpList_append_lies _ rfl (.tmp 29) (.tmp 36) _ rfl w.heap.size 28 i2 _ 2 24 Tryd.underlying36 hi2 hx0 hx1 hx2 rfl (by decide) u5 L.length (L.flatMap rcells) rfl (own_below hown3 ((Below.refl _ _).alloc (Nat.le_refl _) _)) ⟨w3.heap.size, 0, none⟩ 1 1 [sv [], .int .i64 x10.toNat] rfl rfl (World.news_of_block (cs := #[sv [], .int .i64 x10.toNat]) (t := 28) (fr := (0, 0)) (heap_alloc_new w3 _)) (by simp [Value.oneCell']) (by omega) (by simp only [maxLen]; omega) (by omega) (by have := hB3.size; simp; omega) (w3.heap.size + 1) (by simp) ?_; intro g8 cap8 w8 hown8 hg8 hat8 hlt8)
          have hgW := grown_trans' ((Below.refl _ _).alloc (Nat.le_refl _) _) hg8
          have hB8 : Below w.heap.size w w8 := hB3.grown hgW hB3.size (fun q hq => (hown3.lt q hq).1)
          have hpp := HP.out
          simp only [Bool.false_eq_true, if_false] at hpp
          have HPP := Hidden.mk hpp
          clear hown3 hB3 hg8 hgW hat8 hlt8 hpp
          go_roundg (8 - (k + 1))
          case measure => omega
          case rel => exact ⟨k + 1, by omega, rfl, by go_num, hB8, by rw [HS.out, HPP.out]; simpa [rcells] using hown8⟩
        case true =>
          have hpp := HP.out
          simp only [if_true] at hpp
          have HPP := Hidden.mk hpp
          have HNM : Hidden (nmR (S k) = nameAt ((S k).take 8)) := ⟨rfl⟩
          generalize nameAt ((S k).take 8) = nm at *
          clear hpp
          go_wp2_with (at_builtin; refine wpList_append_lies _ rfl (.tmp 29) (.tmp 36) _ rfl w.heap.size 28 i2 _ 2 24 Tryd.underlying36 hi2 hx0 hx1 hx2 rfl (by decide) u5 L.length (L.flatMap rcells) rfl (own_below hown3 ((Below.refl _ _).alloc (Nat.le_refl _) _)) ⟨w3.heap.size, 0, none⟩ 1 1 [sv nm, .int .i64 x10.toNat] rfl rfl (World.news_of_block (cs := #[sv nm, .int .i64 x10.toNat]) (t := 28) (fr := (0, 0)) (heap_alloc_new w3 _)) (by simp [Value.oneCell']) (by omega) (by simp only [maxLen]; omega) (by omega) (by have := hB3.size; simp; omega) (w3.heap.size + 1) (by simp) ?_; intro g8 cap8 w8 hown8 hg8 hat8 hlt8)
          have hgW := grown_trans' ((Below.refl _ _).alloc (Nat.le_refl _) _) hg8
          have hB8 : Below w.heap.size w w8 := hB3.grown hgW hB3.size (fun q hq => (hown3.lt q hq).1)
          clear hown3 hB3 hg8 hgW hat8 hlt8
          go_roundg (8 - (k + 1))
          case measure => omega
          case rel => exact ⟨k + 1, by omega, rfl, by go_num, hB8, by rw [HS.out, HPP.out, HNM.out]; simpa [rcells] using hown8⟩
    · obtain rfl : k = 8 := by omega
      go_wp2_with fail
      go_ret2
      exact ⟨_, rfl, by rw [HL.out]; exact hown, hbel⟩

/-- image.Get where the image, or the handle, is none -/
theorem iget_e3 (A : Option Addr) (n c : Nat) (h : Int) (w : World) (hr : rightB n = false) :
    Calls Tryd.prog 25 #[.slice A n c, .int .i64 h] w fun e w' => e = .returned (.tuple #[entV 0 0 0 0, .iface 132 (.int .i64 3)]) ∧ Below w.heap.size w w' := by
  have hW : Below w.heap.size w (w.alloc (.cells #[.int .i64 0, .int .i64 0, .int .i64 0, .int .i64 0] 26)) := (Below.refl _ _).alloc (Nat.le_refl _) _
  go_enter Tryd.func25, Tryd.ntmps25
  go_wp2_with fail
  refine (check_e3 A n c h _ hr).mono ?_
  rintro e w1 ⟨rfl, rfl⟩
  go_wp2_with fail
  refine bodyPost_ret (v := .tuple #[entV 0 0 0 0, .iface 132 (.int .i64 3)]) ?_ rfl ?_
  · rw [results_cell_tmp rfl]
    go_simp
  · exact ⟨rfl, hW⟩
theorem iget_e1 (A : Option Addr) (n c : Nat) (h : Int) (w : World) (hr : rightB n = true) (hh : handleB h = false) :
    Calls Tryd.prog 25 #[.slice A n c, .int .i64 h] w fun e w' => e = .returned (.tuple #[entV 0 0 0 0, .iface 132 (.int .i64 1)]) ∧ Below w.heap.size w w' := by
  have hW : Below w.heap.size w (w.alloc (.cells #[.int .i64 0, .int .i64 0, .int .i64 0, .int .i64 0] 26)) := (Below.refl _ _).alloc (Nat.le_refl _) _
  go_enter Tryd.func25, Tryd.ntmps25
  go_wp2_with fail
  refine (check_e1 A n c h _ hr hh).mono ?_
  rintro e w1 ⟨rfl, rfl⟩
  go_wp2_with fail
  refine bodyPost_ret (v := .tuple #[entV 0 0 0 0, .iface 132 (.int .i64 1)]) ?_ rfl ?_
  · rw [results_cell_tmp rfl]
    go_simp
  · exact ⟨rfl, hW⟩
end Go.Proofs.YtbcafgocachddaaDoor
