/- Contracts and plain laws, put together: RefI1, RefI2, Diff2, ImageApart0, RefI3, RefI4, RefC, RefC2, RefC3, RefI5, Root1, Heap7, HeapP, KeepP, Root2, Root3, Open3, ImageBack0. -/
import Derived.Test.YtijcclpnkfmpnaaGreatUndoBackFrameM2
import Derived.Test.YtijcclpnkfmpnaaGreatUndoBackFrameM3
import Derived.Test.YtijcclpnkfmpnaaGreatUndoBackFrameM1
import Derived.Deep.LoopGhost
import Derived.Deep.DeepCutAuto
import Derived.Deep.RegionHeld3
import Derived.Deep.Grids
import Derived.Deep.CutBlock
/- The reference on images: Image, Handle, Zero, RootAt, Entry, Wipe. -/
namespace Go.Proofs.YtijcclpnkfmpnaaGreat
open Go.RowKit

theorem ref_right_any (n : Int) (w : World) : Calls Tryz.prog 33 #[.int .i64 n] w fun e w' => e = .returned (.bool (rightB n)) ∧ w = w' := by
  by_cases h1 : 288 ≤ n
  · go_enter Tryz.func33, Tryz.ntmps33
    go_wp2
    go_ret
    exact ⟨ret_bool (by simp [rightB]; intros; omega), rfl⟩
  · go_enter Tryz.func33, Tryz.ntmps33
    go_wp2
    go_ret
    exact ⟨ret_bool (by symm; simp [rightB]; omega), rfl⟩
theorem ref_handle_any (n : Int) (w : World) : Calls Tryz.prog 115 #[.int .i64 n] w fun e w' => e = .returned (.bool (handleB n)) ∧ w = w' := by
  by_cases h1 : 1 ≤ n
  · go_enter Tryz.func115, Tryz.ntmps115
    go_wp2
    go_ret
    exact ⟨ret_bool (by simp [handleB]; intros; omega), rfl⟩
  · go_enter Tryz.func115, Tryz.ntmps115
    go_wp2
    go_ret
    exact ⟨ret_bool (by symm; simp [handleB]; omega), rfl⟩
theorem zeroE_at (l : Bytes) (j : Nat) (hj : j < l.length) (h : nonZero l[j] = true) : zeroE l = false := by
  unfold zeroE
  rw [Bool.not_eq_false', List.any_eq_true]
  exact ⟨l[j], List.getElem_mem hj, h⟩
theorem zeroE_none (l : Bytes) (h : ∀ x ∈ l, nonZero x = false) : zeroE l = true := by
  unfold zeroE
  rw [Bool.not_eq_true', List.any_eq_false]
  intro x hx; rw [h x hx]; simp
theorem refZero_any (A : Option Addr) (n c : Nat) (l : Bytes) (w : World) (hn : l.length = n) (hl : n ≤ 140737488351232) (hr : Rd w A l) :
    Calls Tryz.prog 113 #[.slice A n c] w fun e w' => e = .returned (.bool (zeroE l)) ∧ w = w' := by
  subst hn
  go_enter Tryz.func113, Tryz.ntmps113
  go_wp2
  go_loop [3] (fun i => ∃ j : Nat, j ≤ l.length ∧ i = .int .i64 (j : Int) ∧ Hidden (∀ x ∈ l.take j, nonZero x = false)) (fun i => l.length - (intOf i).toNat)
  case atStart => exact ⟨0, Nat.zero_le _, rfl, ⟨by simp⟩⟩
  case round =>
    obtain ⟨j, hj, rfl, hno⟩ := hrel
    by_cases hlt : j < l.length
    · obtain ⟨b, off, rfl, hc⟩ := hr j (by omega)
      have hz := Hidden.mk (zeroE_at l j hlt)
      have hnext : Hidden (nonZero l[j] = false → ∀ x ∈ l.take (j + 1), nonZero x = false) := ⟨fun h x hx => by
        rw [List.take_succ_eq_append_getElem hlt, List.mem_append, List.mem_singleton] at hx
        rcases hx with hx | rfl
        · exact hno.out x hx
        · exact h⟩
      generalize l[j] = x at *
      have k0 : (0 : Int) ≤ j := by omega
      have k1 : (j : Int) < l.length := by omega
      cases hx : nonZero x with
      | true =>
        have hq : ((x.toNat : Int) != 0) = true := by rw [bv_bne]; exact hx
        go_wp2
        go_ret
        exact ⟨ret_bool (hz.out hx).symm, rfl⟩
      | false =>
        have hq : ((x.toNat : Int) != 0) = false := by rw [bv_bne]; exact hx
        have HN := Hidden.mk (hnext.out hx)
        clear hnext
        go_wp2
        go_round
        case rel => exact ⟨j + 1, by omega, by go_num, HN⟩
        case measure => simp [intOf]; omega
    · obtain rfl : j = l.length := by omega
      have hz := Hidden.mk (zeroE_none l (by have := hno.out; rwa [List.take_of_length_le (Nat.le_refl _)] at this))
      go_wp2
      go_ret
      exact ⟨ret_bool hz.out.symm, rfl⟩
theorem hd_get (r : Bytes) (h : 0 < r.length) : r[0] = rHd r := by
  cases r with
  | nil => simp at h
  | cons x y => rfl
theorem refRootAt_ok (p off n c k : Nat) (w : World) (hk : k < 8) (hn : 288 ≤ n) (hc : n ≤ c) :
    Calls Tryz.prog 112 #[.slice (some ⟨p, off, none⟩) n c, .int .i64 (k : Int)] w fun e w' => e = .returned (.slice (some ⟨p, off + (200 + 11 * k), none⟩) 11 (c - (200 + 11 * k))) ∧ w = w' := by
  have s1 : IntKind.i64.wrap (11 * (k : Int)) = 11 * (k : Int) := IntWalk.i64_in _ (by omega)
  have s2 : IntKind.i64.wrap (200 + 11 * (k : Int)) = ((200 + 11 * k : Nat) : Int) := by rw [IntWalk.i64_in _ (by omega)]; omega
  have s3 : IntKind.i64.wrap (211 + 11 * (k : Int)) = ((211 + 11 * k : Nat) : Int) := by rw [IntWalk.i64_in _ (by omega)]; omega
  have hcut := run_cut p off n c (200 + 11 * k) (211 + 11 * k) (by omega) (by omega) (by omega)
  have e1 : 211 + 11 * k - (200 + 11 * k) = 11 := by omega
  rw [e1] at hcut
  generalize 200 + 11 * k = o1 at *
  generalize 211 + 11 * k = o2 at *
  go_enter Tryz.func112, Tryz.ntmps112
  go_wp2_with fail
  go_ret
  exact ⟨rfl, rfl⟩
theorem fourAt_new (w : World) (f : Obj) (a b c d : Int) (t : TypeId) : FourAt ((w.alloc f).alloc (.cells #[.int .i64 a, .int .i64 b, .int .i64 c, .int .i64 d] t)) (w.heap.size + 1) a b c d := by
  have h := heap_alloc_new (w.alloc f) (.cells #[.int .i64 a, .int .i64 b, .int .i64 c, .int .i64 d] t)
  rw [show (w.alloc f).heap.size = w.heap.size + 1 by simp] at h
  unfold FourAt
  simp only [World.cell?]
  rw [h]
  exact ⟨rfl, rfl, rfl, rfl⟩
set_option maxRecDepth 100000 in
theorem refEntry_ok (A : Option Addr) (n c : Nat) (l : Bytes) (k : Nat) (w : World) (hn : l.length = n) (hl : 200 ≤ n) (hnc : n ≤ c) (hrd : Rd w A l) (hk : k < 40) :
    Calls Tryz.prog 110 #[.slice A n c, .int .i64 ((k : Int) + 1)] w fun e w' => e = .returned (.tuple #[entR ((k : Int) + 1) (rawE l k), .bool (hasE (rawE l k))]) ∧ Below w.heap.size w w' := by
  have hRl := rawE_len l k hk (by omega)
  obtain ⟨p, off, rfl, hpl⟩ := hrd.lt (by omega)
  have s1 : IntKind.i64.wrap ((k : Int) + 1 - 1) = (k : Int) := by rw [IntWalk.i64_in _ (by omega)]; omega
  have s2 : IntKind.i64.wrap (5 * (k : Int)) = ((5 * k : Nat) : Int) := by rw [IntWalk.i64_in _ (by omega)]; omega
  have s3 : IntKind.i64.wrap (((5 * k : Nat) : Int) + 1) = ((5 * k + 1 : Nat) : Int) := by rw [IntWalk.i64_in _ (by omega)]; omega
  have s4 : IntKind.i64.wrap (((5 * k : Nat) : Int) + 3) = ((5 * k + 3 : Nat) : Int) := by rw [IntWalk.i64_in _ (by omega)]; omega
  have s5 : IntKind.i64.wrap (((5 * k : Nat) : Int) + 5) = ((5 * k + 5 : Nat) : Int) := by rw [IntWalk.i64_in _ (by omega)]; omega
  have hcut1 := run_cut p off n c (5 * k + 1) (5 * k + 3) (by omega) (by omega) (by omega)
  have hcut3 := run_cut p off n c (5 * k + 3) (5 * k + 5) (by omega) (by omega) (by omega)
  rw [show 5 * k + 3 - (5 * k + 1) = 2 by omega] at hcut1
  rw [show 5 * k + 5 - (5 * k + 3) = 2 by omega] at hcut3
  have k0 : ((5 * k : Nat) : Int) < n := by omega
  have HB : Hidden (∀ W, Below w.heap.size w W → W.cell? ⟨p, off + 5 * k, none⟩ = some (bv (rHd (rawE l k)))) := ⟨fun W hW => by
    have hq := rawE_rd (hrd.below hW) k hk (by omega)
    rw [Option.map_some, Addr.add_lit] at hq
    have h0 := hq.at_ 0 (by rw [hRl]; omega)
    have hh : (rawE l k)[0]'(by omega) = rHd (rawE l k) := hd_get _ _
    rw [hh] at h0
    exact h0⟩
  have H1 : Hidden (∀ W cap, Below w.heap.size w W → Calls Tryz.prog 141 #[.slice (some ⟨p, off + (5 * k + 1), none⟩) 2 cap] W fun e w' => e = .returned (.int .i64 (rAt (rawE l k) : Int)) ∧ W = w') := ⟨fun W cap hW => by
    have h := ((rawE_rd (hrd.below hW) k hk (by omega)).cut 1 2 (by omega))
    rw [Option.map_some, Addr.add_lit, Option.map_some, Addr.add_lit, Nat.add_assoc] at h
    exact number_any _ 2 cap _ W (by simp; omega) (by omega) h⟩
  have H3 : Hidden (∀ W cap, Below w.heap.size w W → Calls Tryz.prog 141 #[.slice (some ⟨p, off + (5 * k + 3), none⟩) 2 cap] W fun e w' => e = .returned (.int .i64 (rLen (rawE l k) : Int)) ∧ W = w') := ⟨fun W cap hW => by
    have h := ((rawE_rd (hrd.below hW) k hk (by omega)).cut 3 2 (by omega))
    rw [Option.map_some, Addr.add_lit, Option.map_some, Addr.add_lit, Nat.add_assoc] at h
    exact number_any _ 2 cap _ W (by simp; omega) (by omega) h⟩
  have HR : Hidden (entR ((k : Int) + 1) (rawE l k) = .agg #[.int .i64 ((k : Int) + 1), .int .i64 (rAt (rawE l k)), .int .i64 (rLen (rawE l k)), .int .i64 (rTag (rawE l k))] ∧ rTag (rawE l k) = ((rHd (rawE l k)).toNat : Int) - 1 ∧ hasE (rawE l k) = (((rHd (rawE l k)).toNat : Int) != 0)) := ⟨rfl, rfl, (bv_bne _).symm⟩
  have hW : Below w.heap.size w (w.alloc (.cells #[.int .i64 0, .int .i64 0, .int .i64 0, .int .i64 0] 85)) := (Below.refl _ _).alloc (Nat.le_refl _) _
  have c0 := HB.out _ hW
  generalize rawE l k = r at *
  generalize 5 * k + 1 = o1 at *
  generalize 5 * k + 3 = o3 at *
  generalize 5 * k + 5 = o5 at *
  generalize 5 * k = o at *
  clear hrd hW hRl
  generalize rHd r = hd at *
  generalize (rAt r : Int) = b1 at *
  generalize (rLen r : Int) = b2 at *
  have hx := u8_lt hd
  have hw0 : IntKind.i64.wrap (hd.toNat : Int) = (hd.toNat : Int) := IntWalk.i64_in _ (by omega)
  have hw1 : IntKind.i64.wrap ((hd.toNat : Int) - 1) = (hd.toNat : Int) - 1 := IntWalk.i64_in _ (by omega)
  go_enter Tryz.func110, Tryz.ntmps110
  go_wp2_with fail
  generalize (hd.toNat : Int) - 1 = tg at *
  have hB2 : Below w.heap.size w ((w.alloc (.cells #[.int .i64 0, .int .i64 0, .int .i64 0, .int .i64 0] 85)).alloc (.cells #[.int .i64 ((k : Int) + 1), .int .i64 0, .int .i64 0, .int .i64 tg] 85)) := ((Below.refl _ _).alloc (Nat.le_refl _) _).alloc (by simp) _
  refine (H1.out _ _ hB2).mono ?_
  rintro e w1 ⟨rfl, rfl⟩
  go_wp2_with fail
  have hB3 : Below w.heap.size w ((w.alloc (.cells #[.int .i64 0, .int .i64 0, .int .i64 0, .int .i64 0] 85)).alloc (.cells #[.int .i64 ((k : Int) + 1), .int .i64 b1, .int .i64 0, .int .i64 tg] 85)) := ((Below.refl _ _).alloc (Nat.le_refl _) _).alloc (by simp) _
  refine (H3.out _ _ hB3).mono ?_
  rintro e w1 ⟨rfl, rfl⟩
  have hB4 : Below w.heap.size w ((w.alloc (.cells #[.int .i64 0, .int .i64 0, .int .i64 0, .int .i64 0] 85)).alloc (.cells #[.int .i64 ((k : Int) + 1), .int .i64 b1, .int .i64 b2, .int .i64 tg] 85)) := ((Below.refl _ _).alloc (Nat.le_refl _) _).alloc (by simp) _
  have dS : ∀ f, ((w.alloc f).alloc (.cells #[.int .i64 ((k : Int) + 1), .int .i64 b1, .int .i64 b2, .int .i64 tg] 85)).cell? ⟨p, off + o, none⟩ = some (bv hd) ∧ FourAt ((w.alloc f).alloc (.cells #[.int .i64 ((k : Int) + 1), .int .i64 b1, .int .i64 b2, .int .i64 tg] 85)) (w.heap.size + 1) ((k : Int) + 1) b1 b2 tg := fun f => ⟨HB.out _ (((Below.refl _ _).alloc (Nat.le_refl _) _).alloc (by simp) _), fourAt_new w f _ _ _ _ _⟩
  unfold FourAt at dS
  have hwp : w.cell? ⟨p, off + o, none⟩ = some (bv hd) := HB.out _ (Below.refl _ _)
  clear hB2 hB3
  go_wp2_with fail
  go_region_held3 (fun W => W.cell? ⟨p, off + o, none⟩ = some (bv hd) ∧ W.cell? ⟨w.heap.size + 1, 0, none⟩ = some (.int .i64 ((k : Int) + 1)) ∧ W.cell? ⟨w.heap.size + 1, 1, none⟩ = some (.int .i64 b1) ∧ W.cell? ⟨w.heap.size + 1, 2, none⟩ = some (.int .i64 b2) ∧ W.cell? ⟨w.heap.size + 1, 3, none⟩ = some (.int .i64 tg)) (first | exact hwp | exact dS _ | exact (dS _).1 | exact (dS _).2.1 | exact (dS _).2.2.1 | exact (dS _).2.2.2.1 | exact (dS _).2.2.2.2) (fail)
  go_wp2_with fail
  refine bodyPost_ret (v := .tuple #[.agg #[.int .i64 ((k : Int) + 1), .int .i64 b1, .int .i64 b2, .int .i64 tg], .bool ((hd.toNat : Int) != 0)]) ?_ rfl ?_
  · simp [results, Tryz.f110, go_sem]
  · refine ⟨?_, (((Below.refl _ _).alloc (Nat.le_refl _) _).alloc (by simp) _).drew⟩
    obtain ⟨h1, h2, h3⟩ := HR.out
    rw [h1, h3, h2]
end Go.Proofs.YtijcclpnkfmpnaaGreat
/- The reference on images: copied, Wipe. -/
namespace Go.Proofs.YtijcclpnkfmpnaaGreat
open Go.RowKit

set_option maxRecDepth 100000 in
theorem refCopied_ok (p off n c : Nat) (l : Bytes) (w : World) (hn : l.length = n) (h1 : 1 ≤ n) (hl : n ≤ 140737488351232) (hr : Rd w (some ⟨p, off, none⟩) l) :
    Calls Tryz.prog 116 #[.slice (some ⟨p, off, none⟩) n c] w fun e w' => ∃ g cap, e = .returned (.slice (some ⟨g, 0, none⟩) n cap) ∧ w.heap.size ≤ g ∧ n ≤ cap ∧ Row w' 5 g cap l ∧ Below w.heap.size w w' := by
  obtain ⟨i0, hi0, hz0, hz1, hz2⟩ := info_parts byte_info
  go_enter Tryz.func116, Tryz.ntmps116
  go_wp2_with (at_builtin; refine wpList_append_own _ rfl (.tmp 4) (.tmp 5) _ rfl w.heap.size 5 i0 _ 1 1 Tryz.underlying22 hi0 hz0 hz1 hz2 rfl (by decide) (.slice none 0 0) 0 [] rfl (World.ownsRow_nil _ _ _ _) ⟨p, off, none⟩ n c (l.map bv) rfl (by simp; omega) hr.cells one_bv (by simp only [maxLen]; omega) (by omega) (Nat.le_refl _) ?_; intro v1 w1 hown1 hg1 hnn1)
  have hb1 : Below w.heap.size w w1 := (Below.refl _ _).grown hg1 (Nat.le_refl _) (fun k hk => by simp [Value.ownBlock] at hk)
  have hO : Own w1 w.heap.size 5 v1 l := by unfold Own; simpa [hn] using hown1
  have hne : v1 ≠ .slice none 0 0 := fun h => by
    subst h
    rcases hO.2 with ⟨_, h0⟩ | ⟨g, cap, cur, h, _⟩
    · omega
    · cases h
  obtain ⟨g, cap, hv, hbg, hrow⟩ := Row.of_own hO hne
  rw [hn] at hv
  subst hv
  have hcap := hrow.le.1
  clear hO hne hown1 hg1 hnn1
  go_ret
  exact ⟨g, cap, rfl, hbg, by omega, hrow, hb1⟩
set_option maxRecDepth 100000 in
theorem refWipe_ok (p off n c : Nat) (l : Bytes) (a m : Nat) (w : World) (hn : l.length = n) (h1 : 1 ≤ n) (hl : n ≤ 140737488351232) (hm : a + m ≤ n) (hr : Rd w (some ⟨p, off, none⟩) l) :
    Calls Tryz.prog 75 #[.slice (some ⟨p, off, none⟩) n c, .int .i64 (a : Int), .int .i64 (m : Int)] w fun e w' => ∃ g cap, e = .returned (.slice (some ⟨g, 0, none⟩) n cap) ∧ w.heap.size ≤ g ∧ n ≤ cap ∧ Row w' 5 g cap (splice l a (List.replicate m 0)) ∧ Below w.heap.size w w' := by
  go_enter Tryz.func75, Tryz.ntmps75
  go_wp2_with fail
  refine (refCopied_ok p off n c l _ hn h1 hl hr).mono ?_
  rintro e w1 ⟨g, cap, rfl, hg, hcap, hrow, hb1⟩
  have HZ : Hidden (∀ j, j < m → splice l a ((List.replicate m 0).take j) = splice l a ((List.replicate m 0).take j) ∧ (splice l a ((List.replicate m (0 : UInt8)).take j)).set (a + j) 0 = splice l a ((List.replicate m 0).take (j + 1))) := ⟨fun j hj => ⟨rfl, by
    have := splice_take_succ l (List.replicate m 0) a j (by simpa using hj) (by simp; omega)
    simpa using this⟩⟩
  have HL : Hidden (∀ j, j ≤ m → (splice l a ((List.replicate m 0).take j)).length = n) := ⟨fun j hj => by rw [splice_len _ _ _ (by simp; omega)]; exact hn⟩
  have HF : Hidden (splice l a ((List.replicate m 0).take m) = splice l a (List.replicate m 0)) := ⟨by rw [List.take_of_length_le (by simp)]⟩
  have hrow0 : Row w1 5 g cap (splice l a ((List.replicate m 0).take 0)) := by simpa [splice] using hrow
  generalize hS : (fun j => splice l a ((List.replicate m 0).take j)) = S at *
  have hSj : ∀ j, splice l a ((List.replicate m 0).take j) = S j := fun j => by rw [← hS]
  simp only [hSj] at HZ HL HF hrow0
  clear hS hSj hrow hr
  go_wp2_with fail
  go_loopg [8] m (fun q i wr => ∃ j : Nat, j ≤ m ∧ q = m - j ∧ i = .int .i64 (j : Int) ∧ Below w.heap.size w wr ∧ Row wr 5 g cap (S j))
  case atStart => exact ⟨0, by omega, rfl, rfl, hb1, hrow0⟩
  case round =>
    obtain ⟨j, hj, rfl, rfl, hbel, hrw⟩ := hrel
    by_cases hlt : j < m
    · have hsl := HL.out j hj
      have hcell := hrw.cell (a + j) (by omega)
      have hfr := hrw.frozen (a + j)
      have hst := hrw.store (a + j) (by omega) 0
      rw [(HZ.out j hlt).2] at hst
      have hbn := hbel.setCell (p := ⟨g, a + j, none⟩) hg (bv 0)
      have hbv : bv 0 = .int .u8 0 := rfl
      rw [hbv] at hst hbn
      have q1 : IntKind.i64.wrap ((a : Int) + j) = (a : Int) + j := IntWalk.i64_in _ (by omega)
      have k0 : (0 : Int) ≤ (a : Int) + j := by omega
      have k1 : (a : Int) + j < n := by omega
      have k2 : (j : Int) < m := by omega
      generalize (S j)[a + j] = u at hcell
      clear hbv hrw hsl
      go_wp2_with fail
      go_roundg (m - (j + 1))
      case measure => omega
      case rel => exact ⟨j + 1, by omega, rfl, by go_num, hbn, hst⟩
    · obtain rfl : j = m := by omega
      go_wp2_with fail
      go_ret
      exact ⟨g, cap, rfl, hg, hcap, HF.out ▸ hrw, hbel⟩
end Go.Proofs.YtijcclpnkfmpnaaGreat
/- Reading what diff.Diff gave. -/
namespace Go.Proofs.YtijcclpnkfmpnaaGreat
open Go.RowKit

/-- the cells of one change of a slice that lies at A -/
structure ChCells (w : World) (g off i : Nat) (c : Chg) (go co gn cn : Nat) : Prop where
  at_ : w.cell? ⟨g, off + i * 3, none⟩ = some (.int .i64 c.at_)
  old : w.cell? ⟨g, off + i * 3 + 1, none⟩ = some (.slice (some ⟨go, 0, none⟩) c.old.length co)
  new : w.cell? ⟨g, off + i * 3 + 2, none⟩ = some (.slice (some ⟨gn, 0, none⟩) c.new.length cn)
  rowO : Row w 5 go co c.old
  rowN : Row w 5 gn cn c.new
/-- the slice at A has the changes L -/
def RdC (w : World) (A : Option Addr) (L : List Chg) : Prop := ∀ i (h : i < L.length), ∃ g off go co gn cn, A = some ⟨g, off, none⟩ ∧ ChCells w g off i L[i] go co gn cn
theorem OwnC.rd {w : World} {base : Nat} {v : Value} {L : List Chg} (h : OwnC w base v L) : ∃ A c, v = .slice A L.length c ∧ L.length ≤ c ∧ c ≤ maxLen ∧ RdC w A L := by
  obtain ⟨xs, hown, hat⟩ := h
  rcases hown.2 with ⟨rfl, h0⟩ | ⟨g, cap, cur, rfl, _, hh, hc, hm, hz, ht⟩
  · rw [h0]
    exact ⟨none, 0, rfl, by omega, by simp, fun i hi => by omega⟩
  · refine ⟨_, cap, rfl, hc, hm, fun i hi => ?_⟩
    obtain ⟨go, co, gn, cn, _, _, e0, e1, e2, r1, r2⟩ := hat i hi
    have hcell : ∀ j u, xs[j]? = some u → w.cell? ⟨g, 0 + j, none⟩ = some u := fun j u hu => by
      have := hown.cells (g := g) rfl j u hu
      rw [Addr.add_lit] at this
      exact this
    rw [Nat.mul_comm 3 i] at e0 e1 e2
    exact ⟨g, 0, go, co, gn, cn, rfl, hcell _ _ e0, (Nat.add_assoc 0 (i * 3) 1) ▸ hcell _ _ e1, (Nat.add_assoc 0 (i * 3) 2) ▸ hcell _ _ e2, r1, r2⟩
theorem ChCells.below {w w' : World} {g off i : Nat} {c : Chg} {go co gn cn : Nat} (h : ChCells w g off i c go co gn cn) (hb : Below w.heap.size w w') : ChCells w' g off i c go co gn cn :=
  ⟨(hb.cell (block_lt_of_cell h.at_)).trans h.at_, (hb.cell (block_lt_of_cell h.old)).trans h.old, (hb.cell (block_lt_of_cell h.new)).trans h.new, h.rowO.below hb h.rowO.lt, h.rowN.below hb h.rowN.lt⟩
theorem RdC.below {w w' : World} {A : Option Addr} {L : List Chg} (h : RdC w A L) (hb : Below w.heap.size w w') : RdC w' A L := fun i hi => by
  obtain ⟨g, off, go, co, gn, cn, hA, hc⟩ := h i hi
  exact ⟨g, off, go, co, gn, cn, hA, hc.below hb⟩
end Go.Proofs.YtijcclpnkfmpnaaGreat
/- PutRoot at any arguments, and what the difference to the empty image is. -/
namespace Go.Proofs.YtijcclpnkfmpnaaGreat
open Go.RowKit

/-- the eleven bytes that stand for a root -/
structure RootX (s X : Bytes) : Prop where
  len : X.length = 11
  zero : s = [] → X = List.replicate 11 0
  some_ : s ≠ [] → X[0]? ≠ some 0
theorem rootX_ok (s : Bytes) (h : Int) (hnm : isName s = true) : RootX s (rootB s h) := by
  cases s with
  | nil => simp [isName] at hnm
  | cons x xs =>
    simp only [isName, Bool.and_eq_true, List.any_cons, Bool.not_eq_true', Bool.or_eq_false_iff, decide_eq_true_eq] at hnm
    obtain ⟨⟨_, h8⟩, hx, _⟩ := hnm
    refine ⟨?_, by simp, fun _ => ?_⟩
    · simp only [rootB, nameB, List.length_append, List.length_replicate, List.length_cons, List.length_nil] at h8 ⊢
      omega
    · simp only [rootB, nameB, List.cons_append, List.getElem?_cons_zero, ne_eq, Option.some.injEq]
      rintro rfl
      simp [notLower] at hx
theorem root_all (A : Option Addr) (n c : Nat) (l : Bytes) (i : Int) (s : Bytes) (h : Int) (w : World) (hs : s.length ≤ 140737488351232) (hn : l.length = n) (hnc : n ≤ c) (hrd : Rd w A l) (hr : rightB n = true) :
    Calls Tryz.prog 90 #[.slice A n c, .int .i64 i, rootV s h] w fun e w' => (∃ x, e = .returned (.tuple #[.slice none 0 0, .iface 76 (.int .i64 x)]) ∧ Below w.heap.size w w') ∨
      (∃ g cap X, 0 ≤ i ∧ i < 8 ∧ RootX s X ∧ e = .returned (.tuple #[.slice (some ⟨g, 0, none⟩) n cap, .nilIface]) ∧ w.heap.size ≤ g ∧ Row w' 5 g cap (splice l (rootO i) X) ∧ Below w.heap.size w w') := by
  by_cases hi : i < 0 ∨ 8 ≤ i
  · exact (root_e1 A n c i s h w hr hi).mono fun e w' he => .inl ⟨1, he⟩
  have hi1 : 0 ≤ i := by omega
  have hi2 : i < 8 := by omega
  by_cases h0 : s = [] ∧ h = 0
  · obtain ⟨rfl, rfl⟩ := h0
    refine (root_zero A n c l i w hn hnc hrd hr hi1 hi2).mono ?_
    rintro e w' ⟨g, cap, he, hg, hrow, hb⟩
    exact .inr ⟨g, cap, _, hi1, hi2, ⟨by simp, fun _ => rfl, fun hh => absurd rfl hh⟩, he, hg, hrow, hb⟩
  cases hh : handleB h with
  | false => exact (root_e1h A n c i s h w hr hi1 hi2 h0 hh).mono fun e w' he => .inl ⟨1, he⟩
  | true =>
    cases hnm : isName s with
    | false => exact (root_e2 A n c i s h w hs hr hi1 hi2 hh hnm).mono fun e w' he => .inl ⟨2, he⟩
    | true =>
      refine (root_ok A n c l i s h w hn hrd hr hi1 hi2 hh hnm).mono ?_
      rintro e w' ⟨g, cap, he, hg, hrow, hb⟩
      exact .inr ⟨g, cap, _, hi1, hi2, rootX_ok s h hnm, he, hg, hrow, hb⟩
/-- the difference is empty exactly where the root is -/
theorem rootX_diff (m o : Nat) (s X : Bytes) (hX : RootX s X) (hfit : o + 11 ≤ m) : decide (0 < (diffL (List.replicate m 0) (splice (List.replicate m 0) o X)).length) = !decide (s = []) := by
  have hzl : (List.replicate m (0 : UInt8)).length = m := by simp
  have hf : o + X.length ≤ (List.replicate m (0 : UInt8)).length := by rw [hX.len, hzl]; exact hfit
  by_cases hs : s = []
  · have he : splice (List.replicate m (0 : UInt8)) o X = List.replicate m 0 := by
      rw [hX.zero hs]
      simp only [splice, List.take_replicate, List.drop_replicate, List.length_replicate, List.replicate_append_replicate]
      congr 1
      omega
    rw [he, diffL_self]
    simp [hs]
  · have hpos : 0 < (diffL (List.replicate m 0) (splice (List.replicate m 0) o X)).length := by
      rcases Nat.eq_zero_or_pos (diffL (List.replicate m 0) (splice (List.replicate m 0) o X)).length with h0 | h0
      · exfalso
        have hlen : (splice (List.replicate m (0 : UInt8)) o X).length = m := by rw [splice_len _ _ _ hf, hzl]
        have := diffL_eq_nil _ _ (hzl.trans hlen.symm) (List.eq_nil_of_length_eq_zero h0)
        have h1 := splice_get (List.replicate m (0 : UInt8)) X o 0 hf (by rw [hX.len]; omega)
        rw [← this, Nat.add_zero, List.getElem?_replicate, if_pos (by omega)] at h1
        exact hX.some_ hs h1.symm
      · exact h0
    simp [hs, hpos]
end Go.Proofs.YtijcclpnkfmpnaaGreat
/- The reference on images: Entries, Roots. -/
namespace Go.Proofs.YtijcclpnkfmpnaaGreat
open Go.RowKit

end Go.Proofs.YtijcclpnkfmpnaaGreat
/- The reference on images: PutEntry. -/
namespace Go.Proofs.YtijcclpnkfmpnaaGreat
open Go.RowKit

theorem refPut_fit (A : Option Addr) (n c : Nat) (l : Bytes) (a x s : Nat) (w : World) (hn : l.length = n) (hl : n ≤ 140737488351232) (hr : Rd w A l) (h1 : 1 ≤ s) (h4 : s ≤ 4) (hx : (x : Int) ≤ mostN (s : Int)) (ha : a + s ≤ n) :
    Calls Tryz.prog 142 #[.slice A n c, .int .i64 (a : Int), .int .i64 (x : Int), .int .i64 (s : Int)] w fun e w' => ∃ A' c', e = .returned (.tuple #[.slice A' n c', .int .i64 0]) ∧ Rd w' A' (splice l a (numB x s)) ∧ Below w.heap.size w w' := by
  have hE : putE n (a : Int) (x : Int) (s : Int) = 0 := by
    unfold putE; rw [if_pos ⟨by omega, by omega, by omega, hx⟩, if_neg (by omega)]
  have hF : putF l (a : Int) (x : Int) (s : Int) = splice l a (numB x s) := by
    unfold putF; rw [hn, if_pos hE]; rfl
  have hL : (splice l a (numB x s)).length = n := by rw [splice_len _ _ _ (by rw [numB_length]; omega)]; exact hn
  refine (refPut_any A n c l a x s w hn hl hr).mono ?_
  rintro e w' ⟨A', c', rfl, hrd, hb⟩
  rw [hF, hE, hL]
  rw [hF] at hrd
  exact ⟨A', c', rfl, hrd, hb⟩
theorem entV_cells (h a b t : Int) : (entV h a b t) = .agg #[.int .i64 h, .int .i64 a, .int .i64 b, .int .i64 t] := rfl
/-- the fault of an entry that is put -/
def entE (n : Nat) (h a len tag : Int) : Nat := if handleB h = false ∨ tagB tag = false ∨ lenB len = false then 1 else if withinB n a len = false then 3 else 0
def entF (l : Bytes) (h a len tag : Int) : Bytes := if entE l.length h a len tag = 0 then putEnt l h a len tag else []
theorem refPutEntry_e1 (A : Option Addr) (n c : Nat) (h a len tag : Int) (w : World) (hbad : handleB h = false ∨ tagB tag = false ∨ lenB len = false) :
    Calls Tryz.prog 111 #[.slice A n c, entV h a len tag] w fun e w' => e = .returned (.tuple #[.slice none 0 0, .int .i64 1]) ∧ Below w.heap.size w w' := by
  have hB : Below w.heap.size w (w.alloc (.cells #[.int .i64 h, .int .i64 a, .int .i64 len, .int .i64 tag] 85)) := (Below.refl _ _).alloc (Nat.le_refl _) _
  unfold entV
  go_enter Tryz.func111, Tryz.ntmps111
  go_wp2_with fail
  refine (ref_handle_any h _).mono ?_
  rintro e w1 ⟨rfl, rfl⟩
  cases hh : handleB h with
  | false =>
    clear hbad hh
    go_wp2_with fail
    go_ret2
    exact ⟨rfl, hB⟩
  | true =>
    rw [hh] at hbad
    have hb2 : tag < 0 ∨ 15 < tag ∨ len < 1 ∨ 1000 < len := by
      rcases hbad with h1 | h1 | h1
      · cases h1
      · have := tagB_false.1 h1; omega
      · have := lenB_false.1 h1; omega
    clear hbad hh
    by_cases t1 : tag < 0
    · clear hb2
      go_wp2_with fail
      go_ret2
      exact ⟨rfl, hB⟩
    · by_cases t2 : 15 < tag
      · clear hb2
        go_wp2_with fail
        go_ret2
        exact ⟨rfl, hB⟩
      · by_cases t3 : len < 1
        · clear hb2
          go_wp2_with fail
          go_ret2
          exact ⟨rfl, hB⟩
        · have t4 : 1000 < len := by omega
          clear hb2
          go_wp2_with fail
          go_ret2
          exact ⟨rfl, hB⟩
theorem refPutEntry_e3 (A : Option Addr) (n c : Nat) (h a len tag : Int) (w : World) (hn : n ≤ 6400) (hh : handleB h = true) (ht : tagB tag = true) (hl : lenB len = true) (hw : withinB n a len = false) :
    Calls Tryz.prog 111 #[.slice A n c, entV h a len tag] w fun e w' => e = .returned (.tuple #[.slice none 0 0, .int .i64 3]) ∧ Below w.heap.size w w' := by
  have hB : Below w.heap.size w (w.alloc (.cells #[.int .i64 h, .int .i64 a, .int .i64 len, .int .i64 tag] 85)) := (Below.refl _ _).alloc (Nat.le_refl _) _
  have htb := tagB_true.1 ht
  have hlb := lenB_true.1 hl
  have hbad : a < 288 ∨ (n : Int) < len ∨ (n : Int) - len < a := by
    simp only [withinB, Bool.and_eq_false_iff, decide_eq_false_iff_not] at hw; omega
  have t1 : decide (tag < 0) = false := by simp; omega
  have t2 : decide (15 < tag) = false := by simp; omega
  have t3 : decide (len < 1) = false := by simp; omega
  have t4 : decide (1000 < len) = false := by simp; omega
  unfold entV
  go_enter Tryz.func111, Tryz.ntmps111
  go_wp2_with fail
  refine (ref_handle_any h _).mono ?_
  rintro e w1 ⟨rfl, rfl⟩
  rw [hh]
  clear hw ht hl hh
  by_cases q1 : a < 288
  · clear hbad htb hlb
    go_wp2_with fail
    go_ret2
    exact ⟨rfl, hB⟩
  · by_cases q2 : (n : Int) < a
    · clear hbad htb hlb
      go_wp2_with fail
      go_ret2
      exact ⟨rfl, hB⟩
    · have s1 : IntKind.i64.wrap ((n : Int) - a) = (n : Int) - a := IntWalk.i64_in _ (by omega)
      have q3 : (n : Int) - a < len := by omega
      clear hbad htb hlb
      go_wp2_with fail
      go_ret2
      exact ⟨rfl, hB⟩
def PutAt (n : Nat) (o : Nat) (x s : Int) (l l' : Bytes) : Prop := ∀ (A : Option Addr) (c : Nat) (W : World), Rd W A l → Calls Tryz.prog 142 #[.slice A n c, .int .i64 (o : Int), .int .i64 x, .int .i64 s] W fun e w' => ∃ A' c', e = .returned (.tuple #[.slice A' n c', .int .i64 0]) ∧ Rd w' A' l' ∧ Below W.heap.size W w'
theorem putAt (n o x s : Nat) (l : Bytes) (hn : l.length = n) (hl : n ≤ 140737488351232) (h1 : 1 ≤ s) (h4 : s ≤ 4) (hx : (x : Int) ≤ mostN (s : Int)) (ha : o + s ≤ n) : PutAt n o (x : Int) (s : Int) l (splice l o (numB x s)) :=
  fun A c W hW => refPut_fit A n c l o x s W hn hl hW h1 h4 hx ha
set_option maxRecDepth 100000 in
theorem refPutEntry_walk (A : Option Addr) (n c k o o1 o3 t tt b m : Nat) (l l1 l2 l3 : Bytes) (w : World) (hrd : Rd w A l) (hh : handleB ((k : Int) + 1) = true)
    (s0 : IntKind.i64.wrap (k : Int) = (k : Int)) (s1 : IntKind.i64.wrap (5 * (k : Int)) = (o : Int)) (s2 : IntKind.i64.wrap ((t : Int) + 1) = (tt : Int))
    (s3 : IntKind.i64.wrap ((o : Int) + 1) = (o1 : Int)) (s4 : IntKind.i64.wrap ((o : Int) + 3) = (o3 : Int)) (ht : t ≤ 15) (hm1 : 1 ≤ m) (hm : m ≤ 1000) (hb : 288 ≤ b) (hbn : b + m ≤ n) (hn : n ≤ 6400)
    (c1 : PutAt n o tt 1 l l1) (c2 : PutAt n o1 b 2 l1 l2) (c3 : PutAt n o3 m 2 l2 l3) :
    Calls Tryz.prog 111 #[.slice A n c, entV ((k : Int) + 1) b m t] w fun e w' => ∃ A' c', e = .returned (.tuple #[.slice A' n c', .int .i64 0]) ∧ Rd w' A' l3 ∧ Below w.heap.size w w' := by
  have hB : Below w.heap.size w (w.alloc (.cells #[.int .i64 ((k : Int) + 1), .int .i64 b, .int .i64 m, .int .i64 t] 85)) := (Below.refl _ _).alloc (Nat.le_refl _) _
  have hF0 := fourAt_one w ((k : Int) + 1) b m t 85
  have s5 : IntKind.i64.wrap ((n : Int) - b) = (n : Int) - b := IntWalk.i64_in _ (by omega)
  have t1 : decide ((t : Int) < 0) = false := by simp
  have t2 : decide (15 < (t : Int)) = false := by simp; omega
  have t2' : decide (15 < t) = false := by simp; omega
  have t3 : decide ((m : Int) < 1) = false := by simp; omega
  have t3' : decide (m < 1) = false := by simp; omega
  have t4 : decide (1000 < (m : Int)) = false := by simp; omega
  have t4' : decide (1000 < m) = false := by simp; omega
  have t5 : decide ((b : Int) < 288) = false := by simp; omega
  have t5' : decide (b < 288) = false := by simp; omega
  have t6 : decide ((n : Int) < b) = false := by simp; omega
  have t6' : decide (n < b) = false := by simp; omega
  have t7 : decide ((n : Int) - b < m) = false := by simp; omega
  have hr0 := hrd.below hB
  have C1 := Hidden.mk c1
  have C2 := Hidden.mk c2
  have C3 := Hidden.mk c3
  clear ht hm1 hm hb hbn hn c1 c2 c3 hrd
  unfold entV
  go_enter Tryz.func111, Tryz.ntmps111
  go_wp2_with fail
  refine (ref_handle_any _ _).mono ?_
  rintro e w1 ⟨rfl, rfl⟩
  rw [hh]
  clear hh
  go_wp2_with fail
  generalize w.alloc (.cells #[.int .i64 ((k : Int) + 1), .int .i64 (b : Int), .int .i64 (m : Int), .int .i64 (t : Int)] 85) = w0 at *
  refine (C1.out A c _ hr0).mono ?_
  rintro e w1 ⟨A1, c1, rfl, hr1, hb1⟩
  have hF1 := hF0.below hb1
  have hB1 := hB.trans (hb1.mono hB.size)
  have HF1 := Hidden.mk hF1
  obtain ⟨x0, x1, x2, x3⟩ := hF1
  clear hb1 hF0
  go_wp2_with fail
  refine (C2.out A1 c1 _ hr1).mono ?_
  rintro e w2 ⟨A2, c2, rfl, hr2, hb2⟩
  have hF2 := HF1.out.below hb2
  have hB2 := hB1.trans (hb2.mono hB1.size)
  obtain ⟨y0, y1, y2, y3⟩ := hF2
  clear hb2 x0 x1 x2 x3
  go_wp2_with fail
  refine (C3.out A2 c2 _ hr2).mono ?_
  rintro e w3 ⟨A3, c3, rfl, hr3, hb3⟩
  have hB3 := hB2.trans (hb3.mono hB2.size)
  clear hb3 y0 y1 y2 y3
  go_wp2_with fail
  go_ret2
  exact ⟨A3, c3, rfl, hr3, hB3⟩
theorem putEnt_three (l : Bytes) (k t b m : Nat) (h : 5 * k + 5 ≤ l.length) (ht : t ≤ 15) : putEnt l ((k : Int) + 1) (b : Int) (m : Int) (t : Int) = splice (splice (splice l (5 * k) (numB (t + 1) 1)) (5 * k + 1) (numB b 2)) (5 * k + 3) (numB m 2) := by
  have e1 := splice_join l (numB (t + 1) 1) (numB b 2) (5 * k) (by rw [numB_length, numB_length]; omega)
  have e2 := splice_join l (numB (t + 1) 1 ++ numB b 2) (numB m 2) (5 * k) (by rw [List.length_append, numB_length, numB_length, numB_length]; omega)
  rw [List.length_append, numB_length, numB_length] at e2
  rw [numB_length] at e1
  rw [e1, show 5 * k + 3 = 5 * k + (1 + 2) by omega, e2]
  unfold putEnt entB
  rw [entO_k]
  have hm : numB (t + 1) 1 = [UInt8.ofNat (t + 1)] := by
    show [UInt8.ofNat ((t + 1) % 256)] = _
    rw [Nat.mod_eq_of_lt (by omega)]
  rw [hm]
  rfl
theorem refPutEntry_ok (A : Option Addr) (n c : Nat) (l : Bytes) (h a len tag : Int) (w : World) (hln : l.length = n) (hr : rightB n = true) (hrd : Rd w A l) (hh : handleB h = true) (ht : tagB tag = true) (hl : lenB len = true) (hw : withinB n a len = true) :
    Calls Tryz.prog 111 #[.slice A n c, entV h a len tag] w fun e w' => ∃ A' c', e = .returned (.tuple #[.slice A' n c', .int .i64 0]) ∧ Rd w' A' (putEnt l h a len tag) ∧ Below w.heap.size w w' := by
  have htb := tagB_true.1 ht
  have hlb := lenB_true.1 hl
  have hhb := handleB_true.1 hh
  have hwb := withinB_true.1 hw
  have hnb := rightB_true.1 hr
  obtain ⟨k, rfl⟩ : ∃ k : Nat, h = (k : Int) + 1 := ⟨(h - 1).toNat, by omega⟩
  obtain ⟨t, rfl⟩ := Int.eq_ofNat_of_zero_le (show 0 ≤ tag by omega)
  obtain ⟨b, rfl⟩ := Int.eq_ofNat_of_zero_le (show 0 ≤ a by omega)
  obtain ⟨m, rfl⟩ := Int.eq_ofNat_of_zero_le (show 0 ≤ len by omega)
  rw [putEnt_three l k t b m (by omega) (by omega)]
  have hl1 : (splice l (5 * k) (numB (t + 1) 1)).length = n := by rw [splice_len _ _ _ (by rw [numB_length]; omega)]; exact hln
  have hl2 : (splice (splice l (5 * k) (numB (t + 1) 1)) (5 * k + 1) (numB b 2)).length = n := by rw [splice_len _ _ _ (by rw [numB_length, hl1]; omega)]; exact hl1
  have hm1 : mostN ((1 : Nat) : Int) = 255 := rfl
  have hm2 : mostN ((2 : Nat) : Int) = 65535 := rfl
  exact refPutEntry_walk A n c k (5 * k) (5 * k + 1) (5 * k + 3) t (t + 1) b m l _ _ _ w hrd hh (IntWalk.i64_in _ (by omega)) (by rw [IntWalk.i64_in _ (by omega)]; omega) (by rw [IntWalk.i64_in _ (by omega)]; omega) (by rw [IntWalk.i64_in _ (by omega)]; omega) (by rw [IntWalk.i64_in _ (by omega)]; omega)
    (by omega) (by omega) (by omega) (by omega) (by omega) (by omega)
    (putAt n (5 * k) (t + 1) 1 l hln (by omega) (by omega) (by omega) (by rw [hm1]; omega) (by omega))
    (putAt n (5 * k + 1) b 2 _ hl1 (by omega) (by omega) (by omega) (by rw [hm2]; omega) (by omega))
    (putAt n (5 * k + 3) m 2 _ hl2 (by omega) (by omega) (by omega) (by rw [hm2]; omega) (by omega))
theorem refPutEntry_any (A : Option Addr) (n c : Nat) (l : Bytes) (h a len tag : Int) (w : World) (hln : l.length = n) (hr : rightB n = true) (hrd : Rd w A l) :
    Calls Tryz.prog 111 #[.slice A n c, entV h a len tag] w fun e w' => RowAns w w' e (entF l h a len tag) (.int .i64 (entE n h a len tag)) := by
  unfold entF
  rw [hln]
  by_cases hbad : handleB h = false ∨ tagB tag = false ∨ lenB len = false
  · have hE : entE n h a len tag = 1 := by unfold entE; rw [if_pos hbad]
    rw [hE]
    exact (refPutEntry_e1 A n c h a len tag w hbad).mono fun e w' ⟨he, hb⟩ => ⟨none, 0, he, Rd.nil_, hb⟩
  · have h1 : handleB h = true := by cases hx : handleB h <;> simp_all
    have h2 : tagB tag = true := by cases hx : tagB tag <;> simp_all
    have h3 : lenB len = true := by cases hx : lenB len <;> simp_all
    cases hw : withinB n a len with
    | false =>
      have hE : entE n h a len tag = 3 := by unfold entE; rw [if_neg hbad, if_pos hw]
      rw [hE]
      exact (refPutEntry_e3 A n c h a len tag w (by have := rightB_true.1 hr; omega) h1 h2 h3 hw).mono fun e w' ⟨he, hb⟩ => ⟨none, 0, he, Rd.nil_, hb⟩
    | true =>
      have hE : entE n h a len tag = 0 := by unfold entE; rw [if_neg hbad, if_neg (by simp [hw])]
      have hL : (putEnt l h a len tag).length = n := by rw [putEnt_len _ _ _ _ _ (handleB_true.1 h1).1 (handleB_true.1 h1).2 (by have := rightB_true.1 hr; omega)]; exact hln
      rw [hE, if_pos rfl]
      refine (refPutEntry_ok A n c l h a len tag w hln hr hrd h1 h2 h3 hw).mono ?_
      rintro e w' ⟨A', c', rfl, hrd', hb⟩
      exact ⟨A', c', by rw [hL]; rfl, hrd', hb⟩
/-- the program's Put, told likewise -/
theorem iput_ans (A : Option Addr) (n c : Nat) (l : Bytes) (h a len tag : Int) (w : World) (hln : l.length = n) (hnc : n ≤ c) (hr : rightB n = true) (hrd : Rd w A l) :
    Calls Tryz.prog 82 #[.slice A n c, entV h a len tag] w fun e w' => RowAns w w' e (entF l h a len tag) (errV (entE n h a len tag)) := by
  unfold entF
  rw [hln]
  by_cases hbad : handleB h = false ∨ tagB tag = false ∨ lenB len = false
  · have hE : entE n h a len tag = 1 := by unfold entE; rw [if_pos hbad]
    rw [hE]
    exact (iput_e1 A n c h a len tag w hr hbad).mono fun e w' ⟨he, hb⟩ => ⟨none, 0, he, Rd.nil_, hb⟩
  · have h1 : handleB h = true := by cases hx : handleB h <;> simp_all
    have h2 : tagB tag = true := by cases hx : tagB tag <;> simp_all
    have h3 : lenB len = true := by cases hx : lenB len <;> simp_all
    cases hw : withinB n a len with
    | false =>
      have hE : entE n h a len tag = 3 := by unfold entE; rw [if_neg hbad, if_pos hw]
      rw [hE]
      exact (iput_e3w A n c h a len tag w hr h1 h2 h3 hw).mono fun e w' ⟨he, hb⟩ => ⟨none, 0, he, Rd.nil_, hb⟩
    | true =>
      have hE : entE n h a len tag = 0 := by unfold entE; rw [if_neg hbad, if_neg (by simp [hw])]
      have hL : (putEnt l h a len tag).length = n := by rw [putEnt_len _ _ _ _ _ (handleB_true.1 h1).1 (handleB_true.1 h1).2 (by have := rightB_true.1 hr; omega)]; exact hln
      rw [hE, if_pos rfl]
      refine (iput_ok A n c l h a len tag w hln hnc hrd hr h1 h2 h3 hw).mono ?_
      rintro e w' ⟨g, cap, rfl, hg, hrow, hb⟩
      exact ⟨some ⟨g, 0, none⟩, cap, by rw [hL]; rfl, hrow.rd, hb⟩
end Go.Proofs.YtijcclpnkfmpnaaGreat
/- The reference's Check: a row of numbers in memory; what is wrong with handles. -/
namespace Go.Proofs.YtijcclpnkfmpnaaGreat
open Go.RowKit

def updI (f : Nat → Int) (i : Nat) (v : Int) (j : Nat) : Int := if j = i then v else f j
/-- block g is a row of N numbers -/
structure IRow (w : World) (g N : Nat) (f : Nat → Int) : Prop where
  out : ∃ cur, w.heap[g]? = some (.cells cur 3 (0, 0)) ∧ cur.size = N ∧ ∀ i, i < N → cur[i]? = some (.int .i64 (f i))
section
variable {w w' : World} {g N : Nat} {f : Nat → Int}
theorem IRow.cell (h : IRow w g N f) (i : Nat) (hi : i < N) : w.cell? ⟨g, i, none⟩ = some (.int .i64 (f i)) := by
  obtain ⟨cur, h0, h1, h2⟩ := h.out
  rw [cell_of_row w g i cur _ _ h0]; exact h2 i hi
theorem IRow.frozen (h : IRow w g N f) (i : Nat) : w.frozen? ⟨g, i, none⟩ = false := by
  obtain ⟨cur, h0, _⟩ := h.out
  exact frozen_of_row w g i _ _ h0
theorem IRow.set (h : IRow w g N f) (i : Nat) (v : Int) : IRow (w.setCell ⟨g, i, none⟩ (.int .i64 v)) g N (updI f i v) := by
  obtain ⟨cur, h0, h1, h2⟩ := h.out
  refine ⟨cur.setIfInBounds i (.int .i64 v), heap_setK h0 _, by simpa using h1, fun j hj => ?_⟩
  rw [Array.getElem?_setIfInBounds]
  unfold updI
  by_cases hij : i = j
  · rw [if_pos hij, if_pos (by omega), if_pos hij.symm]
  · rw [if_neg hij, if_neg (fun e => hij e.symm)]; exact h2 j hj
theorem IRow.block (h : IRow w g N f) (hb : w'.heap[g]? = w.heap[g]?) : IRow w' g N f := by
  obtain ⟨cur, h0, h1⟩ := h.out
  exact ⟨cur, hb.trans h0, h1⟩
theorem IRow.lt (h : IRow w g N f) : g < w.heap.size := by
  obtain ⟨cur, h0, _⟩ := h.out
  exact (Array.getElem?_eq_some_iff.1 h0).1
theorem IRow.below (h : IRow w g N f) (hb : Below w.heap.size w w') : IRow w' g N f := h.block (hb.block _ h.lt)
theorem IRow.congr {f' : Nat → Int} (h : IRow w g N f) (he : ∀ i, i < N → f i = f' i) : IRow w g N f' := by
  obtain ⟨cur, h0, h1, h2⟩ := h.out
  exact ⟨cur, h0, h1, fun i hi => by rw [h2 i hi, he i hi]⟩
theorem IRow.ne (h : IRow w g N f) {base : Nat} {e : TypeId} {size n : Nat} {v : Value} {xs : List Value} (h2 : w.ownsRow base e size v n xs) (hne : e ≠ 3) : v.ownBlock ≠ some g := fun he => by
  obtain ⟨cur, h0, _⟩ := h.out
  rcases h2.2 with ⟨rfl, _⟩ | ⟨g', cap', cur', rfl, _, hh', _⟩
  · simp [Value.ownBlock] at he
  · obtain rfl : g' = g := by simpa [Value.ownBlock] using he
    rw [h0] at hh'
    injection hh' with hh'
    injection hh' with _ hh'
    exact hne hh'.symm
theorem IRow.grown (h : IRow w g N f) {v : Value} (hg : w.grownBy w' v.ownBlock) (hne : v.ownBlock ≠ some g) : IRow w' g N f := h.block (hg.block g h.lt (fun e => hne e.symm))
end
theorem int_infoC : (Tryz.prog.info? 3).map (fun i => (i.zero, i.size, i.bytes)) = some (some (.int .i64 0), 1, 8) := by kernel_rfl
/-- make([]int, n) -/
theorem mk_ints (n : Nat) (hn : n ≤ 35184372088832) (w : World) :
    (Instr.makeSlice 24 (.int .i64 n) (.int .i64 n)).run Tryz.prog w = .ok (.slice (some ⟨w.heap.size, 0, none⟩) n n) (w.alloc (.cells (Array.replicate n (.int .i64 0)) 3)) := by
  obtain ⟨i0, hi0, hz0, hz1, hz2⟩ := info_parts int_infoC
  have hr := run_make (P := Tryz.prog) w 24 3 i0 _ Tryz.underlying24 hi0 hz0 .i64 .i64 n n (by omega) (by omega) (by rw [hz2]; omega) (by omega)
  simp only [Int.toNat_natCast, hz1, Nat.mul_one] at hr
  have hcells : madeCells (Value.int IntKind.i64 0).cells n = Array.replicate n (.int .i64 0) := by
    apply Array.ext'
    rw [show (Value.int IntKind.i64 0).cells = #[Value.int IntKind.i64 0] from rfl, toList_madeCells_one]
    simp
  rw [hcells] at hr
  exact hr
theorem IRow.new (w : World) (n : Nat) : IRow (w.alloc (.cells (Array.replicate n (.int .i64 0)) 3)) w.heap.size n (fun _ => 0) :=
  ⟨_, heap_alloc_new w _, by simp, fun i hi => by simp [hi]⟩
/-- what the reference notes of a handle -/
def wvK (k : Nat) : Int := if k = 6 then 1 else if k = 2 then 2 else if k = 1 then 3 else 0
def whatF (n : Nat) (R : Nat → Bytes) (m i : Nat) : Int := if 1 ≤ i ∧ i ≤ m then wvK (kindH n R (i - 1)) else 0
theorem whatF_succ (n : Nat) (R : Nat → Bytes) (k i : Nat) : whatF n R (k + 1) i = updI (whatF n R k) (k + 1) (wvK (kindH n R k)) i := by
  unfold whatF updI
  by_cases h : i = k + 1
  · rw [if_pos (by omega), if_pos h, h]; rfl
  · rw [if_neg h]
    dsimp only
    by_cases h2 : 1 ≤ i ∧ i ≤ k
    · rw [if_pos (by omega), if_pos h2]
    · rw [if_neg (by omega), if_neg h2]
theorem whatF_zero (n : Nat) (R : Nat → Bytes) (k : Nat) (h : wvK (kindH n R k) = 0) (i : Nat) : whatF n R (k + 1) i = whatF n R k i := by
  rw [whatF_succ]
  unfold updI
  by_cases hi : i = k + 1
  · rw [if_pos hi, h, hi]; unfold whatF; rw [if_neg (by omega)]
  · rw [if_neg hi]
theorem whatF_at (n : Nat) (R : Nat → Bytes) (k j : Nat) (h : j < k) : whatF n R k (j + 1) = wvK (kindH n R j) := by
  unfold whatF; rw [if_pos (by omega)]; rfl
theorem wv_whole (n : Nat) (R : Nat → Bytes) (j : Nat) : wholeE n (R j) = (decide (wvK (kindH n R j) = 1) || decide (wvK (kindH n R j) = 2)) := by
  obtain ⟨b, hb⟩ : ∃ b, (List.range j).any (fun i => wholeE n (R i) && overE (R j) (R i)) = b := ⟨_, rfl⟩
  unfold kindH
  rw [hb]
  unfold wholeE wvK
  cases hasE (R j) <;> cases strayE n (R j) <;> cases b <;> cases zeroE (R j) <;> simp
theorem updI_same (f : Nat → Int) (i : Nat) (a b : Int) (j : Nat) : updI (updI f i a) i b j = updI f i b j := by
  unfold updI; split <;> rfl
theorem zero5 (r : Bytes) (h5 : r.length = 5) (h0 : hasE r = false) : zeroE r = (decide (rAt r = 0) && decide (rLen r = 0)) := by
  match r, h5 with
  | [a, b, c, d, e], _ =>
    have hz : ∀ x : UInt8, x = 0 ↔ x.toNat = 0 := fun x => by rw [← UInt8.toNat_inj]; rfl
    have ha : a = 0 := by simpa [hasE, rHd] using h0
    subst ha
    have hA : rAt [0, b, c, d, e] = b.toNat + 256 * c.toNat := by simp [rAt, ofB]
    have hL : rLen [0, b, c, d, e] = d.toNat + 256 * e.toNat := by simp [rLen, ofB]
    rw [hA, hL]
    by_cases h : b = 0 ∧ c = 0 ∧ d = 0 ∧ e = 0
    · obtain ⟨rfl, rfl, rfl, rfl⟩ := h
      decide
    · have h' : ¬ (b.toNat = 0 ∧ c.toNat = 0 ∧ d.toNat = 0 ∧ e.toNat = 0) := fun hh => h ⟨(hz b).2 hh.1, (hz c).2 hh.2.1, (hz d).2 hh.2.2.1, (hz e).2 hh.2.2.2⟩
      have e1 : zeroE [0, b, c, d, e] = false := by
        cases hq : zeroE [0, b, c, d, e] with
        | false => rfl
        | true =>
          exfalso
          apply h
          simpa [zeroE, nonZero] using hq
      rw [e1]
      symm
      rw [Bool.and_eq_false_iff, decide_eq_false_iff_not, decide_eq_false_iff_not]
      omega
theorem stray_entE (n : Nat) (k : Nat) (hk : k < 40) (r : Bytes) : (entE n ((k : Int) + 1) (rAt r) (rLen r) (rTag r) = 0 ↔ strayE n r = false) := by
  have hh : handleB ((k : Int) + 1) = true := handleB_true.2 (by omega)
  unfold entE strayE
  rw [hh]
  cases tagB (rTag r) <;> cases lenB (rLen r) <;> cases withinB n (rAt r) (rLen r) <;> simp
/-- over one of the first j -/
def anyO (n : Nat) (R : Nat → Bytes) (k j : Nat) : Bool := (List.range j).any fun i => wholeE n (R i) && overE (R k) (R i)
theorem anyO_succ (n : Nat) (R : Nat → Bytes) (k j : Nat) : anyO n R k (j + 1) = (anyO n R k j || (wholeE n (R j) && overE (R k) (R j))) := by
  unfold anyO; rw [List.range_succ, List.any_append]; simp
theorem wvK_one {k : Nat} (n : Nat) (R : Nat → Bytes) : wvK (kindH n R k) = 1 ↔ kindH n R k = 6 := by
  rcases kindH_cases n R k with h | h | h | h | h <;> rw [h] <;> decide
theorem leads_what (n : Nat) (R : Nat → Bytes) (x : UInt8) : leadsE n R x = (handleB (x.toNat : Int) && decide (whatF n R 40 x.toNat = 1)) := by
  rw [Bool.eq_iff_iff, Bool.and_eq_true, decide_eq_true_eq, handleB_true]
  unfold leadsE
  rw [List.any_eq_true]
  constructor
  · rintro ⟨k, hk, h⟩
    have hk := List.mem_range.1 hk
    simp only [Bool.and_eq_true, beq_iff_eq] at h
    rw [h.2]
    exact ⟨by omega, by rw [whatF_at n R 40 k hk]; exact (wvK_one n R).2 h.1⟩
  · rintro ⟨hx, h⟩
    refine ⟨x.toNat - 1, List.mem_range.2 (by omega), ?_⟩
    have e : x.toNat = x.toNat - 1 + 1 := by omega
    rw [e, whatF_at n R 40 (x.toNat - 1) (by omega)] at h
    simp only [Bool.and_eq_true, beq_iff_eq]
    exact ⟨(wvK_one n R).1 h, e⟩
set_option maxRecDepth 100000 in
/-- the loop over the overlaps of one handle, told as a step -/
theorem any_next (n : Nat) (R : Nat → Bytes) (k j : Nat) (f : Nat → Int) (i : Nat) :
    updI f (k + 1) (if anyO n R k (j + 1) = true then 2 else 1) i = if (wholeE n (R j) && overE (R k) (R j)) = true then updI (updI f (k + 1) (if anyO n R k j = true then 2 else 1)) (k + 1) 2 i else updI f (k + 1) (if anyO n R k j = true then 2 else 1) i := by
  rw [anyO_succ]
  cases (wholeE n (R j) && overE (R k) (R j)) with
  | true => rw [Bool.or_true, if_pos rfl, if_pos rfl, updI_same]
  | false => rw [Bool.or_false, if_neg (show ¬ false = true by decide)]
end Go.Proofs.YtijcclpnkfmpnaaGreat
/- The reference's Check: its contract. -/
namespace Go.Proofs.YtijcclpnkfmpnaaGreat
open Go.RowKit

theorem FourAt.block {w w' : World} {p : Nat} {a b c d : Int} (h : FourAt w p a b c d) (hb : w'.heap[p]? = w.heap[p]?) : FourAt w' p a b c d :=
  ⟨(World.cell?_of_block (w := w) (a := ⟨p, 0, none⟩) hb).trans h.1, (World.cell?_of_block (w := w) (a := ⟨p, 1, none⟩) hb).trans h.2.1, (World.cell?_of_block (w := w) (a := ⟨p, 2, none⟩) hb).trans h.2.2.1, (World.cell?_of_block (w := w) (a := ⟨p, 3, none⟩) hb).trans h.2.2.2⟩
theorem size_setC (w : World) (a : Addr) (v : Value) : (w.setCell a v).heap.size = w.heap.size := by simp [World.setCell]
/-- the state of the walk: the faults so far, what is noted -/
structure CSt (w wr : World) (g : Nat) (v : Value) (F : List Flt) (f : Nat → Int) : Prop where
  bel : Below w.heap.size w wr
  own : wr.ownsRow w.heap.size 130 2 v F.length (F.flatMap fcells)
  row : IRow wr g 41 f
  gw : w.heap.size ≤ g
section
variable {w wr w' : World} {g : Nat} {v v' : Value} {F : List Flt} {f : Nat → Int}
theorem CSt.below (h : CSt w wr g v F f) (hb : Below wr.heap.size wr w') : CSt w w' g v F f := ⟨h.bel.trans (hb.mono h.bel.size), own_below h.own hb, h.row.below hb, h.gw⟩
theorem CSt.set (h : CSt w wr g v F f) (i : Nat) (x : Int) : CSt w (wr.setCell ⟨g, i, none⟩ (.int .i64 x)) g v F (updI f i x) :=
  ⟨h.bel.setCell (p := ⟨g, i, none⟩) h.gw _, ownsRow_block h.own fun q hq => Below.heap_setCell _ _ _ _ (fun e => h.row.ne h.own (by decide) (by rw [hq]; exact congrArg some (by simpa using e))), h.row.set i x, h.gw⟩
theorem CSt.add (h : CSt w wr g v F f) {x : Flt} (hg : wr.grownBy w' v.ownBlock) (h' : w'.ownsRow w.heap.size 130 2 v' (F.length + 1) (F.flatMap fcells ++ fcells x)) : CSt w w' g v' (F ++ [x]) f :=
  ⟨h.bel.grown hg h.bel.size (fun q hq => (h.own.lt q hq).1), by simpa using h', h.row.grown hg (h.row.ne h.own (by decide)), h.gw⟩
theorem CSt.congr {f' : Nat → Int} (h : CSt w wr g v F f) (he : ∀ i, f i = f' i) : CSt w wr g v F f' := ⟨h.bel, h.own, h.row.congr fun i _ => he i, h.gw⟩
theorem CSt.eqF {F' : List Flt} (h : CSt w wr g v F f) (he : F = F') : CSt w wr g v F' f := he ▸ h
end
set_option maxRecDepth 100000 in
set_option maxHeartbeats 2000000 in
theorem refCheck_ok (A : Option Addr) (n c : Nat) (l : Bytes) (w : World) (hn : l.length = n) (hr : rightB n = true) (hnc : n ≤ c) (hrd : Rd w A l) :
    Calls Tryz.prog 74 #[.slice A n c] w fun e w' => ∃ v, e = .returned v ∧ w'.ownsRow w.heap.size 130 2 v (checkL l).length ((checkL l).flatMap fcells) ∧ Below w.heap.size w w' := by
  have hnb := rightB_true.1 hr
  obtain ⟨i1, hi1, hy0, hy1, hy2⟩ := info_parts fault_info
  obtain ⟨i2, hi2, hx0, hx1, hx2⟩ := info_parts string_info
  obtain ⟨pb, ob, rfl, hpl⟩ := hrd.lt (by omega)
  have HCK : Hidden (checkL l = faultsH n (rawE l) 40 ++ faultsR (leadsE n (rawE l)) (rawR l) 8) := ⟨by unfold checkL; rw [hn]⟩
  have HENT : Hidden (∀ k : Nat, k < 40 → ∀ W, Below w.heap.size w W → Calls Tryz.prog 110 #[.slice (some ⟨pb, ob, none⟩) n c, .int .i64 ((k : Int) + 1)] W fun e w' => e = .returned (.tuple #[.agg #[.int .i64 ((k : Int) + 1), .int .i64 (rAt (rawE l k) : Int), .int .i64 (rLen (rawE l k) : Int), .int .i64 (rTag (rawE l k))], .bool (hasE (rawE l k))]) ∧ Below W.heap.size W w') :=
    ⟨fun k hk W hW => refEntry_ok _ n c l k W hn (by omega) hnc (hrd.below hW) hk⟩
  have HPUT : Hidden (∀ k : Nat, k < 40 → ∀ W, Below w.heap.size w W → Calls Tryz.prog 111 #[.slice (some ⟨pb, ob, none⟩) n c, .agg #[.int .i64 ((k : Int) + 1), .int .i64 (rAt (rawE l k) : Int), .int .i64 (rLen (rawE l k) : Int), .int .i64 (rTag (rawE l k))]] W fun e w' => ∃ A' n' c', e = .returned (.tuple #[.slice A' n' c', .int .i64 (entE n ((k : Int) + 1) (rAt (rawE l k)) (rLen (rawE l k)) (rTag (rawE l k)) : Int)]) ∧ Below W.heap.size W w') :=
    ⟨fun k hk W hW => (refPutEntry_any (some ⟨pb, ob, none⟩) n c l ((k : Int) + 1) (rAt (rawE l k)) (rLen (rawE l k)) (rTag (rawE l k)) W hn hr (hrd.below hW)).mono fun e w' ⟨A', c', he, _, hb⟩ => ⟨A', _, c', he, hb⟩⟩
  have HLEN : Hidden (∀ k : Nat, k < 40 → (rawE l k).length = 5) := ⟨fun k hk => rawE_len l k hk (by omega)⟩
  have HSTR : Hidden (∀ k : Nat, k < 40 → (entE n ((k : Int) + 1) (rAt (rawE l k)) (rLen (rawE l k)) (rTag (rawE l k)) = 0 ↔ strayE n (rawE l k) = false)) := ⟨fun k hk => stray_entE n k hk _⟩
  have HRAW : Hidden (∀ k : Nat, k < 8 → ∀ W, Below w.heap.size w W → Rd W (some ⟨pb, ob + (200 + 11 * k), none⟩) (rawR l k)) := ⟨fun k hk W hW => by
    have := rawR_rd (hrd.below hW) k hk (by omega)
    rwa [Option.map_some, Addr.add_lit] at this⟩
  have HLEN2 : Hidden (∀ k : Nat, k < 8 → (rawR l k).length = 11) := ⟨fun k hk => rawR_len l k hk (by omega)⟩
  have hmk := fun W => mk_ints 41 (by omega) W
  rw [show ((41 : Nat) : Int) = 41 from rfl] at hmk
  have HW0 := Hidden.mk (CSt.mk ((Below.refl w.heap.size w).alloc (Nat.le_refl _) (.cells (Array.replicate 41 (.int .i64 0)) 3)) (World.ownsRow_nil _ _ _ _) ((IRow.new w 41).congr (f' := whatF n (rawE l) 0) (fun i _ => by unfold whatF; rw [if_neg (by omega)])) (Nat.le_refl _) : CSt w _ w.heap.size (.slice none 0 0) (faultsH n (rawE l) 0) (whatF n (rawE l) 0))
  generalize rawE l = R at *
  generalize rawR l = S at *
  clear hrd hn
  go_enter Tryz.func74, Tryz.ntmps74
  go_wp2_with (simp only [hmk])
  clear hmk
  go_loopg [3, 5] 40 (fun q v i wr => ∃ k : Nat, k ≤ 40 ∧ q = 40 - k ∧ i = .int .i64 ((k : Int) + 1) ∧ Hidden (CSt w wr w.heap.size v (faultsH n R k) (whatF n R k)))
  case atStart => exact ⟨0, by omega, rfl, rfl, HW0⟩
  case round =>
    obtain ⟨k, hk, rfl, rfl, hst⟩ := hrel
    clear HW0
    by_cases hlt : k < 40
    · have t0 : decide ((k : Int) + 1 ≤ 40) = true := by simp; omega
      have s1 : IntKind.i64.wrap ((k : Int) + 1 + 1) = (k : Int) + 1 + 1 := IntWalk.i64_in _ (by omega)
      have hlF := faultsH_len n R k
      have HG := Hidden.mk (HENT.out k hlt wr hst.out.bel)
      have HSF := Hidden.mk (faultsH_succ n R k)
      have HL5 := Hidden.mk (HLEN.out k hlt)
      go_wp2_with fail
      refine HG.out.mono ?_
      rintro e w1 ⟨rfl, hb1⟩
      have hal := (Below.refl w1.heap.size w1).alloc (Nat.le_refl _) (.cells #[.int .i64 ((k : Int) + 1), .int .i64 (rAt (R k) : Int), .int .i64 (rLen (R k) : Int), .int .i64 (rTag (R k))] 85)
      have H2 := Hidden.mk ((hst.out.below hb1).below hal)
      have HF4 := Hidden.mk (fourAt_one w1 ((k : Int) + 1) (rAt (R k) : Int) (rLen (R k) : Int) (rTag (R k)) 85)
      have HBX : Hidden (w.heap.size < w1.heap.size) := ⟨Nat.lt_of_lt_of_le hst.out.row.lt hb1.size⟩
      clear hb1 hal hst HG
      cases hE : hasE (R k) with
      | false =>
        have HKK : Hidden (kindH n R k = if (decide (rAt (R k) = 0) && decide (rLen (R k) = 0)) = true then 0 else 3) := ⟨by unfold kindH; rw [hE, zero5 (R k) HL5.out hE]; simp⟩
        obtain ⟨f0, f1, f2, f3⟩ := HF4.out
        generalize rAt (R k) = a1 at *
        generalize rLen (R k) = a2 at *
        generalize rTag (R k) = a3 at *
        go_upto_region 7 with (fail)
        generalize w1.alloc (.cells #[.int .i64 ((k : Int) + 1), .int .i64 (a1 : Int), .int .i64 (a2 : Int), .int .i64 a3] 85) = w2 at *
        generalize w1.heap.size = bx at *
        by_cases z : a1 = 0 ∧ a2 = 0
        · obtain ⟨rfl, rfl⟩ := z
          have e1 : kindH n R k = 0 := by rw [HKK.out]; rfl
          have HN := Hidden.mk ((H2.out.eqF (show faultsH n R k = faultsH n R (k + 1) by rw [HSF.out, e1]; simp [fltOf])).congr (fun i => (whatF_zero n R k (by rw [e1]; rfl) i).symm))
          clear e1 H2 HF4 hE
          go_wp2_with fail
          go_roundg (40 - (k + 1))
          case measure => omega
          case rel => exact ⟨k + 1, by omega, rfl, by go_num, HN⟩
        · have e1 : kindH n R k = 3 := by rw [HKK.out, if_neg (by simpa using z)]
          have HFE : Hidden (faultsH n R (k + 1) = faultsH n R k ++ [⟨3, k + 1⟩]) := ⟨by rw [HSF.out, e1]; rfl⟩
          have HWE : Hidden (∀ i, whatF n R k i = whatF n R (k + 1) i) := ⟨fun i => (whatF_zero n R k (by rw [e1]; rfl) i).symm⟩
          clear e1 HKK hE HF4
          by_cases z1 : a1 = 0
          · have z2 : ¬ a2 = 0 := fun h => z ⟨z1, h⟩
            subst z1
            have t1 : ((a2 : Int) == 0) = false := by simp; omega
            clear z z2
            go_wp2_with (at_builtin; refine wpList_append_lies _ rfl (.tmp 49) (.tmp 52) _ rfl w.heap.size 130 i1 _ 2 16 Tryz.underlying127 hi1 hy0 hy1 hy2 rfl (by decide) u3 (faultsH n R k).length ((faultsH n R k).flatMap fcells) rfl (own_below H2.out.own ((Below.refl _ _).alloc (Nat.le_refl _) _)) ⟨(w2).heap.size, 0, none⟩ 1 1 [.int .i64 3, .int .i64 ((k : Int) + 1)] rfl rfl (World.news_of_block (cs := #[.int .i64 3, .int .i64 ((k : Int) + 1)]) (t := 130) (fr := (0, 0)) (heap_alloc_new (w2) _)) (by simp [Value.oneCell']) (by omega) (by simp only [maxLen]; omega) (by omega) (by have hz_ := H2.out.bel.size; rw [World.size_alloc]; omega) ((w2).heap.size + 1) (by simp) ?_; intro g8 cap8 w8 hown8 hg8 hat8 hlt8)
            have HN := Hidden.mk (((H2.out.add (x := ⟨3, k + 1⟩) (grown_trans' ((Below.refl _ _).alloc (Nat.le_refl _) _) hg8) hown8).eqF HFE.out.symm).congr HWE.out)
            clear hown8 hg8 hat8 hlt8 H2
            go_roundg (40 - (k + 1))
            case measure => omega
            case rel => exact ⟨k + 1, by omega, rfl, by go_num, HN⟩
          · have t1 : ((a1 : Int) == 0) = false := by simp; omega
            clear z z1
            go_wp2_with (at_builtin; refine wpList_append_lies _ rfl (.tmp 49) (.tmp 52) _ rfl w.heap.size 130 i1 _ 2 16 Tryz.underlying127 hi1 hy0 hy1 hy2 rfl (by decide) u3 (faultsH n R k).length ((faultsH n R k).flatMap fcells) rfl (own_below H2.out.own ((Below.refl _ _).alloc (Nat.le_refl _) _)) ⟨(w2).heap.size, 0, none⟩ 1 1 [.int .i64 3, .int .i64 ((k : Int) + 1)] rfl rfl (World.news_of_block (cs := #[.int .i64 3, .int .i64 ((k : Int) + 1)]) (t := 130) (fr := (0, 0)) (heap_alloc_new (w2) _)) (by simp [Value.oneCell']) (by omega) (by simp only [maxLen]; omega) (by omega) (by have hz_ := H2.out.bel.size; rw [World.size_alloc]; omega) ((w2).heap.size + 1) (by simp) ?_; intro g8 cap8 w8 hown8 hg8 hat8 hlt8)
            have HN := Hidden.mk (((H2.out.add (x := ⟨3, k + 1⟩) (grown_trans' ((Below.refl _ _).alloc (Nat.le_refl _) _) hg8) hown8).eqF HFE.out.symm).congr HWE.out)
            clear hown8 hg8 hat8 hlt8 H2
            go_roundg (40 - (k + 1))
            case measure => omega
            case rel => exact ⟨k + 1, by omega, rfl, by go_num, HN⟩
      | true =>
        have HKK : Hidden (kindH n R k = if strayE n (R k) = true then 1 else if anyO n R k k = true then 2 else 6) := ⟨by unfold kindH anyO; rw [hE]; simp⟩
        have HPK := Hidden.mk (HPUT.out k hlt)
        have HST := Hidden.mk (HSTR.out k hlt)
        have b1 := rAt_le (R k)
        have b2 := rLen_le (R k)
        have HOV : Hidden (∀ j, overE (R k) (R j) = (decide (rAt (R k) < rAt (R j) + rLen (R j)) && decide (rAt (R j) < rAt (R k) + rLen (R k)))) := ⟨fun _ => rfl⟩
        obtain ⟨f0, f1, f2, f3⟩ := HF4.out
        generalize hee : entE n ((k : Int) + 1) (rAt (R k)) (rLen (R k)) (rTag (R k)) = ee at *
        generalize rAt (R k) = a1 at *
        generalize rLen (R k) = a2 at *
        generalize rTag (R k) = a3 at *
        clear hE hee
        go_wp2_with fail
        generalize w1.alloc (.cells #[.int .i64 ((k : Int) + 1), .int .i64 (a1 : Int), .int .i64 (a2 : Int), .int .i64 a3] 85) = w2 at *
        generalize w1.heap.size = bx at *
        refine (HPK.out w2 H2.out.bel).mono ?_
        rintro e w3 ⟨A', n', c', rfl, hb3⟩
        have H3 := Hidden.mk (H2.out.below hb3)
        have HF3 := Hidden.mk (HF4.out.below hb3)
        clear hb3 H2 HF4 f0 f1 f2 f3 HPK
        by_cases hz : ee = 0
        · have hs := HST.out.1 hz
          have e1 : kindH n R k = if anyO n R k k = true then 2 else 6 := by rw [HKK.out, hs]; rfl
          have HKE := Hidden.mk e1
          subst hz
          clear e1 hs HST HKK
          have hcell := H3.out.row.cell (k + 1) (by omega)
          have hfr := H3.out.row.frozen (k + 1)
          have HF4 := Hidden.mk (HF3.out.block (w' := w3.setCell ⟨w.heap.size, k + 1, none⟩ (.int .i64 1)) (Below.heap_setCell _ _ _ _ (fun e => by have := HBX.out; simp at e; omega)))
          have H4 := Hidden.mk ((H3.out.set (k + 1) 1).congr (f' := updI (whatF n R k) (k + 1) (if anyO n R k 0 = true then 2 else 1)) (fun i => rfl))
          generalize whatF n R k (k + 1) = ov at hcell
          clear H3 HF3
          go_wp2_with fail
          generalize w3.setCell ⟨w.heap.size, k + 1, none⟩ (.int .i64 1) = w4 at *
          clear hcell hfr
          go_loopg [11] k (fun q i wr => ∃ j : Nat, j ≤ k ∧ q = k - j ∧ i = .int .i64 ((j : Int) + 1) ∧ Hidden (CSt w wr w.heap.size u3 (faultsH n R k) (updI (whatF n R k) (k + 1) (if anyO n R k j = true then 2 else 1)) ∧ FourAt wr bx ((k : Int) + 1) a1 a2 a3))
          case atStart => exact ⟨0, by omega, rfl, rfl, ⟨H4.out, HF4.out⟩⟩
          case round =>
            obtain ⟨j, hj, rfl, rfl, hst⟩ := hrel
            clear H4 HF4
            by_cases hjk : j < k
            · have HGJ := Hidden.mk (HENT.out j (by omega) wr hst.out.1.bel)
              have t0j : decide ((j : Int) + 1 < (k : Int) + 1) = true := by simp; omega
              have s1j : IntKind.i64.wrap ((j : Int) + 1 + 1) = (j : Int) + 1 + 1 := IntWalk.i64_in _ (by omega)
              have HN := Hidden.mk (any_next n R k j (whatF n R k))
              have HOJ := Hidden.mk (HOV.out j)
              have HWH := Hidden.mk (wv_whole n R j)
              have c1 := rAt_le (R j)
              have c2 := rLen_le (R j)
              have hwv : updI (whatF n R k) (k + 1) (if anyO n R k j = true then 2 else 1) (j + 1) = wvK (kindH n R j) := by unfold updI; rw [if_neg (by omega), whatF_at n R k j hjk]
              generalize rAt (R j) = o1 at *
              generalize rLen (R j) = o2 at *
              generalize rTag (R j) = o3 at *
              generalize hasE (R j) = oh at *
              generalize wvK (kindH n R j) = wv at *
              go_wp2_with fail
              refine HGJ.out.mono ?_
              rintro e w5 ⟨rfl, hb5⟩
              have hal := (Below.refl w5.heap.size w5).alloc (Nat.le_refl _) (.cells #[.int .i64 ((j : Int) + 1), .int .i64 (o1 : Int), .int .i64 (o2 : Int), .int .i64 o3] 85)
              have H6 := Hidden.mk (((hst.out.1.below hb5).below hal))
              have HF6 := Hidden.mk ((hst.out.2.below hb5).below hal)
              have HO6 := Hidden.mk (fourAt_one w5 ((j : Int) + 1) (o1 : Int) (o2 : Int) o3 85)
              have s4 : IntKind.i64.wrap ((o1 : Int) + o2) = (o1 : Int) + o2 := IntWalk.i64_in _ (by omega)
              have s5 : IntKind.i64.wrap ((a1 : Int) + a2) = (a1 : Int) + a2 := IntWalk.i64_in _ (by omega)
              clear hb5 hal hst HGJ
              go_upto_region 20 with (fail)
              generalize w5.alloc (.cells #[.int .i64 ((j : Int) + 1), .int .i64 (o1 : Int), .int .i64 (o2 : Int), .int .i64 o3] 85) = w6 at *
              generalize w5.heap.size = by_ at *
              obtain ⟨g0, g1, g2, g3⟩ := HF6.out
              obtain ⟨p0, p1, p2, p3⟩ := HO6.out
              have hcj := H6.out.row.cell (j + 1) (by omega)
              rw [hwv] at hcj
              have hcell := H6.out.row.cell (k + 1) (by omega)
              have hfr := H6.out.row.frozen (k + 1)
              generalize updI (whatF n R k) (k + 1) (if anyO n R k j = true then 2 else 1) (k + 1) = ov at hcell
              clear hwv HO6 g0 g3 p0 p3
              by_cases hv : wv = 1
              · skip
                subst hv
                by_cases d1 : a1 < o1 + o2
                · have e1 : decide ((a1 : Int) < (o1 : Int) + o2) = true := by simp; omega
                  have e1' : decide (a1 < o1 + o2) = true := by simpa using d1
                  by_cases d2 : o1 < a1 + a2
                  · have e2 : decide ((o1 : Int) < (a1 : Int) + a2) = true := by simp; omega
                    have e2' : decide (o1 < a1 + a2) = true := by simpa using d2
                    have HC : Hidden ((wholeE n (R j) && overE (R k) (R j)) = true) := ⟨by rw [HWH.out, HOJ.out]; simp [d1, d2]⟩
                    have HNX := Hidden.mk (And.intro ((H6.out.set (k + 1) 2).congr (fun i => (show _ = updI (whatF n R k) (k + 1) (if anyO n R k (j + 1) = true then 2 else 1) i by rw [HN.out, HC.out]; rfl))) (HF6.out.block (w' := w6.setCell ⟨w.heap.size, k + 1, none⟩ (.int .i64 2)) (Below.heap_setCell _ _ _ _ (fun e => by have := HBX.out; simp at e; omega))))
                    clear HN HC HOJ HWH H6 HF6 c1 c2 d1 d2
                    go_wp2_with fail
                    go_roundg (k - (j + 1))
                    case measure => omega
                    case rel => exact ⟨j + 1, by omega, rfl, by go_num, HNX⟩
                  · have e2 : decide ((o1 : Int) < (a1 : Int) + a2) = false := by simp; omega
                    have e2' : decide (o1 < a1 + a2) = false := by simpa using d2
                    have HC : Hidden ((wholeE n (R j) && overE (R k) (R j)) = false) := ⟨by rw [HWH.out, HOJ.out]; simp [d1, d2]⟩
                    have HNX := Hidden.mk (And.intro (H6.out.congr (fun i => (show _ = updI (whatF n R k) (k + 1) (if anyO n R k (j + 1) = true then 2 else 1) i by rw [HN.out, HC.out]; rfl))) HF6.out)
                    clear HN HC HOJ HWH H6 HF6 c1 c2 d1 d2
                    go_wp2_with fail
                    go_roundg (k - (j + 1))
                    case measure => omega
                    case rel => exact ⟨j + 1, by omega, rfl, by go_num, HNX⟩
                · have e1 : decide ((a1 : Int) < (o1 : Int) + o2) = false := by simp; omega
                  have e1' : decide (a1 < o1 + o2) = false := by simpa using d1
                  have HC : Hidden ((wholeE n (R j) && overE (R k) (R j)) = false) := ⟨by rw [HWH.out, HOJ.out]; simp [d1]⟩
                  have HNX := Hidden.mk (And.intro (H6.out.congr (fun i => (show _ = updI (whatF n R k) (k + 1) (if anyO n R k (j + 1) = true then 2 else 1) i by rw [HN.out, HC.out]; rfl))) HF6.out)
                  clear HN HC HOJ HWH H6 HF6 c1 c2 d1
                  go_wp2_with fail
                  go_roundg (k - (j + 1))
                  case measure => omega
                  case rel => exact ⟨j + 1, by omega, rfl, by go_num, HNX⟩
              · by_cases hv2 : wv = 2
                · skip
                  subst hv2
                  by_cases d1 : a1 < o1 + o2
                  · have e1 : decide ((a1 : Int) < (o1 : Int) + o2) = true := by simp; omega
                    have e1' : decide (a1 < o1 + o2) = true := by simpa using d1
                    by_cases d2 : o1 < a1 + a2
                    · have e2 : decide ((o1 : Int) < (a1 : Int) + a2) = true := by simp; omega
                      have e2' : decide (o1 < a1 + a2) = true := by simpa using d2
                      have HC : Hidden ((wholeE n (R j) && overE (R k) (R j)) = true) := ⟨by rw [HWH.out, HOJ.out]; simp [d1, d2]⟩
                      have HNX := Hidden.mk (And.intro ((H6.out.set (k + 1) 2).congr (fun i => (show _ = updI (whatF n R k) (k + 1) (if anyO n R k (j + 1) = true then 2 else 1) i by rw [HN.out, HC.out]; rfl))) (HF6.out.block (w' := w6.setCell ⟨w.heap.size, k + 1, none⟩ (.int .i64 2)) (Below.heap_setCell _ _ _ _ (fun e => by have := HBX.out; simp at e; omega))))
                      clear HN HC HOJ HWH H6 HF6 c1 c2 d1 d2
                      go_wp2_with fail
                      go_roundg (k - (j + 1))
                      case measure => omega
                      case rel => exact ⟨j + 1, by omega, rfl, by go_num, HNX⟩
                    · have e2 : decide ((o1 : Int) < (a1 : Int) + a2) = false := by simp; omega
                      have e2' : decide (o1 < a1 + a2) = false := by simpa using d2
                      have HC : Hidden ((wholeE n (R j) && overE (R k) (R j)) = false) := ⟨by rw [HWH.out, HOJ.out]; simp [d1, d2]⟩
                      have HNX := Hidden.mk (And.intro (H6.out.congr (fun i => (show _ = updI (whatF n R k) (k + 1) (if anyO n R k (j + 1) = true then 2 else 1) i by rw [HN.out, HC.out]; rfl))) HF6.out)
                      clear HN HC HOJ HWH H6 HF6 c1 c2 d1 d2
                      go_wp2_with fail
                      go_roundg (k - (j + 1))
                      case measure => omega
                      case rel => exact ⟨j + 1, by omega, rfl, by go_num, HNX⟩
                  · have e1 : decide ((a1 : Int) < (o1 : Int) + o2) = false := by simp; omega
                    have e1' : decide (a1 < o1 + o2) = false := by simpa using d1
                    have HC : Hidden ((wholeE n (R j) && overE (R k) (R j)) = false) := ⟨by rw [HWH.out, HOJ.out]; simp [d1]⟩
                    have HNX := Hidden.mk (And.intro (H6.out.congr (fun i => (show _ = updI (whatF n R k) (k + 1) (if anyO n R k (j + 1) = true then 2 else 1) i by rw [HN.out, HC.out]; rfl))) HF6.out)
                    clear HN HC HOJ HWH H6 HF6 c1 c2 d1
                    go_wp2_with fail
                    go_roundg (k - (j + 1))
                    case measure => omega
                    case rel => exact ⟨j + 1, by omega, rfl, by go_num, HNX⟩
                · have e1 : (wv == 1) = false := by simpa using hv
                  have e2 : (wv == 2) = false := by simpa using hv2
                  have HC : Hidden ((wholeE n (R j) && overE (R k) (R j)) = false) := ⟨by rw [HWH.out, HOJ.out]; simp [hv, hv2]⟩
                  have HNX := Hidden.mk (And.intro (H6.out.congr (fun i => (show _ = updI (whatF n R k) (k + 1) (if anyO n R k (j + 1) = true then 2 else 1) i by rw [HN.out, HC.out]; rfl))) HF6.out)
                  clear HN HC HOJ HWH H6 HF6 c1 c2 hv hv2
                  go_wp2_with fail
                  go_roundg (k - (j + 1))
                  case measure => omega
                  case rel => exact ⟨j + 1, by omega, rfl, by go_num, HNX⟩
            · obtain rfl : j = k := by omega
              have t0j : decide ((j : Int) + 1 < (j : Int) + 1) = false := by simp
              have hcell := hst.out.1.row.cell (j + 1) (by omega)
              have hup : updI (whatF n R j) (j + 1) (if anyO n R j j = true then 2 else 1) (j + 1) = if anyO n R j j = true then 2 else 1 := by unfold updI; rw [if_pos rfl]
              rw [hup] at hcell
              cases ha : anyO n R j j with
              | true =>
                rw [ha] at hcell
                have e1 : kindH n R j = 2 := by rw [HKE.out, ha]; rfl
                have HFE : Hidden (faultsH n R (j + 1) = faultsH n R j ++ [⟨2, j + 1⟩]) := ⟨by rw [HSF.out, e1]; rfl⟩
                have HWE : Hidden (∀ i, updI (whatF n R j) (j + 1) (if anyO n R j j = true then 2 else 1) i = whatF n R (j + 1) i) := ⟨fun i => by rw [whatF_succ, e1, ha]; rfl⟩
                have H4 := Hidden.mk (hst.out.1.congr HWE.out)
                simp only [if_true] at hcell
                clear e1 hup hst ha HKE
                go_wp2_with (at_builtin; refine wpList_append_lies _ rfl (.tmp 130) (.tmp 133) _ rfl w.heap.size 130 i1 _ 2 16 Tryz.underlying127 hi1 hy0 hy1 hy2 rfl (by decide) u3 (faultsH n R j).length ((faultsH n R j).flatMap fcells) rfl (own_below H4.out.own ((Below.refl _ _).alloc (Nat.le_refl _) _)) ⟨(wr).heap.size, 0, none⟩ 1 1 [.int .i64 2, .int .i64 ((j : Int) + 1)] rfl rfl (World.news_of_block (cs := #[.int .i64 2, .int .i64 ((j : Int) + 1)]) (t := 130) (fr := (0, 0)) (heap_alloc_new (wr) _)) (by simp [Value.oneCell']) (by omega) (by simp only [maxLen]; omega) (by omega) (by have hz_ := H4.out.bel.size; rw [World.size_alloc]; omega) ((wr).heap.size + 1) (by simp) ?_; intro g8 cap8 w8 hown8 hg8 hat8 hlt8)
                have HN := Hidden.mk ((H4.out.add (x := ⟨2, j + 1⟩) (grown_trans' ((Below.refl _ _).alloc (Nat.le_refl _) _) hg8) hown8).eqF HFE.out.symm)
                clear hown8 hg8 hat8 hlt8 H4
                go_roundg (40 - (j + 1))
                case measure => omega
                case rel => exact ⟨j + 1, by omega, rfl, by go_num, HN⟩
              | false =>
                rw [ha] at hcell
                have e1 : kindH n R j = 6 := by rw [HKE.out, ha]; rfl
                have HFE : Hidden (faultsH n R (j + 1) = faultsH n R j) := ⟨by rw [HSF.out, e1]; simp [fltOf]⟩
                have HWE : Hidden (∀ i, updI (whatF n R j) (j + 1) (if anyO n R j j = true then 2 else 1) i = whatF n R (j + 1) i) := ⟨fun i => by rw [whatF_succ, e1, ha]; rfl⟩
                have HN := Hidden.mk ((hst.out.1.congr HWE.out).eqF HFE.out.symm)
                simp only [Bool.false_eq_true, if_false] at hcell
                clear e1 hup hst ha HKE
                go_wp2_with fail
                go_roundg (40 - (j + 1))
                case measure => omega
                case rel => exact ⟨j + 1, by omega, rfl, by go_num, HN⟩
        · have hs : strayE n (R k) = true := by
            cases hq : strayE n (R k) with
            | true => rfl
            | false => exact absurd (HST.out.2 hq) hz
          have e1 : kindH n R k = 1 := by rw [HKK.out, hs]; rfl
          have HFE : Hidden (faultsH n R (k + 1) = faultsH n R k ++ [⟨1, k + 1⟩]) := ⟨by rw [HSF.out, e1]; rfl⟩
          have HWE : Hidden (∀ i, updI (whatF n R k) (k + 1) 3 i = whatF n R (k + 1) i) := ⟨fun i => by rw [whatF_succ, e1]; rfl⟩
          have t1 : ((ee : Int) == 0) = false := by simp; omega
          have t1' : (ee == 0) = false := by simp; omega
          have hcell := H3.out.row.cell (k + 1) (by omega)
          have hfr := H3.out.row.frozen (k + 1)
          have H4 := Hidden.mk (H3.out.set (k + 1) 3)
          generalize whatF n R k (k + 1) = ov at hcell
          clear hs e1 hz HST HKK H3
          go_wp2_with (at_builtin; refine wpList_append_lies _ rfl (.tmp 65) (.tmp 68) _ rfl w.heap.size 130 i1 _ 2 16 Tryz.underlying127 hi1 hy0 hy1 hy2 rfl (by decide) u3 (faultsH n R k).length ((faultsH n R k).flatMap fcells) rfl (own_below H4.out.own ((Below.refl _ _).alloc (Nat.le_refl _) _)) ⟨w3.heap.size, 0, none⟩ 1 1 [.int .i64 1, .int .i64 ((k : Int) + 1)] rfl rfl (World.news_of_block (cs := #[.int .i64 1, .int .i64 ((k : Int) + 1)]) (t := 130) (fr := (0, 0)) (by have hq_ := heap_alloc_new ((w3.setCell ⟨w.heap.size, k + 1, none⟩ (.int .i64 3))) (.cells #[.int .i64 1, .int .i64 ((k : Int) + 1)] 130); rwa [size_setC] at hq_)) (by simp [Value.oneCell']) (by omega) (by simp only [maxLen]; omega) (by omega) (by have hz_ := H4.out.bel.size; rw [World.size_alloc]; omega) (w3.heap.size + 1) (by simp) ?_; intro g8 cap8 w8 hown8 hg8 hat8 hlt8)
          trace_state
          have HN := Hidden.mk (((H4.out.add (x := ⟨1, k + 1⟩) (grown_trans' ((Below.refl _ _).alloc (Nat.le_refl _) _) hg8) hown8).eqF HFE.out.symm).congr HWE.out)
          clear hown8 hg8 hat8 hlt8 H4
          go_roundg (40 - (k + 1))
          case measure => omega
          case rel => exact ⟨k + 1, by omega, rfl, by go_num, HN⟩
    · obtain rfl : k = 40 := by omega
      have t0 : decide (((40 : Nat) : Int) + 1 ≤ 40) = false := by decide
      have HLW := Hidden.mk (leads_what n R)
      generalize leadsE n R = leads at *
      have HF0 := Hidden.mk (hst.out.eqF (show faultsH n R 40 = faultsH n R 40 ++ faultsR leads S 0 by simp [faultsR]))
      have hlH := faultsH_len n R 40
      generalize faultsH n R 40 = FH at *
      generalize whatF n R 40 = wf at *
      clear hst
      go_wp2_with fail
      clear t0
      go_loopg [3, 14, 15] 8 (fun q v vn i wr => ∃ k : Nat, k ≤ 8 ∧ q = 8 - k ∧ i = .int .i64 (k : Int) ∧ Hidden (CSt w wr w.heap.size v (FH ++ faultsR leads S k) wf ∧ wr.ownsRow w.heap.size 9 1 vn (namesL leads S k).length ((namesL leads S k).map fun x => sv x)))
      case atStart => exact ⟨0, by omega, rfl, rfl, ⟨HF0.out, World.ownsRow_nil _ _ _ _⟩⟩
      case round =>
        obtain ⟨k, hk, rfl, rfl, hst⟩ := hrel
        clear HF0
        by_cases hlt : k < 8
        · have t0 : decide ((k : Int) < 8) = true := by simp; omega
          have k0 : (k : Int) < 8 := by omega
          have s1 : IntKind.i64.wrap ((k : Int) + 1) = (k : Int) + 1 := IntWalk.i64_in _ (by omega)
          have hlF := faultsR_len leads S k
          have hlN := namesL_len leads S k
          have HSF := Hidden.mk (faultsR_succ leads S k)
          have HSN := Hidden.mk (namesL_succ leads S k)
          have hrw := HRAW.out k hlt wr hst.out.1.bel
          have hlen := HLEN2.out k hlt
          generalize hoff : ob + (200 + 11 * k) = off at *
          have HOFF := Hidden.mk hoff
          have q8 := hrw.at_ 8 (by omega)
          have q9 := hrw.at_ 9 (by omega)
          have q10 := hrw.at_ 10 (by omega)
          have g8 : (S k).getD 8 0 = (S k)[8]'(by omega) := by simp [hlen]
          have g9 : (S k).getD 9 0 = (S k)[9]'(by omega) := by simp [hlen]
          have g10 : (S k).getD 10 0 = (S k)[10]'(by omega) := by simp [hlen]
          have HB : Hidden (badR leads (S k) = (!gotName ((S k).take 8) || (S k)[8]'(by omega) != 0 || (S k)[9]'(by omega) != 0 || !(handleB (((S k)[10]'(by omega)).toNat : Int) && decide (wf ((S k)[10]'(by omega)).toNat = 1)))) := ⟨by unfold badR; rw [g8, g9, g10, HLW.out]⟩
          have HLK := Hidden.mk hlen
          generalize (S k)[8]'(by omega) = x8 at *
          generalize (S k)[9]'(by omega) = x9 at *
          generalize (S k)[10]'(by omega) = x10 at *
          have w10 : IntKind.i64.wrap (x10.toNat : Int) = (x10.toNat : Int) := IntWalk.i64_in _ (by have := u8_lt x10; omega)
          generalize hcc : c - (200 + 11 * k) = cc at *
          have hc8 : 8 ≤ cc := by omega
          have HCC := Hidden.mk hcc
          clear hoff g8 g9 g10 hcc hlen
          go_wp2_with fail
          refine (refRootAt_ok pb ob n c k _ hlt (by omega) hnc).mono ?_
          rintro e w1 ⟨rfl, rfl⟩
          rw [HOFF.out, HCC.out]
          go_wp2_with fail
          refine (refZero_any _ 11 _ (S k) _ HLK.out (by omega) hrw).mono ?_
          rintro e w1 ⟨rfl, rfl⟩
          cases hz : zeroE (S k) with
          | true =>
            have hk0 : kindR leads S k = 0 := by unfold kindR; rw [if_pos hz]
            have e1 : faultsR leads S (k + 1) = faultsR leads S k := by rw [HSF.out, hk0]; simp [fltOf]
            have e2 : namesL leads S (k + 1) = namesL leads S k := by rw [HSN.out, hk0]; simp
            have HNX : Hidden (CSt w wr w.heap.size u3 (FH ++ faultsR leads S (k + 1)) wf ∧ wr.ownsRow w.heap.size 9 1 u14 (namesL leads S (k + 1)).length ((namesL leads S (k + 1)).map fun x => sv x)) := ⟨by rw [e1, e2]; exact hst.out⟩
            clear e1 e2 hz hk0 q8 q9 q10
            go_wp2_with fail
            go_roundg (8 - (k + 1))
            case measure => omega
            case rel => exact ⟨k + 1, by omega, rfl, by go_num, HNX⟩
          | false =>
            have HKIND : Hidden (kindR leads S k = if badR leads (S k) = true then 4 else if (namesL leads S k).any (fun x => nmR (S k) == x) = true then 5 else 6) := ⟨by
              rw [namesL_any]; unfold kindR; rw [hz]; simp⟩
            have FIN4 : Hidden (badR leads (S k) = true → FH ++ faultsR leads S (k + 1) = (FH ++ faultsR leads S k) ++ [⟨4, k⟩] ∧ namesL leads S (k + 1) = namesL leads S k) := ⟨fun hb => ⟨by rw [HSF.out, HKIND.out, if_pos hb]; simp [fltOf], by rw [HSN.out, HKIND.out, if_pos hb]; simp⟩⟩
            have FIN5 : Hidden (badR leads (S k) = false → (namesL leads S k).any (fun x => nmR (S k) == x) = true → FH ++ faultsR leads S (k + 1) = (FH ++ faultsR leads S k) ++ [⟨5, k⟩] ∧ namesL leads S (k + 1) = namesL leads S k) := ⟨fun hb ha => ⟨by rw [HSF.out, HKIND.out, hb, ha]; simp [fltOf], by rw [HSN.out, HKIND.out, hb, ha]; simp⟩⟩
            have FIN6 : Hidden (badR leads (S k) = false → (namesL leads S k).any (fun x => nmR (S k) == x) = false → FH ++ faultsR leads S (k + 1) = FH ++ faultsR leads S k ∧ namesL leads S (k + 1) = namesL leads S k ++ [nmR (S k)]) := ⟨fun hb ha => ⟨by rw [HSF.out, HKIND.out, hb, ha]; simp [fltOf], by rw [HSN.out, HKIND.out, hb, ha]; simp⟩⟩
            have hlen1 : (FH ++ faultsR leads S k).length ≤ 48 := by rw [List.length_append]; omega
            generalize hFF : FH ++ faultsR leads S k = F at *
            have HFF := Hidden.mk hFF
            clear hz HKIND hFF
            go_wp2_with fail
            refine (refReadName_any (some ⟨pb, off, none⟩) cc ((S k).take 8) _ (by simp [HLK.out]) hc8 (hrw.take 8 (by rw [HLK.out]; omega))).mono ?_
            rintro e w3 ⟨he, rfl⟩
            cases hg : gotName ((S k).take 8)
            all_goals
              rw [hg] at he HB
              first | simp only [Bool.false_eq_true, if_false] at he | simp only [if_true] at he
              subst he
              have HG := Hidden.mk hg
              clear hg
            case false =>
              go_wp2_with fail
              refine (ref_handle_any _ _).mono ?_
              rintro e w4 ⟨rfl, rfl⟩
              generalize handleB (x10.toNat : Int) = hb10 at *
              have HBAD := Hidden.mk (FIN4.out (by rw [HB.out];  simp))
              clear FIN4 FIN5 FIN6 HB HSF HSN
              go_wp2_with (at_builtin; refine wpList_append_lies _ rfl (.tmp 182) (.tmp 185) _ rfl w.heap.size 130 i1 _ 2 16 Tryz.underlying127 hi1 hy0 hy1 hy2 rfl (by decide) u3 F.length (F.flatMap fcells) rfl (own_below hst.out.1.own ((Below.refl _ _).alloc (Nat.le_refl _) _)) ⟨(wr).heap.size, 0, none⟩ 1 1 [.int .i64 4, .int .i64 (k : Int)] rfl rfl (World.news_of_block (cs := #[.int .i64 4, .int .i64 (k : Int)]) (t := 130) (fr := (0, 0)) (heap_alloc_new (wr) _)) (by simp [Value.oneCell']) (by omega) (by simp only [maxLen]; omega) (by omega) (by have hz_ := hst.out.1.bel.size; rw [World.size_alloc]; omega) ((wr).heap.size + 1) (by simp) ?_; intro g8 cap8 w8 hown8 hg8 hat8 hlt8)
              have HNX := Hidden.mk (And.intro ((hst.out.1.add (x := ⟨4, k⟩) (grown_trans' ((Below.refl _ _).alloc (Nat.le_refl _) _) hg8) hown8).eqF HBAD.out.1.symm) (HBAD.out.2.symm ▸ hst.out.2.kept (grown_trans' ((Below.refl _ _).alloc (Nat.le_refl _) _) hg8) (own_apart hst.out.2 hst.out.1.own (by decide)) : w8.ownsRow w.heap.size 9 1 u14 (namesL leads S (k + 1)).length ((namesL leads S (k + 1)).map fun x => sv x)))
              clear hown8 hg8 hat8 hlt8 HBAD
              go_roundg (8 - (k + 1))
              case measure => omega
              case rel => exact ⟨k + 1, by omega, rfl, by go_num, HNX⟩
            case true =>
              have HNM : Hidden (nmR (S k) = nameAt ((S k).take 8)) := ⟨rfl⟩
              generalize nameAt ((S k).take 8) = nm at *
              go_wp2_with fail
              refine (ref_handle_any _ _).mono ?_
              rintro e w4 ⟨rfl, rfl⟩
              by_cases z8 : x8 = 0
              · by_cases z9 : x9 = 0
                · subst z8 z9
                  cases hh : handleB (x10.toNat : Int) with
                  | false =>
                    rw [hh] at HB
                    have HBAD := Hidden.mk (FIN4.out (by rw [HB.out]; simp))
                    clear FIN4 FIN5 FIN6 HB HSF HSN hh
                    go_wp2_with (at_builtin; refine wpList_append_lies _ rfl (.tmp 182) (.tmp 185) _ rfl w.heap.size 130 i1 _ 2 16 Tryz.underlying127 hi1 hy0 hy1 hy2 rfl (by decide) u3 F.length (F.flatMap fcells) rfl (own_below hst.out.1.own ((Below.refl _ _).alloc (Nat.le_refl _) _)) ⟨(wr).heap.size, 0, none⟩ 1 1 [.int .i64 4, .int .i64 (k : Int)] rfl rfl (World.news_of_block (cs := #[.int .i64 4, .int .i64 (k : Int)]) (t := 130) (fr := (0, 0)) (heap_alloc_new (wr) _)) (by simp [Value.oneCell']) (by omega) (by simp only [maxLen]; omega) (by omega) (by have hz_ := hst.out.1.bel.size; rw [World.size_alloc]; omega) ((wr).heap.size + 1) (by simp) ?_; intro g8 cap8 w8 hown8 hg8 hat8 hlt8)
                    have HNX := Hidden.mk (And.intro ((hst.out.1.add (x := ⟨4, k⟩) (grown_trans' ((Below.refl _ _).alloc (Nat.le_refl _) _) hg8) hown8).eqF HBAD.out.1.symm) (HBAD.out.2.symm ▸ hst.out.2.kept (grown_trans' ((Below.refl _ _).alloc (Nat.le_refl _) _) hg8) (own_apart hst.out.2 hst.out.1.own (by decide)) : w8.ownsRow w.heap.size 9 1 u14 (namesL leads S (k + 1)).length ((namesL leads S (k + 1)).map fun x => sv x)))
                    clear hown8 hg8 hat8 hlt8 HBAD
                    go_roundg (8 - (k + 1))
                    case measure => omega
                    case rel => exact ⟨k + 1, by omega, rfl, by go_num, HNX⟩
                  | true =>
                    rw [hh] at HB
                    have hhb := handleB_true.1 hh
                    obtain ⟨hh1, hh2⟩ := hhb
                    have kx1 : (x10.toNat : Int) < 41 := by omega
                    have kx2 : x10.toNat < 41 := by omega
                    have kx0 : (0 : Int) ≤ (x10.toNat : Int) := by omega
                    have hcw := hst.out.1.row.cell x10.toNat (by omega)
                    generalize wf x10.toNat = wv at *
                    by_cases zw : wv = 1
                    · subst zw
                      have HNB : Hidden (badR leads (S k) = false) := ⟨by rw [HB.out]; simp⟩
                      obtain ⟨A14, c14, rfl, hc14, hrs⟩ := own_rdS hst.out.2
                      have HRS := Hidden.mk hrs
                      generalize hNL : namesL leads S k = NL at *
                      have HNLE := Hidden.mk hNL
                      clear hh FIN4 HB hNL hrs
                      go_wp2_with fail
                      clear hcw q8 q9 q10
                      go_loopg [22, 23] NL.length (fun q tw i wr' => ∃ j : Nat, j ≤ NL.length ∧ q = NL.length - j ∧ i = .int .i64 (j : Int) ∧ tw = .bool ((NL.take j).any fun x => nm == x) ∧ wr = wr')
                      case atStart => exact ⟨0, by omega, rfl, rfl, rfl, rfl⟩
                      case round =>
                        obtain ⟨j, hj, rfl, rfl, rfl, rfl⟩ := hrel
                        by_cases hjn : j < NL.length
                        · obtain ⟨pn, on, rfl, cn⟩ := HRS.out j hjn
                          have HTK : Hidden ((NL.take (j + 1)).any (fun x => nm == x) = ((NL.take j).any (fun x => nm == x) || (NL[j] == nm))) := ⟨by rw [List.take_succ_eq_append_getElem hjn, List.any_append]; simp [Bool.beq_comm]⟩
                          have j0 : (0 : Int) ≤ j := by omega
                          have j1 : (j : Int) < NL.length := by omega
                          have s1j : IntKind.i64.wrap ((j : Int) + 1) = (j : Int) + 1 := IntWalk.i64_in _ (by omega)
                          generalize (NL.take j).any (fun x => nm == x) = bq at *
                          generalize NL[j] = nj at *
                          cases bq with
                          | true =>
                            go_wp2_with fail
                            go_roundg (NL.length - (j + 1))
                            case measure => omega
                            case rel => exact ⟨j + 1, by omega, rfl, by go_num, by rw [HTK.out]; rfl, rfl⟩
                          | false =>
                            go_wp2_with fail
                            go_roundg (NL.length - (j + 1))
                            case measure => omega
                            case rel => exact ⟨j + 1, by omega, rfl, by go_num, by rw [HTK.out]; rfl, rfl⟩
                        · obtain rfl : j = NL.length := by omega
                          rw [List.take_of_length_le (Nat.le_refl _)]
                          have j1 : decide (((NL.length : Nat) : Int) < NL.length) = false := by simp
                          cases ha : NL.any (fun x => nm == x) with
                          | true =>
                            have HBAD := Hidden.mk (FIN5.out HNB.out (by rw [HNM.out]; exact ha))
                            clear FIN5 FIN6 HNB HSF HSN ha
                            go_wp2_with (at_builtin; refine wpList_append_lies _ rfl (.tmp 203) (.tmp 206) _ rfl w.heap.size 130 i1 _ 2 16 Tryz.underlying127 hi1 hy0 hy1 hy2 rfl (by decide) u3 F.length (F.flatMap fcells) rfl (own_below hst.out.1.own ((Below.refl _ _).alloc (Nat.le_refl _) _)) ⟨(wr).heap.size, 0, none⟩ 1 1 [.int .i64 5, .int .i64 (k : Int)] rfl rfl (World.news_of_block (cs := #[.int .i64 5, .int .i64 (k : Int)]) (t := 130) (fr := (0, 0)) (heap_alloc_new (wr) _)) (by simp [Value.oneCell']) (by omega) (by simp only [maxLen]; omega) (by omega) (by have hz_ := hst.out.1.bel.size; rw [World.size_alloc]; omega) ((wr).heap.size + 1) (by simp) ?_; intro g8 cap8 w8 hown8 hg8 hat8 hlt8)
                            have HNX := Hidden.mk (And.intro ((hst.out.1.add (x := ⟨5, k⟩) (grown_trans' ((Below.refl _ _).alloc (Nat.le_refl _) _) hg8) hown8).eqF HBAD.out.1.symm) (HBAD.out.2.symm ▸ hst.out.2.kept (grown_trans' ((Below.refl _ _).alloc (Nat.le_refl _) _) hg8) (own_apart hst.out.2 hst.out.1.own (by decide)) : w8.ownsRow w.heap.size 9 1 (.slice A14 NL.length c14) (namesL leads S (k + 1)).length ((namesL leads S (k + 1)).map fun x => sv x)))
                            clear hown8 hg8 hat8 hlt8 HBAD
                            go_roundg (8 - (k + 1))
                            case measure => omega
                            case rel => exact ⟨k + 1, by omega, rfl, by go_num, HNX⟩
                          | false =>
                            have HOKK := Hidden.mk (FIN6.out HNB.out (by rw [HNM.out]; exact ha))
                            rw [HNM.out] at HOKK
                            clear FIN5 FIN6 HNB HSF HSN ha
                            go_wp2_with (at_builtin; refine wpList_append_lies _ rfl (.tmp 208) (.tmp 210) _ rfl w.heap.size 9 i2 _ 1 16 Tryz.underlying169 hi2 hx0 hx1 hx2 rfl (by decide) (.slice A14 NL.length c14) NL.length (NL.map sv) rfl (own_below hst.out.2 ((Below.refl _ _).alloc (Nat.le_refl _) _)) ⟨(wr).heap.size, 0, none⟩ 1 1 [sv nm] rfl rfl (World.news_of_block (cs := #[sv nm]) (t := 9) (fr := (0, 0)) (heap_alloc_new (wr) _)) (by simp [Value.oneCell']) (by omega) (by simp only [maxLen]; omega) (by omega) (by have hz_ := hst.out.1.bel.size; rw [World.size_alloc]; omega) ((wr).heap.size + 1) (by simp) ?_; intro g8 cap8 w8 hown8 hg8 hat8 hlt8)
                            have hgW := grown_trans' ((Below.refl wr.heap.size wr).alloc (Nat.le_refl _) _) hg8
                            have HNX : Hidden (CSt w w8 w.heap.size u3 (FH ++ faultsR leads S (k + 1)) wf ∧ w8.ownsRow w.heap.size 9 1 (.slice (some ⟨g8, 0, none⟩) (NL.length + 1) cap8) (namesL leads S (k + 1)).length ((namesL leads S (k + 1)).map fun x => sv x)) :=
                              ⟨⟨hst.out.1.bel.grown hgW hst.out.1.bel.size (fun q hq => (hst.out.2.lt q hq).1), by rw [HOKK.out.1]; exact hst.out.1.own.kept hgW (own_apart hst.out.1.own hst.out.2 (by decide)), hst.out.1.row.grown hgW (hst.out.1.row.ne hst.out.2 (by decide)), Nat.le_refl _⟩, by rw [HOKK.out.2]; simpa using hown8⟩
                            clear hown8 hg8 hat8 hlt8 HOKK hgW
                            go_roundg (8 - (k + 1))
                            case measure => omega
                            case rel => exact ⟨k + 1, by omega, rfl, by go_num, HNX⟩
                    · have t1 : (wv == 1) = false := by simpa using zw
                      have HBAD := Hidden.mk (FIN4.out (by rw [HB.out]; simp [zw]))
                      clear FIN4 FIN5 FIN6 HB HSF HSN hh zw
                      go_wp2_with (at_builtin; refine wpList_append_lies _ rfl (.tmp 182) (.tmp 185) _ rfl w.heap.size 130 i1 _ 2 16 Tryz.underlying127 hi1 hy0 hy1 hy2 rfl (by decide) u3 F.length (F.flatMap fcells) rfl (own_below hst.out.1.own ((Below.refl _ _).alloc (Nat.le_refl _) _)) ⟨(wr).heap.size, 0, none⟩ 1 1 [.int .i64 4, .int .i64 (k : Int)] rfl rfl (World.news_of_block (cs := #[.int .i64 4, .int .i64 (k : Int)]) (t := 130) (fr := (0, 0)) (heap_alloc_new (wr) _)) (by simp [Value.oneCell']) (by omega) (by simp only [maxLen]; omega) (by omega) (by have hz_ := hst.out.1.bel.size; rw [World.size_alloc]; omega) ((wr).heap.size + 1) (by simp) ?_; intro g8 cap8 w8 hown8 hg8 hat8 hlt8)
                      have HNX := Hidden.mk (And.intro ((hst.out.1.add (x := ⟨4, k⟩) (grown_trans' ((Below.refl _ _).alloc (Nat.le_refl _) _) hg8) hown8).eqF HBAD.out.1.symm) (HBAD.out.2.symm ▸ hst.out.2.kept (grown_trans' ((Below.refl _ _).alloc (Nat.le_refl _) _) hg8) (own_apart hst.out.2 hst.out.1.own (by decide)) : w8.ownsRow w.heap.size 9 1 u14 (namesL leads S (k + 1)).length ((namesL leads S (k + 1)).map fun x => sv x)))
                      clear hown8 hg8 hat8 hlt8 HBAD
                      go_roundg (8 - (k + 1))
                      case measure => omega
                      case rel => exact ⟨k + 1, by omega, rfl, by go_num, HNX⟩
                · subst z8
                  have t9 : ((x9.toNat : Int) == 0) = false := by
                    rw [show ((x9.toNat : Int) == 0) = (x9 == 0) from bv_beq x9 0]; simpa using z9
                  have t9' : ((x9.toNat : Int) != 0) = true := by unfold bne; rw [t9]; rfl
                  generalize handleB (x10.toNat : Int) = hb10 at *
                  have HBAD := Hidden.mk (FIN4.out (by rw [HB.out]; simp [z9]))
                  clear FIN4 FIN5 FIN6 HB HSF HSN z9
                  go_wp2_with (at_builtin; refine wpList_append_lies _ rfl (.tmp 182) (.tmp 185) _ rfl w.heap.size 130 i1 _ 2 16 Tryz.underlying127 hi1 hy0 hy1 hy2 rfl (by decide) u3 F.length (F.flatMap fcells) rfl (own_below hst.out.1.own ((Below.refl _ _).alloc (Nat.le_refl _) _)) ⟨(wr).heap.size, 0, none⟩ 1 1 [.int .i64 4, .int .i64 (k : Int)] rfl rfl (World.news_of_block (cs := #[.int .i64 4, .int .i64 (k : Int)]) (t := 130) (fr := (0, 0)) (heap_alloc_new (wr) _)) (by simp [Value.oneCell']) (by omega) (by simp only [maxLen]; omega) (by omega) (by have hz_ := hst.out.1.bel.size; rw [World.size_alloc]; omega) ((wr).heap.size + 1) (by simp) ?_; intro g8 cap8 w8 hown8 hg8 hat8 hlt8)
                  have HNX := Hidden.mk (And.intro ((hst.out.1.add (x := ⟨4, k⟩) (grown_trans' ((Below.refl _ _).alloc (Nat.le_refl _) _) hg8) hown8).eqF HBAD.out.1.symm) (HBAD.out.2.symm ▸ hst.out.2.kept (grown_trans' ((Below.refl _ _).alloc (Nat.le_refl _) _) hg8) (own_apart hst.out.2 hst.out.1.own (by decide)) : w8.ownsRow w.heap.size 9 1 u14 (namesL leads S (k + 1)).length ((namesL leads S (k + 1)).map fun x => sv x)))
                  clear hown8 hg8 hat8 hlt8 HBAD
                  go_roundg (8 - (k + 1))
                  case measure => omega
                  case rel => exact ⟨k + 1, by omega, rfl, by go_num, HNX⟩
              · have t8 : ((x8.toNat : Int) == 0) = false := by
                  rw [show ((x8.toNat : Int) == 0) = (x8 == 0) from bv_beq x8 0]; simpa using z8
                have t8' : ((x8.toNat : Int) != 0) = true := by unfold bne; rw [t8]; rfl
                generalize handleB (x10.toNat : Int) = hb10 at *
                have HBAD := Hidden.mk (FIN4.out (by rw [HB.out]; simp [z8]))
                clear FIN4 FIN5 FIN6 HB HSF HSN z8
                go_wp2_with (at_builtin; refine wpList_append_lies _ rfl (.tmp 182) (.tmp 185) _ rfl w.heap.size 130 i1 _ 2 16 Tryz.underlying127 hi1 hy0 hy1 hy2 rfl (by decide) u3 F.length (F.flatMap fcells) rfl (own_below hst.out.1.own ((Below.refl _ _).alloc (Nat.le_refl _) _)) ⟨(wr).heap.size, 0, none⟩ 1 1 [.int .i64 4, .int .i64 (k : Int)] rfl rfl (World.news_of_block (cs := #[.int .i64 4, .int .i64 (k : Int)]) (t := 130) (fr := (0, 0)) (heap_alloc_new (wr) _)) (by simp [Value.oneCell']) (by omega) (by simp only [maxLen]; omega) (by omega) (by have hz_ := hst.out.1.bel.size; rw [World.size_alloc]; omega) ((wr).heap.size + 1) (by simp) ?_; intro g8 cap8 w8 hown8 hg8 hat8 hlt8)
                have HNX := Hidden.mk (And.intro ((hst.out.1.add (x := ⟨4, k⟩) (grown_trans' ((Below.refl _ _).alloc (Nat.le_refl _) _) hg8) hown8).eqF HBAD.out.1.symm) (HBAD.out.2.symm ▸ hst.out.2.kept (grown_trans' ((Below.refl _ _).alloc (Nat.le_refl _) _) hg8) (own_apart hst.out.2 hst.out.1.own (by decide)) : w8.ownsRow w.heap.size 9 1 u14 (namesL leads S (k + 1)).length ((namesL leads S (k + 1)).map fun x => sv x)))
                clear hown8 hg8 hat8 hlt8 HBAD
                go_roundg (8 - (k + 1))
                case measure => omega
                case rel => exact ⟨k + 1, by omega, rfl, by go_num, HNX⟩
        · obtain rfl : k = 8 := by omega
          have HFIN := Hidden.mk (And.intro hst.out.1.own hst.out.1.bel)
          have t0 : decide (((8 : Nat) : Int) < 8) = false := by decide
          clear hst
          go_wp2_with fail
          go_ret
          exact ⟨_, rfl, by rw [HCK.out]; exact HFIN.out.1, HFIN.out.2⟩
end Go.Proofs.YtijcclpnkfmpnaaGreat
/- The reference's Fine and Mend; an image that is loaded. -/
namespace Go.Proofs.YtijcclpnkfmpnaaGreat
open Go.RowKit

def fineE (l : Bytes) : Nat := if rightB l.length = false then 3 else if checkL l = [] then 0 else 6
set_option maxRecDepth 100000 in
theorem refMend_ok (p off n c : Nat) (l : Bytes) (w : World) (hn : l.length = n) (hr : rightB n = true) (hnc : n ≤ c) (hrd : Rd w (some ⟨p, off, none⟩) l) :
    Calls Tryz.prog 34 #[.slice (some ⟨p, off, none⟩) n c] w fun e w' => ∃ p' off' c', e = .returned (.slice (some ⟨p', off', none⟩) n c') ∧ n ≤ c' ∧ Rd w' (some ⟨p', off', none⟩) (mendL l) ∧ Below w.heap.size w w' := by
  have hnb := rightB_true.1 hr
  have HM : Hidden (mendL l = clearAll l (checkL l)) := ⟨rfl⟩
  have HID : Hidden (checkL l = [] → mendL l = l) := ⟨mend_id⟩
  have HCLEAN : Hidden (checkL (mendL l) = []) := ⟨mend_clean (by omega)⟩
  have HML : Hidden ((mendL l).length = n) := ⟨by rw [mendL_len (by omega), hn]⟩
  have HN := Hidden.mk hn
  have HIN : Hidden (∀ f ∈ checkL l, FltIn l.length f) := ⟨fun _ hf => flt_in (by omega) hf⟩
  have HRG : Hidden (∀ f ∈ checkL l, ((f.what = 4 ∨ f.what = 5) ∧ f.which < 8) ∨ (f.what ≠ 4 ∧ f.what ≠ 5 ∧ 1 ≤ f.which ∧ f.which ≤ 40)) := ⟨fun _ hf => flt_range hf⟩
  have HW3 : Hidden (∀ f ∈ checkL l, f.what ≤ 5) := ⟨fun f hf => by
    rcases mem_checkL.1 hf with ⟨k, _, hk, rfl⟩ | ⟨k, _, hk, rfl⟩
    · have := kindH_cases l.length (rawE l) k; dsimp only; omega
    · have := kindR_cases (leadsE l.length (rawE l)) (rawR l) k; dsimp only; omega⟩
  have hcl48 := checkL_len l
  have HRD := Hidden.mk hrd
  clear hn hrd
  go_enter Tryz.func34, Tryz.ntmps34
  go_wp2_with fail
  go_loopg [0] 2 (fun k b wr => ∃ (lb : Bytes) (p off c : Nat), b = .slice (some ⟨p, off, none⟩) n c ∧ n ≤ c ∧ Hidden (Below w.heap.size w wr ∧ Rd wr (some ⟨p, off, none⟩) lb ∧ ((k = 2 ∧ lb = l) ∨ (k = 1 ∧ lb = mendL l))))
  case atStart => exact ⟨l, p, off, c, rfl, hnc, ⟨Below.refl _ _, HRD.out, .inl ⟨rfl, rfl⟩⟩⟩
  case round =>
    obtain ⟨lb, p, off, c, rfl, hnc, hst⟩ := hrel
    have HLB : Hidden (lb.length = n) := ⟨by rcases hst.out.2.2 with ⟨_, rfl⟩ | ⟨_, rfl⟩; exact HN.out; exact HML.out⟩
    have HFIN : Hidden (checkL lb = [] → lb = mendL l) := ⟨fun h0 => by rcases hst.out.2.2 with ⟨_, rfl⟩ | ⟨_, rfl⟩; exact (HID.out h0).symm; rfl⟩
    have HFIRST : Hidden (checkL lb ≠ [] → gk = 2 ∧ lb = l) := ⟨fun h0 => by rcases hst.out.2.2 with h | ⟨_, rfl⟩; exact h; exact absurd HCLEAN.out h0⟩
    have HCK := Hidden.mk (refCheck_ok (some ⟨p, off, none⟩) n c lb wr HLB.out hr hnc hst.out.2.1)
    have HS0 := Hidden.mk (And.intro hst.out.1 hst.out.2.1)
    clear hst
    go_wp2_with fail
    refine HCK.out.mono ?_
    rintro e w2 ⟨v, rfl, hown, hb2⟩
    have HS2 := Hidden.mk (And.intro (HS0.out.1.trans (hb2.mono HS0.out.1.size)) (HS0.out.2.below hb2))
    obtain ⟨Af, cf, rfl, hcf, hrf⟩ := own_rdFs hown
    have HRF := Hidden.mk hrf
    obtain ⟨F, hFF⟩ : ∃ F, checkL lb = F := ⟨_, rfl⟩
    rw [hFF] at HRF hcf
    rw [hFF]
    have HFF := Hidden.mk hFF
    clear hFF hown hb2 hrf HS0 HCK
    by_cases hF : F = []
    · subst hF
      have hfin := HFIN.out HFF.out
      subst hfin
      have HR := HS2
      clear HS2
      go_wp2_with fail
      go_ret
      exact ⟨p, off, c, rfl, hnc, HR.out.2, HR.out.1⟩
    · have hfi := HFIRST.out (by rw [HFF.out]; exact hF)
      obtain ⟨rfl, rfl⟩ := hfi
      have hl48 : F.length ≤ 48 := by rw [← HFF.out]; exact hcl48
      have hne : 0 < F.length := List.length_pos_iff.2 hF
      have t1 : (F.length == 0) = false := by simp; omega
      have t1' : ((F.length : Int) == 0) = false := by simp; omega
      clear hF hcl48 hcf HFIN HFIRST
      go_wp2_with fail
      clear t1 t1'
      go_loopg [0, 4] F.length (fun q b i wr => ∃ (j p off c : Nat), j ≤ F.length ∧ q = F.length - j ∧ i = .int .i64 (j : Int) ∧ b = .slice (some ⟨p, off, none⟩) n c ∧ n ≤ c ∧ Hidden (Below w.heap.size w wr ∧ Below w2.heap.size w2 wr ∧ Rd wr (some ⟨p, off, none⟩) (clearAll lb (F.take j))))
      case atStart => exact ⟨0, p, off, c, by omega, rfl, rfl, rfl, hnc, ⟨HS2.out.1, Below.refl _ _, HS2.out.2⟩⟩
      case round =>
        obtain ⟨j, p, off, c, hj, rfl, rfl, rfl, hnc, hst⟩ := hrel
        by_cases hlt : j < F.length
        · obtain ⟨gf, of, rfl, c0, c1⟩ := (HRF.out.below hst.out.2.1) j hlt
          have HCL : Hidden (clearAll lb (F.take (j + 1)) = clearF (clearAll lb (F.take j)) F[j]) := ⟨clearAll_snoc lb F j hlt⟩
          have HLJ : Hidden ((clearAll lb (F.take j)).length = n) := ⟨by rw [clearAll_len _ _ (fun f hf => HIN.out f (by rw [HFF.out]; exact List.mem_of_mem_take hf)), HN.out]⟩
          have hrg := HRG.out F[j] (by rw [HFF.out]; exact List.getElem_mem hlt)
          have hw5 := HW3.out F[j] (by rw [HFF.out]; exact List.getElem_mem hlt)
          have i0 : (0 : Int) ≤ j := by omega
          have i1 : (j : Int) < F.length := by omega
          have s1 : IntKind.i64.wrap ((j : Int) + 1) = (j : Int) + 1 := IntWalk.i64_in _ (by omega)
          generalize F[j] = f at *
          obtain ⟨what, which⟩ := f
          dsimp only at *
          by_cases h4 : 3 < what
          · have hw8 : which < 8 := by omega
            have hEQ : clearF (clearAll lb (F.take j)) ⟨what, which⟩ = splice (clearAll lb (F.take j)) (200 + 11 * which) (List.replicate 11 0) := by
              have : what = 4 ∨ what = 5 := by omega
              simp [clearF, fltO, fltN, this]
            have d1 : decide (3 < what) = true := by simpa using h4
            have d2 : decide ((3 : Int) < (what : Int)) = true := by simp; omega
            have s2 : IntKind.i64.wrap (11 * (which : Int)) = 11 * (which : Int) := IntWalk.i64_in _ (by omega)
            have s3 : IntKind.i64.wrap (200 + 11 * (which : Int)) = ((200 + 11 * which : Nat) : Int) := by rw [IntWalk.i64_in _ (by omega)]; omega
            have HWP := Hidden.mk (refWipe_ok p off n c _ (200 + 11 * which) 11 wr HLJ.out (by omega) (by omega) (by omega) hst.out.2.2)
            rw [← hEQ, ← HCL.out] at HWP
            rw [show ((11 : Nat) : Int) = 11 from rfl] at HWP
            generalize 200 + 11 * which = oo at *
            clear hEQ h4 hrg hw5 HCL HLJ
            go_wp2_with fail
            refine HWP.out.mono ?_
            rintro e w4 ⟨g4, c4, rfl, hg4, hc4, hrow4, hb4⟩
            have HN2 := Hidden.mk (And.intro (hst.out.1.trans (hb4.mono hst.out.1.size)) (And.intro (hst.out.2.1.trans (hb4.mono hst.out.2.1.size)) hrow4.rd))
            clear hst hrow4 hb4 HWP c0 c1
            go_wp2_with fail
            go_roundg (F.length - (j + 1))
            case measure => omega
            case rel => exact ⟨j + 1, g4, 0, c4, by omega, rfl, by go_num, rfl, hc4, HN2⟩
          · obtain ⟨m, rfl⟩ : ∃ m, which = m + 1 := ⟨which - 1, by omega⟩
            have hw8 : m < 40 := by omega
            have hEQ : clearF (clearAll lb (F.take j)) ⟨what, m + 1⟩ = splice (clearAll lb (F.take j)) (5 * m) (List.replicate 5 0) := by
              have h1 : ¬ what = 4 := by omega
              have h2 : ¬ what = 5 := by omega
              simp [clearF, fltO, fltN, h1, h2]
            have d1 : decide (3 < what) = false := by simpa using h4
            have d2 : decide ((3 : Int) < (what : Int)) = false := by simp; omega
            have s2 : IntKind.i64.wrap (((m + 1 : Nat) : Int) - 1) = (m : Int) := by rw [IntWalk.i64_in _ (by omega)]; omega
            have s2' : IntKind.i64.wrap ((m : Int) + 1 - 1) = (m : Int) := by rw [IntWalk.i64_in _ (by omega)]; omega
            have s2'' : IntKind.i64.wrap (m : Int) = (m : Int) := IntWalk.i64_in _ (by omega)
            have s3 : IntKind.i64.wrap (5 * (m : Int)) = ((5 * m : Nat) : Int) := by rw [IntWalk.i64_in _ (by omega)]; omega
            have HWP := Hidden.mk (refWipe_ok p off n c _ (5 * m) 5 wr HLJ.out (by omega) (by omega) (by omega) hst.out.2.2)
            rw [← hEQ, ← HCL.out] at HWP
            rw [show ((5 : Nat) : Int) = 5 from rfl] at HWP
            generalize 5 * m = oo at *
            clear hEQ h4 hrg hw5 HCL HLJ
            go_wp2_with fail
            refine HWP.out.mono ?_
            rintro e w4 ⟨g4, c4, rfl, hg4, hc4, hrow4, hb4⟩
            have HN2 := Hidden.mk (And.intro (hst.out.1.trans (hb4.mono hst.out.1.size)) (And.intro (hst.out.2.1.trans (hb4.mono hst.out.2.1.size)) hrow4.rd))
            clear hst hrow4 hb4 HWP c0 c1
            go_wp2_with fail
            go_roundg (F.length - (j + 1))
            case measure => omega
            case rel => exact ⟨j + 1, g4, 0, c4, by omega, rfl, by go_num, rfl, hc4, HN2⟩
        · obtain rfl : j = F.length := by omega
          have hend : clearAll lb (F.take F.length) = mendL lb := by rw [List.take_of_length_le (Nat.le_refl _), HM.out, HFF.out]
          have HE := Hidden.mk (And.intro hst.out.1 (hend ▸ hst.out.2.2))
          have j1 : decide (((F.length : Nat) : Int) < F.length) = false := by simp
          clear hst hend
          go_wp2_with fail
          go_roundg 1
          case measure => omega
          case rel => exact ⟨_, p, off, c, rfl, hnc, ⟨HE.out.1, HE.out.2, .inr ⟨rfl, rfl⟩⟩⟩
/-- an image, mended ahead; of none an empty one -/
def loadL (b : Bytes) : Bytes := if rightB b.length = true then mendL b else List.replicate 320 0
theorem loadL_good (b : Bytes) : Good (loadL b) := by
  unfold loadL
  by_cases hr : rightB b.length = true
  · rw [if_pos hr]
    have := rightB_true.1 hr
    exact ⟨by rw [mendL_len (by omega)]; exact hr, mend_clean (by omega)⟩
  · rw [if_neg hr]; exact good_zero' rfl
set_option maxRecDepth 100000 in
theorem loaded_ok (A : Option Addr) (n c : Nat) (b : Bytes) (w : World) (hn : b.length = n) (hnc : n ≤ c) (hrd : Rd w A b) :
    Calls Tryz.prog 6 #[.slice A n c] w fun e w' => ∃ h F p off c', e = .returned (.tuple #[.pointer (some ⟨h, 0, none⟩), .slice (some ⟨p, off, none⟩) (loadL b).length c']) ∧ (loadL b).length ≤ c' ∧ Hp w w' F h (loadL b) ∧ Rd w' (some ⟨p, off, none⟩) (loadL b) ∧ ¬ F p := by
  have hG := loadL_good b
  have HG := Hidden.mk hG
  cases hr : rightB n with
  | true =>
    have hnb := rightB_true.1 hr
    obtain ⟨p, off, rfl, hpl⟩ := hrd.lt (by omega)
    have HM := Hidden.mk (refMend_ok p off n c b w hn hr hnc hrd)
    have hl : loadL b = mendL b := by unfold loadL; rw [hn, if_pos hr]
    have hln : (loadL b).length = n := by rw [hl, mendL_len (by omega)]; exact hn
    rw [← hl] at HM
    have HLN := Hidden.mk hln
    generalize loadL b = m at *
    clear hl hln hrd hn hG
    go_enter Tryz.func6, Tryz.ntmps6
    go_wp2_with fail
    refine (ref_right_any _ _).mono ?_
    rintro e w1 ⟨rfl, rfl⟩
    rw [hr]
    go_wp2_with fail
    refine HM.out.mono ?_
    rintro e w1 ⟨p1, o1, c1, rfl, hc1, hr1, hb1⟩
    have HL := Hidden.mk (hload_ok (some ⟨p1, o1, none⟩) n c1 m w w1 HLN.out HG.out hc1 hr1 hb1)
    have hp1 := hr1.lt (by rw [HLN.out]; omega)
    have HR := Hidden.mk hr1
    clear hr1 hb1 HM
    go_wp2_with fail
    refine HL.out.mono ?_
    rintro e w2 ⟨h, F, rfl, hp, hb2, hF⟩
    have HE : Hidden (Hp w w2 F h m ∧ Rd w2 (some ⟨p1, o1, none⟩) m ∧ ¬ F p1) := ⟨hp, HR.out.below hb2, fun hk => by
      obtain ⟨q, oq, hq, hlt⟩ := hp1
      have hq := Option.some.inj hq
      injection hq with hq
      have := hF _ hk
      omega⟩
    clear hp hb2 hF HL HR hp1
    go_wp2_with fail
    go_ret2
    exact ⟨h, F, p1, o1, c1, by rw [HLN.out]; rfl, by rw [HLN.out]; exact hc1, HE.out⟩
  | false =>
    have hl : loadL b = List.replicate 320 0 := by unfold loadL; rw [hn, if_neg (by rw [hr]; decide)]
    have hmk := mk_bytes 320 320 (by omega) (by omega) w
    have hrow := row_zeros w 320 (by simp only [maxLen]; omega)
    have hm0 : mendL (List.replicate 320 0) = List.replicate 320 0 := mend_id (good_zero' (n := 320) rfl).chk
    have HM := Hidden.mk (refMend_ok w.heap.size 0 320 320 (List.replicate 320 0) (w.alloc (.cells (zeroRow 320) 5)) (by simp) rfl (by omega) hrow.rd)
    rw [hm0] at HM
    have HAL := Hidden.mk ((Below.refl w.heap.size w).alloc (Nat.le_refl _) (.cells (zeroRow 320) 5))
    have hg0 := HG.out
    rw [hl] at hg0 ⊢
    have HG0 := Hidden.mk hg0
    have HLN : Hidden ((List.replicate 320 (0 : UInt8)).length = 320) := ⟨by simp⟩
    generalize List.replicate 320 (0 : UInt8) = m at *
    clear hl hrd hn hG HG hg0 hrow hm0
    go_enter Tryz.func6, Tryz.ntmps6
    go_wp2_with fail
    refine (ref_right_any _ _).mono ?_
    rintro e w1 ⟨rfl, rfl⟩
    rw [hr]
    go_wp2_with fail
    clear hmk
    refine HM.out.mono ?_
    rintro e w1 ⟨p1, o1, c1, rfl, hc1, hr1, hb1⟩
    have HL := Hidden.mk (hload_ok (some ⟨p1, o1, none⟩) 320 c1 m w w1 HLN.out HG0.out hc1 hr1 (HAL.out.trans (hb1.mono HAL.out.size)))
    have hp1 := hr1.lt (by rw [HLN.out]; omega)
    have HR := Hidden.mk hr1
    clear hr1 hb1 HM
    go_wp2_with fail
    refine HL.out.mono ?_
    rintro e w2 ⟨h, F, rfl, hp, hb2, hF⟩
    have HE : Hidden (Hp w w2 F h m ∧ Rd w2 (some ⟨p1, o1, none⟩) m ∧ ¬ F p1) := ⟨hp, HR.out.below hb2, fun hk => by
      obtain ⟨q, oq, hq, hlt⟩ := hp1
      have hq := Option.some.inj hq
      injection hq with hq
      have := hF _ hk
      omega⟩
    clear hp hb2 hF HL HR hp1
    go_wp2_with fail
    go_ret2
    exact ⟨h, F, p1, o1, c1, by rw [HLN.out]; rfl, by rw [HLN.out]; exact hc1, HE.out⟩
end Go.Proofs.YtijcclpnkfmpnaaGreat
/- The reference on images: PutRoot. -/
namespace Go.Proofs.YtijcclpnkfmpnaaGreat
open Go.RowKit

/-- the fault of a root that is put -/
def rootE (i : Int) (s : Bytes) (h : Int) : Nat := if i < 0 ∨ 8 ≤ i then 1 else if s = [] ∧ h = 0 then 0 else if handleB h = false then 1 else if isName s = false then 2 else 0
def rootF (l : Bytes) (i : Int) (s : Bytes) (h : Int) : Bytes := if rootE i s h = 0 then splice l (rootO i) (if s = [] ∧ h = 0 then List.replicate 11 0 else rootB s h) else []
theorem rootB_get (s : Bytes) (h : Int) (h8 : s.length ≤ 8) (q : Nat) : (rootB s h)[q]? = if q < s.length then s[q]? else if q < 10 then some 0 else if q = 10 then some (UInt8.ofNat h.toNat) else none := by
  unfold rootB nameB
  by_cases h1 : q < s.length
  · rw [if_pos h1, List.append_assoc, List.getElem?_append_left h1]
  · rw [if_neg h1, List.append_assoc, List.getElem?_append_right (by omega)]
    have he : ∀ r, r < 10 - s.length → ((List.replicate (8 - s.length) (0 : UInt8)) ++ [0, 0, UInt8.ofNat h.toNat])[r]? = some 0 := fun r hr => by
      by_cases h2 : r < 8 - s.length
      · rw [List.getElem?_append_left (by simpa using h2)]; simp [h2]
      · rw [List.getElem?_append_right (by simpa using h2), List.length_replicate]
        have : r - (8 - s.length) = 0 ∨ r - (8 - s.length) = 1 := by omega
        rcases this with h | h <;> rw [h] <;> rfl
    by_cases h2 : q < 10
    · rw [if_pos h2, he _ (by omega)]
    · rw [if_neg h2]
      by_cases h3 : q = 10
      · rw [if_pos h3, List.getElem?_append_right (by simp; omega), List.length_replicate, show q - s.length - (8 - s.length) = 2 by omega]; rfl
      · rw [if_neg h3, List.getElem?_append_right (by simp; omega), List.length_replicate]
        apply List.getElem?_eq_none
        simp; omega
theorem rootB_set (l s : Bytes) (o : Nat) (h : Int) (h8 : s.length ≤ 8) (ho : o + 11 ≤ l.length) : (splice (splice l o (List.replicate 11 0)) o s).set (o + 10) (UInt8.ofNat h.toNat) = splice l o (rootB s h) := by
  have hrl : (rootB s h).length = 11 := by unfold rootB nameB; simp; omega
  have hl1 : (splice l o (List.replicate 11 (0 : UInt8))).length = l.length := splice_len _ _ _ (by simpa using ho)
  have hl2 : (splice (splice l o (List.replicate 11 (0 : UInt8))) o s).length = l.length := by rw [splice_len _ _ _ (by rw [hl1]; omega)]; exact hl1
  apply List.ext_getElem?
  intro p
  rw [List.getElem?_set, hl2, splice_at _ _ _ _ (by rw [hl1]; omega), splice_at _ _ _ _ (by simpa using ho), splice_at _ _ _ _ (by rw [hrl]; exact ho), rootB_get s h h8, hrl, List.length_replicate]
  by_cases h1 : o ≤ p ∧ p < o + 11
  · simp only [if_pos h1]
    by_cases h2 : p - o < s.length
    · rw [if_pos h2, if_neg (by omega), if_pos (by omega)]
    · rw [if_neg h2]
      by_cases h3 : p - o < 10
      · rw [if_pos h3, if_neg (by omega), if_neg (by omega), List.getElem?_replicate, if_pos (by omega)]
      · rw [if_neg h3, if_pos (by omega), if_pos (by omega), if_pos (by omega)]
  · simp only [if_neg h1]
    rw [if_neg (by omega), if_neg (by omega)]
theorem two_cells {w w' : World} {a b : Value} {t : TypeId} (hb : Below (w.alloc (.cells #[a, b] t)).heap.size (w.alloc (.cells #[a, b] t)) w') : w'.cell? ⟨w.heap.size, 0, none⟩ = some a ∧ w'.cell? ⟨w.heap.size, 1, none⟩ = some b := by
  have h := (hb.block w.heap.size (by simp)).trans (heap_alloc_new w (.cells #[a, b] t))
  refine ⟨?_, ?_⟩ <;> simp [World.cell?, h]
/-- the program's PutRoot, told likewise -/
theorem iroot_ans (A : Option Addr) (n c : Nat) (l : Bytes) (i : Int) (s : Bytes) (h : Int) (w : World) (hs : s.length ≤ 140737488351232) (hln : l.length = n) (hnc : n ≤ c) (hr : rightB n = true) (hrd : Rd w A l) :
    Calls Tryz.prog 90 #[.slice A n c, .int .i64 i, rootV s h] w fun e w' => RowAns w w' e (rootF l i s h) (errV (rootE i s h)) := by
  have hnb := rightB_true.1 hr
  have hlen : ∀ X : Bytes, X.length = 11 → 0 ≤ i → i < 8 → (splice l (rootO i) X).length = n := fun X hX h1 h2 => by
    rw [splice_len _ _ _ (by unfold rootO; omega)]; exact hln
  unfold rootF
  by_cases hi : i < 0 ∨ 8 ≤ i
  · have hE : rootE i s h = 1 := by unfold rootE; rw [if_pos hi]
    rw [hE]
    exact (root_e1 A n c i s h w hr hi).mono fun e w' ⟨he, hb⟩ => ⟨none, 0, he, Rd.nil_, hb⟩
  by_cases h0 : s = [] ∧ h = 0
  · have hE : rootE i s h = 0 := by unfold rootE; rw [if_neg hi, if_pos h0]
    rw [hE, if_pos rfl, if_pos h0]
    obtain ⟨rfl, rfl⟩ := h0
    refine (root_zero A n c l i w hln hnc hrd hr (by omega) (by omega)).mono ?_
    rintro e w' ⟨g, cap, rfl, hg, hrow, hb⟩
    exact ⟨some ⟨g, 0, none⟩, cap, by rw [hlen _ (by simp) (by omega) (by omega)]; rfl, hrow.rd, hb⟩
  cases hh : handleB h with
  | false =>
    have hE : rootE i s h = 1 := by unfold rootE; rw [if_neg hi, if_neg h0, if_pos hh]
    rw [hE]
    exact (root_e1h A n c i s h w hr (by omega) (by omega) h0 hh).mono fun e w' ⟨he, hb⟩ => ⟨none, 0, he, Rd.nil_, hb⟩
  | true =>
    cases hnm : isName s with
    | false =>
      have hE : rootE i s h = 2 := by unfold rootE; rw [if_neg hi, if_neg h0, if_neg (by simp [hh]), if_pos hnm]
      rw [hE]
      exact (root_e2 A n c i s h w hs hr (by omega) (by omega) hh hnm).mono fun e w' ⟨he, hb⟩ => ⟨none, 0, he, Rd.nil_, hb⟩
    | true =>
      have hE : rootE i s h = 0 := by unfold rootE; rw [if_neg hi, if_neg h0, if_neg (by simp [hh]), if_neg (by simp [hnm])]
      rw [hE, if_pos rfl, if_neg h0]
      refine (root_ok A n c l i s h w hln hrd hr (by omega) (by omega) hh hnm).mono ?_
      rintro e w' ⟨g, cap, rfl, hg, hrow, hb⟩
      have hl11 : (rootB s h).length = 11 := by have := nameB_len s hnm; unfold rootB; simp; omega
      exact ⟨some ⟨g, 0, none⟩, cap, by rw [hlen _ hl11 (by omega) (by omega)]; rfl, hrow.rd, hb⟩
end Go.Proofs.YtijcclpnkfmpnaaGreat
/- Names that lead: root.Get; the reference's Lead and Object. -/
namespace Go.Proofs.YtijcclpnkfmpnaaGreat
open Go.RowKit

/-- where a name leads first; 0: nowhere -/
def leadR (L : List (Bytes × Nat)) (s : Bytes) : Nat := match L.find? (fun r => r.1 == s) with
  | none => 0
  | some r => r.2
theorem leadR_none {L : List (Bytes × Nat)} {s : Bytes} (h : ∀ x ∈ L, (x.1 == s) = false) : leadR L s = 0 := by
  unfold leadR
  rw [List.find?_eq_none.2 (fun x hx => by rw [h x hx]; decide)]
theorem leadR_at {L : List (Bytes × Nat)} {s : Bytes} (k : Nat) (hk : k < L.length) (h : (L[k].1 == s) = true) (hn : ∀ j (hj : j < k), (L[j].1 == s) = false) : leadR L s = L[k].2 := by
  unfold leadR
  rw [(List.find?_eq_some_iff_getElem (p := fun r : Bytes × Nat => r.1 == s)).2 ⟨h, k, hk, rfl, fun j hj => by rw [hn j hj]; rfl⟩]
theorem good_roots {l : Bytes} (hg : Good l) {r : Bytes × Nat} (h : r ∈ rootsL l) : 1 ≤ r.2 ∧ r.2 ≤ 40 ∧ hE l r.2 = 0 := by
  unfold rootsL rootsF at h
  simp only [List.mem_map, List.mem_filter, List.mem_range, Bool.not_eq_true'] at h
  obtain ⟨i, ⟨hi, hz⟩, rfl⟩ := h
  have hb := badR_lead (hg.s.root i hi hz)
  obtain ⟨k, hk, hh, hx⟩ := leadsS_iff.1 hb
  have he := (hE_has hk hh).1
  simp only [rootP]
  rw [hx]
  exact ⟨by omega, by omega, by simpa using he⟩
def getRE (l s : Bytes) (tag : Int) : Nat := if isName s = false then 2 else if tag < -1 ∨ 15 < tag then 1 else if leadR (rootsL l) s = 0 then 5 else if 0 ≤ tag ∧ gT l (leadR (rootsL l) s) ≠ tag then 8 else 0
def getRH (l s : Bytes) (tag : Int) : Nat := if getRE l s tag = 0 then leadR (rootsL l) s else 0
section
variable {w0 w : World} {F : Nat → Prop} {h : Nat} {l : Bytes}
end
/-- an object's tag, and its bytes, as the reference tells them -/
def objT (l : Bytes) (k : Nat) : Int := if hasE (rawE l k) = true then rTag (rawE l k) else -1
def objS (l : Bytes) (k : Nat) : Bytes := if hasE (rawE l k) = true then (l.drop (rAt (rawE l k))).take (rLen (rawE l k)) else []
end Go.Proofs.YtijcclpnkfmpnaaGreat
/- The heap: bytes of an object that are read, or written. -/
namespace Go.Proofs.YtijcclpnkfmpnaaGreat
open Go.RowKit

/-- the fault of some bytes of an object -/
def someE (l : Bytes) (x a n : Int) : Nat := if hE l x ≠ 0 then hE l x else if a < 0 ∨ n < 0 ∨ gL l x < a ∨ gL l x - a < n then 3 else 0
/-- the bytes; the image in which others stand there -/
def readL (l : Bytes) (x a n : Int) : Bytes := if someE l x a n = 0 then (l.drop (gA l x + a).toNat).take n.toNat else []
def writeL (l : Bytes) (x a : Int) (b : Bytes) : Bytes := if someE l x a b.length = 0 then splice l (gA l x + a).toNat b else l
theorem some_in {l : Bytes} (hg : Good l) {x a n : Int} (h : someE l x a n = 0) : hE l x = 0 ∧ 0 ≤ a ∧ 0 ≤ n ∧ a + n ≤ gL l x ∧ 288 ≤ gA l x ∧ 1 ≤ gL l x ∧ gL l x ≤ 1000 ∧ gA l x + gL l x ≤ l.length := by
  unfold someE at h
  by_cases h0 : hE l x = 0
  · rw [if_neg (by simp [h0])] at h
    have := good_in hg h0
    by_cases hb : a < 0 ∨ n < 0 ∨ gL l x < a ∨ gL l x - a < n
    · rw [if_pos hb] at h; cases h
    · omega
  · rw [if_pos h0] at h; exact absurd h h0
section
variable {w0 w : World} {F : Nat → Prop} {h : Nat} {l : Bytes}
set_option maxRecDepth 100000 in
theorem hsome_e (x a n : Int) (hp : Hp w0 w F h l) (hg : Good l) (he : someE l x a n ≠ 0) (hn : n ≤ 9223372036854775807) :
    Calls Tryz.prog 51 #[.pointer (some ⟨h, 0, none⟩), .int .i64 x, .int .i64 a, .int .i64 n] w fun e w' => e = .returned (.tuple #[.slice none 0 0, .iface 76 (.int .i64 (someE l x a n : Int))]) ∧ Below w.heap.size w w' := by
  have hb := rightB_true.1 hp.len
  obtain ⟨g, cap, c0, hcap, hrow, hF⟩ := hp.open_
  have hcm := hrow.le.2
  have HC := Hidden.mk (iget_ans (some ⟨g, 0, none⟩) l.length cap l x w rfl hp.len hcap hrow.rd)
  unfold entV at HC
  have HGI : Hidden (hE l x = 0 → 288 ≤ gA l x ∧ 1 ≤ gL l x ∧ gL l x ≤ 1000 ∧ gA l x + gL l x ≤ l.length) := ⟨fun h0 => by have := good_in hg h0; omega⟩
  have HE : Hidden (someE l x a n = if hE l x ≠ 0 then hE l x else if a < 0 ∨ n < 0 ∨ gL l x < a ∨ gL l x - a < n then 3 else 0) := ⟨rfl⟩
  clear hp hrow hg
  by_cases h0 : hE l x = 0
  · have hin := HGI.out h0
    have hbad : a < 0 ∨ n < 0 ∨ gL l x < a ∨ gL l x - a < n := by
      refine Classical.byContradiction fun hb' => he ?_
      rw [HE.out, if_neg (by simp [h0]), if_neg hb']
    have hE3 : someE l x a n = 3 := by rw [HE.out, if_neg (by simp [h0]), if_pos hbad]
    rw [hE3]
    rw [h0, show errV 0 = Value.nilIface from rfl] at HC
    generalize gH l x = a0 at *
    generalize gT l x = a3 at *
    obtain ⟨ea, hea⟩ := Int.eq_ofNat_of_zero_le (show 0 ≤ gA l x by omega)
    obtain ⟨el, hel⟩ := Int.eq_ofNat_of_zero_le (show 0 ≤ gL l x by omega)
    rw [hea, hel] at HC
    rw [hea, hel] at hin
    rw [hel] at hbad
    clear HE HGI hE3 he h0 hea hel
    go_enter Tryz.func51, Tryz.ntmps51
    go_wp2_with fail
    refine HC.out.mono ?_
    rintro e w1 ⟨rfl, hb1⟩
    have hal := (Below.refl w1.heap.size w1).alloc (Nat.le_refl _) (.cells #[.int .i64 a0, .int .i64 (ea : Int), .int .i64 (el : Int), .int .i64 a3] 85)
    have hB2 := hb1.trans (hal.mono hb1.size)
    have HB2 := Hidden.mk hB2
    have HOF := Hidden.mk (hof_any (h := h) g cap ea el a0 a3 (w1.alloc (.cells #[.int .i64 a0, .int .i64 (ea : Int), .int .i64 (el : Int), .int .i64 a3] 85)) ⟨_, (hB2.cell (p := ⟨h, 0, none⟩) (block_lt_of_cell c0)).trans c0⟩ (by omega) (by omega) (by omega))
    have hf := fourAt_one w1 a0 (ea : Int) (el : Int) a3 85
    obtain ⟨f0, f1, f2, f3⟩ := hf
    clear hal hB2 hb1 HC c0
    go_wp2_with fail
    refine HOF.out.mono ?_
    rintro e w2 ⟨rfl, hb2⟩
    have HB3 := Hidden.mk (HB2.out.trans (hb2.mono HB2.out.size))
    clear hb2 HB2 HOF f0 f1 f2 f3
    by_cases q1 : a < 0
    · have d1 : decide (a < 0) = true := by simpa using q1
      clear hbad q1
      go_wp2_with fail
      go_ret2
      exact ⟨rfl, HB3.out⟩
    have d1 : decide (a < 0) = false := by simpa using q1
    by_cases q2 : n < 0
    · have d2 : decide (n < 0) = true := by simpa using q2
      clear hbad q1 q2
      go_wp2_with fail
      go_ret2
      exact ⟨rfl, HB3.out⟩
    have d2 : decide (n < 0) = false := by simpa using q2
    by_cases q3 : (el : Int) < a
    · have d3 : decide ((el : Int) < a) = true := by simpa using q3
      clear hbad q1 q2 q3
      go_wp2_with fail
      go_ret2
      exact ⟨rfl, HB3.out⟩
    have d3 : decide ((el : Int) < a) = false := by simpa using q3
    have s1 : IntKind.i64.wrap ((el : Int) - a) = (el : Int) - a := IntWalk.i64_in _ (by omega)
    have d4 : decide ((el : Int) - a < n) = true := by simp; omega
    clear hbad q1 q2 q3
    go_wp2_with fail
    go_ret2
    exact ⟨rfl, HB3.out⟩
  · have hE1 : someE l x a n = hE l x := by rw [HE.out, if_pos h0]
    have hev : errV (hE l x) = .iface 76 (.int .i64 (hE l x : Int)) := by unfold errV; rw [if_neg h0]
    rw [hE1]
    rw [hev] at HC
    generalize (hE l x : Int) = q at *
    generalize gH l x = a0 at *
    generalize gA l x = a1 at *
    generalize gL l x = a2 at *
    generalize gT l x = a3 at *
    clear HE HGI hE1 hev he h0
    go_enter Tryz.func51, Tryz.ntmps51
    go_wp2_with fail
    refine HC.out.mono ?_
    rintro e w1 ⟨rfl, hb1⟩
    have HB := Hidden.mk (hb1.alloc hb1.size (.cells #[.int .i64 a0, .int .i64 a1, .int .i64 a2, .int .i64 a3] 85))
    clear hb1 HC
    go_wp2_with fail
    go_ret2
    exact ⟨rfl, HB.out⟩
set_option maxRecDepth 100000 in
theorem hsome_ok (x a n : Int) (g cap : Nat) (hp : Hp w0 w F h l) (hg : Good l) (he : someE l x a n = 0) (c0 : w.cell? ⟨h, 0, none⟩ = some (.slice (some ⟨g, 0, none⟩) l.length cap)) :
    Calls Tryz.prog 51 #[.pointer (some ⟨h, 0, none⟩), .int .i64 x, .int .i64 a, .int .i64 n] w fun e w' => ∃ o c', e = .returned (.tuple #[.slice (some ⟨g, o, none⟩) n.toNat c', .nilIface]) ∧ (0 < n.toNat → o = (gA l x + a).toNat) ∧ o ≤ cap ∧ n.toNat ≤ c' ∧ Below w.heap.size w w' := by
  have hb := rightB_true.1 hp.len
  obtain ⟨g', cap', c0', hcap, hrow, hF⟩ := hp.open_
  rw [c0] at c0'
  have hinj := Option.some.inj c0'
  injection hinj with q1 q2 q3
  injection q1 with q1
  injection q1 with q1
  subst q1 q3
  clear c0' q2
  have hcm := hrow.le.2
  have hin := some_in hg he
  have HC := Hidden.mk (iget_ans (some ⟨g, 0, none⟩) l.length cap l x w rfl hp.len hcap hrow.rd)
  unfold entV at HC
  rw [hin.1, show errV 0 = Value.nilIface from rfl] at HC
  generalize gH l x = a0 at *
  generalize gT l x = a3 at *
  obtain ⟨ea, hea⟩ := Int.eq_ofNat_of_zero_le (show 0 ≤ gA l x by omega)
  obtain ⟨el, hel⟩ := Int.eq_ofNat_of_zero_le (show 0 ≤ gL l x by omega)
  obtain ⟨aa, rfl⟩ := Int.eq_ofNat_of_zero_le (show 0 ≤ a by omega)
  obtain ⟨nn, rfl⟩ := Int.eq_ofNat_of_zero_le (show 0 ≤ n by omega)
  rw [hea, hel] at HC
  rw [hea, hel] at hin
  rw [hea, show ((ea : Int) + (aa : Int)).toNat = ea + aa by omega, Int.toNat_natCast]
  obtain ⟨-, -, -, h4, h5, h6, h7, h8⟩ := hin
  have hcut := run_cutA (some ⟨g, ea, none⟩) el (cap - ea) aa (aa + nn) (by omega) (by omega)
  rw [Nat.add_sub_cancel_left] at hcut
  have HO : ∃ o, (if cap - ea = aa then some (⟨g, ea, none⟩ : Addr) else (some (⟨g, ea, none⟩ : Addr)).map (·.add aa)) = some ⟨g, o, none⟩ ∧ (0 < nn → o = ea + aa) ∧ o ≤ cap := by
    by_cases hq : cap - ea = aa
    · exact ⟨ea, by rw [if_pos hq], fun h => by omega, by omega⟩
    · exact ⟨ea + aa, by rw [if_neg hq, Option.map_some, Addr.add_lit], fun _ => rfl, by omega⟩
  obtain ⟨o, ho, ho1, ho2⟩ := HO
  rw [ho] at hcut
  simp only [Int.natCast_add] at hcut
  have HOO := Hidden.mk (And.intro ho1 ho2)
  have d1 : decide ((aa : Int) < 0) = false := by simp
  have d2 : decide ((nn : Int) < 0) = false := by simp
  have d3 : decide ((el : Int) < (aa : Int)) = false := by simp; omega
  have d3' : decide (el < aa) = false := by simp; omega
  have s1 : IntKind.i64.wrap ((el : Int) - aa) = (el : Int) - aa := IntWalk.i64_in _ (by omega)
  have d4 : decide ((el : Int) - aa < (nn : Int)) = false := by simp; omega
  have s2 : IntKind.i64.wrap ((aa : Int) + nn) = (aa : Int) + nn := IntWalk.i64_in _ (by omega)
  have HCN : Hidden (nn ≤ cap - ea - aa) := ⟨by omega⟩
  have HBD : Hidden (ea + el ≤ cap ∧ 1 ≤ el ∧ ea + el ≤ 281474976710656) := ⟨by omega⟩
  clear hea hel h4 h5 h6 h7 h8 ho ho1 ho2 he hg hp hrow
  go_enter Tryz.func51, Tryz.ntmps51
  go_wp2_with fail
  refine HC.out.mono ?_
  rintro e w1 ⟨rfl, hb1⟩
  have hal := (Below.refl w1.heap.size w1).alloc (Nat.le_refl _) (.cells #[.int .i64 a0, .int .i64 (ea : Int), .int .i64 (el : Int), .int .i64 a3] 85)
  have hB2 := hb1.trans (hal.mono hb1.size)
  have HB2 := Hidden.mk hB2
  have HOF := Hidden.mk (hof_any (h := h) g cap ea el a0 a3 (w1.alloc (.cells #[.int .i64 a0, .int .i64 (ea : Int), .int .i64 (el : Int), .int .i64 a3] 85)) ⟨_, (hB2.cell (p := ⟨h, 0, none⟩) (block_lt_of_cell c0)).trans c0⟩ HBD.out.1 HBD.out.2.1 HBD.out.2.2)
  have hf := fourAt_one w1 a0 (ea : Int) (el : Int) a3 85
  obtain ⟨f0, f1, f2, f3⟩ := hf
  clear hal hB2 hb1 HC c0
  go_wp2_with fail
  refine HOF.out.mono ?_
  rintro e w2 ⟨rfl, hb2⟩
  have HB3 := Hidden.mk (HB2.out.trans (hb2.mono HB2.out.size))
  clear hb2 HB2 HOF f0 f1 f2 f3
  go_wp2_with fail
  go_ret2
  exact ⟨o, _, rfl, HOO.out.1, HOO.out.2, HCN.out, HB3.out⟩
theorem hread_any (x a n : Int) (hp : Hp w0 w F h l) (hg : Good l) (hn : n ≤ 9223372036854775807) :
    Calls Tryz.prog 194 #[.pointer (some ⟨h, 0, none⟩), .int .i64 x, .int .i64 a, .int .i64 n] w fun e w' => ∃ A' c', e = .returned (.tuple #[.slice A' (readL l x a n).length c', errV (someE l x a n)]) ∧ (readL l x a n).length ≤ c' ∧ Rd w' A' (readL l x a n) ∧ (∀ ad, A' = some ad → w.heap.size ≤ ad.block) ∧ Below w.heap.size w w' := by
  by_cases he : someE l x a n = 0
  · have hin := some_in hg he
    obtain ⟨g, cap, c0, hcap, hrow, hF⟩ := hp.open_
    have HC := Hidden.mk (hsome_ok x a n g cap hp hg he c0)
    have hL : readL l x a n = (l.drop (gA l x + a).toNat).take n.toNat := by unfold readL; rw [if_pos he]
    have hlen : (readL l x a n).length = n.toNat := by rw [hL]; simp; omega
    have hcut := hrow.rd.cut (gA l x + a).toNat n.toNat (by omega)
    rw [← hL, Option.map_some, Addr.add_lit, Nat.zero_add] at hcut
    have HCUT := Hidden.mk hcut
    have hle : n.toNat ≤ 140737488351232 := by omega
    rw [he, hlen, show errV 0 = Value.nilIface from rfl]
    have HLN := Hidden.mk hlen
    generalize readL l x a n = rl at *
    generalize (gA l x + a).toNat = oo at *
    clear hp hg hrow hcut hL hlen hin he c0
    go_enter Tryz.func194, Tryz.ntmps194
    go_wp2_with fail
    refine HC.out.mono ?_
    rintro e w1 ⟨o, c', rfl, ho, -, hc', hb1⟩
    have hr1 : Rd w1 (some ⟨g, o, none⟩) rl := by
      by_cases h0 : 0 < n.toNat
      · rw [ho h0]; exact HCUT.out.below hb1
      · have : rl = [] := List.eq_nil_of_length_eq_zero (by rw [HLN.out]; omega)
        rw [this]; exact Rd.nil_
    have HB1 := Hidden.mk hb1
    have HCL := Hidden.mk (clone_some ⟨g, o, none⟩ n.toNat c' rl w1 HLN.out hle hr1)
    clear hb1 hr1 ho hc' HC
    go_wp2_with fail
    refine HCL.out.mono ?_
    rintro e w2 ⟨g2, cap2, rfl, hg2, hrow2, hb2⟩
    have HF2 := Hidden.mk (And.intro hrow2.le.1 (And.intro hrow2.rd (HB1.out.trans (hb2.mono HB1.out.size))))
    have HG2 := Hidden.mk (Nat.le_trans HB1.out.size hg2)
    clear hb2 hrow2 HCL
    go_wp2_with fail
    go_ret2
    exact ⟨some ⟨g2, 0, none⟩, cap2, rfl, by have := HF2.out.1; rw [HLN.out] at this; exact this, HF2.out.2.1, fun ad hA => by have := Option.some.inj hA; subst this; exact HG2.out, HF2.out.2.2⟩
  · have HC := Hidden.mk (hsome_e x a n hp hg he hn)
    have hL : readL l x a n = [] := by unfold readL; rw [if_neg he]
    have hev : errV (someE l x a n) = .iface 76 (.int .i64 (someE l x a n : Int)) := by unfold errV; rw [if_neg he]
    rw [hL, hev, List.length_nil]
    generalize (someE l x a n : Int) = q at *
    clear hp hg hL hev he
    go_enter Tryz.func194, Tryz.ntmps194
    go_wp2_with fail
    refine HC.out.mono ?_
    rintro e w1 ⟨rfl, hb1⟩
    have HB := Hidden.mk hb1
    clear hb1
    go_wp2_with fail
    refine (clone_nil 0 0 _).mono ?_
    rintro e w2 ⟨rfl, rfl⟩
    go_wp2_with fail
    go_ret2
    exact ⟨none, 0, rfl, Nat.le_refl _, Rd.nil_, (fun ad hA => by cases hA), HB.out⟩
/-- copy into nothing -/
theorem run_copy_none (w : World) (n c : Nat) (A : Option Addr) (ty : TypeId) :
    (Builtin.copy_ #[22, 22] ty #[.slice none 0 0, .slice A n c]).run Tryz.prog w = .ok (.int .i64 0) w := by
  obtain ⟨i0, hi0, hz0, hz1, hz2⟩ := info_parts byte_info
  cases A <;> simp [Builtin.copy_, run_underlying Tryz.underlying22, Builtin.lenOf, Builtin.firstCells, sizeOf, typeInfo, hi0, goInt, loadCells, loadCellsFrom]
theorem hwrite_any (x a : Int) (A : Option Addr) (n c : Nat) (b : Bytes) (hp : Hp w0 w F h l) (hg : Good l) (hn : b.length = n) (hn2 : n ≤ 140737488351232) (hrd : Rd w A b) :
    Calls Tryz.prog 14 #[.pointer (some ⟨h, 0, none⟩), .int .i64 x, .int .i64 a, .slice A n c] w fun e w' => e = .returned (errV (someE l x a n)) ∧ HpM w0 w w' F F h (writeL l x a b) := by
  by_cases he : someE l x a n = 0
  · have hin := some_in hg he
    obtain ⟨g, cap, cur, c0, hcur, hcs, hcap, hcm, hrow, hF, hst⟩ := hp.rowW
    have HC := Hidden.mk (hsome_ok x a n g cap hp hg he c0)
    rw [Int.toNat_natCast] at HC
    have hL : writeL l x a b = splice l (gA l x + a).toNat b := by unfold writeL; rw [hn, if_pos he]
    rw [he, hL, show errV 0 = Value.nilIface from rfl]
    have HP := Hidden.mk hp
    have HRD := Hidden.mk hrd
    have HN := Hidden.mk hn
    have hfit : (gA l x + a).toNat + n ≤ l.length := by omega
    generalize (gA l x + a).toNat = oo at *
    clear hg hrow hL hin he hst hp hrd hn hcur hcs
    go_enter Tryz.func14, Tryz.ntmps14
    go_wp2_with fail
    refine HC.out.mono ?_
    rintro e w1 ⟨o, c', rfl, ho, ho2, hc', hb1⟩
    have hp1 := HP.out.below hb1
    obtain ⟨g1, cap1, cur1, z0, z1, z2, z3, -, -, -, z4⟩ := hp1.rowW
    have hyz := Option.some.inj (((hb1.cell (p := ⟨h, 0, none⟩) (block_lt_of_cell c0)).trans c0).symm.trans z0)
    injection hyz with q1 q2 q3
    injection q1 with q1
    injection q1 with q1
    subst q1 q3
    have hcp := fun ty => run_copy_rd w1 g o n c' n c n A b cur1 _ z1 HN.out (HRD.out.below hb1) (by simp) (by
      by_cases h0 : 0 < n
      · rw [ho h0]; omega
      · omega) ty
    have HFIN : Hidden (HpM w0 w (w1.setRow g (setB cur1 o ((b.take n).map bv))) F F h (splice l oo b)) := ⟨by
      have hbt : b.take n = b := List.take_of_length_le (by rw [HN.out]; omega)
      rw [hbt]
      by_cases h0 : 0 < n
      · rw [ho h0]
        have := z4 oo b (by rw [HN.out]; omega)
        exact (HP.out.same hb1).trans ⟨this.1, this.2, fun k hk => .inl hk⟩
      · have hbn : b = [] := List.eq_nil_of_length_eq_zero (by rw [HN.out]; omega)
        rw [hbn]
        have e1 : splice l oo [] = l := by simp [splice]
        rw [e1, List.map_nil, setB_nil, setRow_self w1 g cur1 _ _ z1]
        exact HP.out.same hb1⟩
    clear hb1 hp1 z0 z1 z2 z3 z4 ho ho2 hc' q2 HC c0
    go_wp2_with fail
    go_ret
    exact ⟨rfl, by have hF := HFIN.out; rw [List.map_take] at hF; exact hF⟩
  · have HC := Hidden.mk (hsome_e x a n hp hg he (by omega))
    have hL : writeL l x a b = l := by unfold writeL; rw [hn, if_neg he]
    have hev : errV (someE l x a n) = .iface 76 (.int .i64 (someE l x a n : Int)) := by unfold errV; rw [if_neg he]
    have hcp := fun W ty => run_copy_none W n c A ty
    rw [hL, hev]
    have HP := Hidden.mk hp
    generalize (someE l x a n : Int) = q at *
    clear hp hg hL hev he hrd hn
    go_enter Tryz.func14, Tryz.ntmps14
    go_wp2_with fail
    refine HC.out.mono ?_
    rintro e w1 ⟨rfl, hb1⟩
    have HB := Hidden.mk (HP.out.same hb1)
    clear hb1
    go_wp2_with fail
    go_ret
    exact ⟨rfl, HB.out⟩
end
end Go.Proofs.YtijcclpnkfmpnaaGreat
/- The plain law of heaps: what stays right, what has room. No walk here. -/
namespace Go.Proofs.YtijcclpnkfmpnaaGreat
open Go.RowKit

/-- where a run is free there is one of the runs -/
theorem run_cover : ∀ {S : List Ext} {a n p s : Int}, Tidy a S n → a ≤ p → p + s ≤ n → 1 ≤ s → (∀ e ∈ S, p + s ≤ e.1 ∨ e.1 + e.2 ≤ p) → ∃ h ∈ runsX a S n, h.1 ≤ p ∧ p + s ≤ h.1 + h.2
  | [], a, n, p, s, ht, h1, h2, h3, _ => by
    rw [runsX_nil, if_pos (by omega)]
    exact ⟨_, List.mem_singleton.2 rfl, by dsimp only; omega, by dsimp only; omega⟩
  | e :: r, a, n, p, s, ⟨t1, t2, t3⟩, h1, h2, h3, hall => by
    rw [runsX_cons]
    rcases hall e (List.mem_cons_self ..) with h | h
    · rw [if_pos (by omega)]
      exact ⟨_, List.mem_append_left _ (List.mem_singleton.2 rfl), by dsimp only; omega, by dsimp only; omega⟩
    · obtain ⟨x, hx, hh⟩ := run_cover t3 h h2 h3 (fun y hy => hall y (List.mem_cons_of_mem _ hy))
      exact ⟨x, List.mem_append_right _ hx, hh⟩
theorem fit_exists {n : Int} {l : List Ext} {p size : Int} (h : chkX n l = 0) (h0 : 0 ≤ p) (h1 : 1 ≤ size) (h2 : p + size ≤ n) (hall : ∀ e ∈ l, p + size ≤ e.1 ∨ e.1 + e.2 ≤ p) : fitE n l size = 0 := by
  obtain ⟨o0, o1, _⟩ := chkX_ok h
  obtain ⟨x, hx, hh⟩ := run_cover (tidy_of h) h0 h2 h1 (fun e he => hall e ((sortE_perm l).mem_iff.1 he))
  rw [← holes_runs] at hx
  refine Classical.byContradiction fun hf => ?_
  have := fit_none h hf x hx h1
  omega
theorem takenL_mem {l : Bytes} {e : Ext} : e ∈ takenL l ↔ ∃ k, k < 40 ∧ hasE (rawE l k) = true ∧ e = ((rAt (rawE l k) : Int) - 288, (rLen (rawE l k) : Int)) := by
  unfold takenL entriesL entsL
  simp only [List.map_map, List.mem_map, List.mem_filter, List.mem_range, Function.comp_apply, takeX]
  constructor
  · rintro ⟨k, ⟨h1, h2⟩, rfl⟩; exact ⟨k, h1, h2, rfl⟩
  · rintro ⟨k, h1, h2, rfl⟩; exact ⟨k, ⟨h1, h2⟩, rfl⟩
theorem overE_hit {r s : Bytes} (h : overE r s = false) : hitX ((rAt r : Int) - 288, (rLen r : Int)) ((rAt s : Int) - 288, (rLen s : Int)) = false := by
  rw [hitX_false]
  unfold overE at h
  simp only [Bool.and_eq_false_iff, decide_eq_false_iff_not] at h
  dsimp only
  omega
/-- the extents of a right image are right -/
theorem good_chk {l : Bytes} (hg : Good l) : chkX ((l.length : Int) - 288) (takenL l) = 0 := by
  have hb := hg.bd
  refine chkX_of (by omega) (by omega) (by have := takenL_len l; omega) (fun e he => ?_) ?_
  · obtain ⟨k, hk, hh, rfl⟩ := takenL_mem.1 he
    have := strayE_false (hg.s.fit k hk hh)
    exact badX_of (by dsimp only; omega)
  · unfold takenL entriesL entsL
    rw [List.map_map, List.pairwise_map]
    have hp : (List.range 40).Pairwise (fun a b => a < b) := List.pairwise_lt_range
    have hf := hp.filter (fun k => hasE (rawE l k))
    refine hf.imp_of_mem ?_
    intro a b ha hb' hab
    have ha := List.mem_filter.1 ha
    have hb2 := List.mem_filter.1 hb'
    have h1 := List.mem_range.1 hb2.1
    have := hg.s.apart b h1 a hab hb2.2 ha.2
    rw [overE_symm] at this
    exact overE_hit this
/-- what lies behind the head is not the head's -/
theorem rawE_tail (l x : Bytes) (o j : Nat) (ho : 288 ≤ o) (hx : o + x.length ≤ l.length) (hj : j < 40) : rawE (splice l o x) j = rawE l j := by
  apply List.ext_getElem?
  intro q
  unfold rawE
  rw [List.getElem?_take, List.getElem?_drop, List.getElem?_take, List.getElem?_drop]
  by_cases hq : q < 5
  · rw [if_pos hq, if_pos hq, splice_at _ _ _ _ hx, if_neg (by omega)]
  · rw [if_neg hq, if_neg hq]
theorem rawR_tail (l x : Bytes) (o j : Nat) (ho : 288 ≤ o) (hx : o + x.length ≤ l.length) (hj : j < 8) : rawR (splice l o x) j = rawR l j := by
  apply List.ext_getElem?
  intro q
  unfold rawR
  rw [List.getElem?_take, List.getElem?_drop, List.getElem?_take, List.getElem?_drop]
  by_cases hq : q < 11
  · rw [if_pos hq, if_pos hq, splice_at _ _ _ _ hx, if_neg (by omega)]
  · rw [if_neg hq, if_neg hq]
theorem rawE_root (l x : Bytes) (i j : Nat) (hx : x.length = 11) (hi : i < 8) (hj : j < 40) (hl : 288 ≤ l.length) : rawE (splice l (200 + 11 * i) x) j = rawE l j := by
  apply List.ext_getElem?
  intro q
  unfold rawE
  rw [List.getElem?_take, List.getElem?_drop, List.getElem?_take, List.getElem?_drop]
  by_cases hq : q < 5
  · rw [if_pos hq, if_pos hq, splice_at _ _ _ _ (by omega), if_neg (by omega)]
  · rw [if_neg hq, if_neg hq]
/-- bytes that are cut out elsewhere -/
theorem cut_splice (l x : Bytes) (o a m : Nat) (hx : o + x.length ≤ l.length) (h : a + m ≤ o ∨ o + x.length ≤ a) : ((splice l o x).drop a).take m = (l.drop a).take m := by
  apply List.ext_getElem?
  intro q
  rw [List.getElem?_take, List.getElem?_drop, List.getElem?_take, List.getElem?_drop]
  by_cases hq : q < m
  · rw [if_pos hq, if_pos hq, splice_at _ _ _ _ hx, if_neg (by omega)]
  · rw [if_neg hq, if_neg hq]
theorem cut_splice_in (l x : Bytes) (o a m : Nat) (hx : o + x.length ≤ l.length) (h1 : o ≤ a) (h2 : a + m ≤ o + x.length) : ((splice l o x).drop a).take m = (x.drop (a - o)).take m := by
  apply List.ext_getElem?
  intro q
  rw [List.getElem?_take, List.getElem?_drop, List.getElem?_take, List.getElem?_drop]
  by_cases hq : q < m
  · rw [if_pos hq, if_pos hq, splice_at _ _ _ _ hx, if_pos (by omega)]
    congr 1; omega
  · rw [if_neg hq, if_neg hq]
theorem zeros_cut (n a m : Nat) (h : a + m ≤ n) : ((List.replicate n (0 : UInt8)).drop a).take m = List.replicate m 0 := by
  rw [List.drop_replicate, List.take_replicate]; congr 1; omega
/-- an image of nothing -/
theorem good_zero {n : Nat} (h : rightB n = true) : Good (List.replicate n 0) := by
  have hb := rightB_true.1 h
  have hE : ∀ k, k < 40 → rawE (List.replicate n 0) k = List.replicate 5 0 := fun k hk => zeros_cut n (5 * k) 5 (by omega)
  have hR : ∀ i, i < 8 → rawR (List.replicate n 0) i = List.replicate 11 0 := fun i hi => zeros_cut n (200 + 11 * i) 11 (by omega)
  refine good_iff.2 ⟨by rw [List.length_replicate]; exact h, ⟨fun k hk _ => by rw [hE k hk]; exact zeros_zero 5, fun k hk hh => ?_, fun k hk j hj hh _ => ?_, fun i hi hz => ?_, fun i hi j hj hz _ => ?_⟩⟩
  · rw [hE k hk, zeros_has] at hh; cases hh
  · rw [hE k hk, zeros_has] at hh; cases hh
  · rw [hR i hi, zeros_zero] at hz; cases hz
  · rw [hR i hi, zeros_zero] at hz; cases hz
/-- what Alloc makes of an image -/
structure AllocIs (l l' : Bytes) (k a n t : Nat) : Prop where
  k40 : k < 40
  none : hasE (rawE l k) = false
  least : ∀ i, i < k → hasE (rawE l i) = true
  a0 : 288 ≤ a
  a1 : a + n ≤ l.length
  n0 : 1 ≤ n
  n1 : n ≤ 1000
  t1 : t ≤ 15
  len : l'.length = l.length
  ents : ∀ j, j < 40 → rawE l' j = if j = k then entB a n t else rawE l j
  rots : ∀ i, i < 8 → rawR l' i = rawR l i
  apart : ∀ j, j < 40 → hasE (rawE l j) = true → a + n ≤ rAt (rawE l j) ∨ rAt (rawE l j) + rLen (rawE l j) ≤ a
  zero : (l'.drop a).take n = List.replicate n 0
  rest : ∀ b m, 288 ≤ b → b + m ≤ a ∨ a + n ≤ b → (l'.drop b).take m = (l.drop b).take m
theorem alloc_is {l : Bytes} (hg : Good l) {n t : Int} (h0 : allocE l n t = 0) : ∃ k a n' t' : Nat, n = n' ∧ t = t' ∧ allocH l n t = (k : Int) + 1 ∧ allocA l n = a ∧ AllocIs l (allocL l n t) k a n' t' := by
  have hb := hg.bd
  have hE := h0
  unfold allocE at hE
  by_cases hbad : lenB n = false ∨ tagB t = false
  · rw [if_pos hbad] at hE; cases hE
  · rw [if_neg hbad] at hE
    by_cases hz : fH l 40 = 0 ∨ fitE ((l.length : Int) - 288) (takenL l) n ≠ 0
    · rw [if_pos hz] at hE; cases hE
    · have hn := lenB_true.1 (show lenB n = true by cases hx : lenB n <;> simp_all)
      have ht := tagB_true.1 (show tagB t = true by cases hx : tagB t <;> simp_all)
      have hf : fitE ((l.length : Int) - 288) (takenL l) n = 0 := by omega
      obtain ⟨i1, i2⟩ := alloc_in hf
      rcases fH_spec l 40 (Nat.le_refl _) with ⟨h, _⟩ | ⟨k, k1, k2, k3, k4, k5⟩
      · omega
      obtain ⟨a, ha⟩ := Int.eq_ofNat_of_zero_le (show 0 ≤ allocA l n by omega)
      obtain ⟨n', rfl⟩ := Int.eq_ofNat_of_zero_le (show 0 ≤ n by omega)
      obtain ⟨t', rfl⟩ := Int.eq_ofNat_of_zero_le (show 0 ≤ t by omega)
      have hL : allocL l n' t' = splice (splice l (5 * k) (entB a n' t')) a (List.replicate n' 0) := by
        unfold allocL
        rw [if_pos h0, ha, k3]
        unfold putEnt
        rw [show ((k + 1 : Nat) : Int) = (k : Int) + 1 by omega, entO_k]
        rfl
      have hl1 : (splice l (5 * k) (entB a n' t')).length = l.length := splice_len _ _ _ (by rw [entB_len]; omega)
      have hl2 : (allocL l n' t').length = l.length := by rw [hL, splice_len _ _ _ (by rw [hl1]; simp; omega), hl1]
      refine ⟨k, a, n', t', rfl, rfl, by unfold allocH; rw [if_pos h0, k3]; omega, ha, ⟨k2, k4, fun i hi => k5 i (by omega) hi, by omega, by omega, by omega, by omega, by omega, hl2, fun j hj => ?_, fun i hi => ?_, fun j hj hh => ?_, ?_, fun b m hb0 hbm => ?_⟩⟩
      · rw [hL, rawE_tail _ _ _ _ (by omega) (by rw [hl1]; simp; omega) hj]
        exact rawE_splice l (entB a n' t') k j (entB_len _ _ _) k2 hj (by omega)
      · rw [hL, rawR_tail _ _ _ _ (by omega) (by rw [hl1]; simp; omega) hi]
        exact rawR_head l _ _ _ (by rw [entB_len]; omega) (by omega)
      · have hc := good_chk hg
        obtain ⟨L, m1, m2, m3, _, _⟩ := fit_some hc hf
        have h4 := (holes_mem hc _ m1).2.2.2 _ (takenL_mem.2 ⟨j, hj, hh, rfl⟩)
        unfold allocA at ha
        dsimp only at h4
        omega
      · rw [hL, cut_splice_in _ _ _ _ _ (by rw [hl1]; simp; omega) (by omega) (by simp), Nat.sub_self, List.drop_zero, List.take_of_length_le (by simp)]
      · rw [hL, cut_splice _ _ _ _ _ (by rw [hl1]; simp; omega) (by simpa using hbm), cut_splice _ _ _ _ _ (by rw [entB_len]; omega) (by rw [entB_len]; omega)]
theorem AllocIs.ent {l l' : Bytes} {k a n t : Nat} (h : AllocIs l l' k a n t) (hb : l.length ≤ 6400) : hasE (rawE l' k) = true ∧ rAt (rawE l' k) = a ∧ rLen (rawE l' k) = n ∧ rTag (rawE l' k) = t := by
  rw [h.ents k h.k40, if_pos rfl]
  exact entB_rd a n t (by have := h.a1; omega) (by have := h.n1; omega) h.t1
theorem AllocIs.good {l l' : Bytes} {k a n t : Nat} (h : AllocIs l l' k a n t) (hg : Good l) : Good l' := by
  have hb := hg.bd
  obtain ⟨e1, e2, e3, e4⟩ := entB_rd a n t (by have := h.a1; omega) (by have := h.n1; omega) h.t1
  refine good_iff.2 ⟨by rw [h.len]; exact hg.len, ?_⟩
  rw [h.len]
  have h1 : GoodS l.length (rawE l') (rawR l) := by
    refine hg.s.putE k h.k40 (entB a n t) h.ents e1 ?_ (fun j hj _ hh => ?_)
    · unfold strayE
      rw [e2, e3, e4, tagB_true.2 ⟨by omega, by have := h.t1; omega⟩, lenB_true.2 ⟨by have := h.n0; omega, by have := h.n1; omega⟩, withinB_true.2 ⟨by have := h.a0; omega, by have := h.a1; omega, by have := h.a1; omega⟩]
      rfl
    · have := h.apart j hj hh
      unfold overE
      rw [e2, e3]
      simp only [Bool.and_eq_false_iff, decide_eq_false_iff_not]
      omega
  exact h1.putR 0 (rawR l 0) (fun j hj => by rw [h.rots j hj]; split <;> simp_all) (by
    cases hz : zeroE (rawR l 0) with
    | true => exact .inl rfl
    | false => exact .inr ⟨h1.root 0 (by omega) hz, fun j hj hne hz' => (h1.name j hj 0 (by omega) hz' hz).symm⟩)
theorem alloc_good {l : Bytes} (hg : Good l) (n t : Int) : Good (allocL l n t) := by
  by_cases h0 : allocE l n t = 0
  · obtain ⟨k, a, n', t', _, _, _, _, h⟩ := alloc_is hg h0
    exact h.good hg
  · have : allocL l n t = l := by unfold allocL; rw [if_neg h0]
    rw [this]; exact hg
theorem rootsL_mem {l : Bytes} {x : Bytes × Nat} : x ∈ rootsL l ↔ ∃ i, i < 8 ∧ zeroE (rawR l i) = false ∧ x = rootP (rawR l i) := by
  unfold rootsL rootsF
  simp only [List.mem_map, List.mem_filter, List.mem_range, Bool.not_eq_true']
  constructor
  · rintro ⟨i, ⟨h1, h2⟩, rfl⟩; exact ⟨i, h1, h2, rfl⟩
  · rintro ⟨i, h1, h2, rfl⟩; exact ⟨i, ⟨h1, h2⟩, rfl⟩
/-- what Free makes of an image -/
structure FreeIs (l l' : Bytes) (k : Nat) : Prop where
  k40 : k < 40
  has : hasE (rawE l k) = true
  len : l'.length = l.length
  ents : ∀ j, j < 40 → rawE l' j = if j = k then List.replicate 5 0 else rawE l j
  rots : ∀ i, i < 8 → rawR l' i = rawR l i
  nol : ∀ i, i < 8 → zeroE (rawR l i) = false → ((rawR l i).getD 10 0).toNat ≠ k + 1
  rest : ∀ b m, 288 ≤ b → (l'.drop b).take m = (l.drop b).take m
theorem free_is {l : Bytes} (hg : Good l) {x : Int} (h0 : freeE l x = 0) : ∃ k : Nat, x = (k : Int) + 1 ∧ FreeIs l (freeL l x) k := by
  have hb := hg.bd
  have hQ := h0
  unfold freeE at hQ
  by_cases hx : hE l x = 0
  · rw [if_neg (by simp [hx])] at hQ
    obtain ⟨k, hk, rfl, hh, _⟩ := hE_zero hx
    have hno : (rootsL l).any (fun r => (r.2 : Int) == (k : Int) + 1) = false := by
      cases ha : (rootsL l).any (fun r => (r.2 : Int) == (k : Int) + 1) with
      | false => rfl
      | true => rw [ha] at hQ; simp at hQ
    have hL : freeL l ((k : Int) + 1) = splice l (5 * k) (List.replicate 5 0) := by
      unfold freeL
      rw [if_pos h0, show ((k : Int) + 1 - 1).toNat = k by omega]
    rw [List.any_eq_false] at hno
    refine ⟨k, rfl, ⟨hk, hh, by rw [hL]; exact splice_len _ _ _ (by simp; omega), fun j hj => ?_, fun i hi => ?_, fun i hi hz => ?_, fun b m hb0 => ?_⟩⟩
    · rw [hL]; exact rawE_splice l _ k j (by simp) hk hj (by omega)
    · rw [hL]; exact rawR_head l _ _ _ (by simp; omega) (by omega)
    · have h1 := hno _ (rootsL_mem.2 ⟨i, hi, hz, rfl⟩)
      simp only [rootP, beq_iff_eq] at h1
      omega
    · rw [hL]; exact cut_splice _ _ _ _ _ (by simp; omega) (by simp; omega)
  · rw [if_pos hx] at hQ; exact absurd hQ hx
theorem FreeIs.good {l l' : Bytes} {k : Nat} (h : FreeIs l l' k) (hg : Good l) : Good l' := by
  refine good_iff.2 ⟨by rw [h.len]; exact hg.len, ?_⟩
  rw [h.len]
  have h1 : GoodS l.length (rawE l') (rawR l) := hg.s.dropE k h.k40 h.ents h.nol
  exact h1.putR 0 (rawR l 0) (fun j hj => by rw [h.rots j hj]; split <;> simp_all) (by
    cases hz : zeroE (rawR l 0) with
    | true => exact .inl rfl
    | false => exact .inr ⟨h1.root 0 (by omega) hz, fun j hj hne hz' => (h1.name j hj 0 (by omega) hz' hz).symm⟩)
theorem free_good {l : Bytes} (hg : Good l) (x : Int) : Good (freeL l x) := by
  by_cases h0 : freeE l x = 0
  · obtain ⟨k, _, h⟩ := free_is hg h0
    exact h.good hg
  · have : freeL l x = l := by unfold freeL; rw [if_neg h0]
    rw [this]; exact hg
end Go.Proofs.YtijcclpnkfmpnaaGreat
/- HeapKeeps, the plain law: what an Alloc and a Write leave as it was. -/
namespace Go.Proofs.YtijcclpnkfmpnaaGreat
open Go.RowKit

theorem obj_congr {l l' : Bytes} {k : Nat} (he : rawE l' k = rawE l k) (hs : hasE (rawE l k) = true → (l'.drop (rAt (rawE l k))).take (rLen (rawE l k)) = (l.drop (rAt (rawE l k))).take (rLen (rawE l k))) : objT l' k = objT l k ∧ objS l' k = objS l k := by
  unfold objT objS
  rw [he]
  by_cases h : hasE (rawE l k) = true
  · simp only [if_pos h, hs h]; exact ⟨trivial, trivial⟩
  · simp only [if_neg h]; exact ⟨trivial, trivial⟩
theorem hd_of {l : Bytes} {k : Nat} (hk : k < 40) (hh : hasE (rawE l k) = true) : hE l ((k : Int) + 1) = 0 ∧ gA l ((k : Int) + 1) = rAt (rawE l k) ∧ gL l ((k : Int) + 1) = rLen (rawE l k) ∧ gT l ((k : Int) + 1) = rTag (rawE l k) := by
  obtain ⟨h0, h1⟩ := hE_has hk hh
  unfold gA gL gT
  rw [if_pos h0, if_pos h0, if_pos h0, h1]
  exact ⟨h0, rfl, rfl, rfl⟩
section
variable {l l' : Bytes} {k a n t : Nat}
theorem AllocIs.keep (h : AllocIs l l' k a n t) (hg : Good l) {j : Nat} (hj : j < 40) (hne : j ≠ k) : objT l' j = objT l j ∧ objS l' j = objS l j := by
  refine obj_congr (by rw [h.ents j hj, if_neg hne]) fun hh => ?_
  have := strayE_false (hg.s.fit j hj hh)
  have := h.apart j hj hh
  exact h.rest _ _ (by omega) (by omega)
theorem AllocIs.hd (h : AllocIs l l' k a n t) (hg : Good l) : hE l' ((k : Int) + 1) = 0 ∧ gA l' ((k : Int) + 1) = a ∧ gL l' ((k : Int) + 1) = n ∧ gT l' ((k : Int) + 1) = t := by
  obtain ⟨e1, e2, e3, e4⟩ := h.ent hg.bd.2
  have := hd_of h.k40 e1
  rw [e2, e3, e4] at this
  exact this
theorem some_zero {x o m : Int} (h0 : hE l x = 0) (h1 : 0 ≤ o) (h2 : 0 ≤ m) (h3 : o + m ≤ gL l x) : someE l x o m = 0 := by
  unfold someE
  rw [if_neg (by omega), if_neg (by omega)]
theorem AllocIs.read (h : AllocIs l l' k a n t) (hg : Good l) : someE l' ((k : Int) + 1) 0 n = 0 ∧ readL l' ((k : Int) + 1) 0 n = List.replicate n 0 := by
  obtain ⟨e1, e2, e3, e4⟩ := h.hd hg
  have h0 : someE l' ((k : Int) + 1) 0 n = 0 := some_zero e1 (by omega) (by omega) (by omega)
  refine ⟨h0, ?_⟩
  unfold readL
  rw [if_pos h0, e2, show ((a : Int) + 0).toNat = a by omega, Int.toNat_natCast]
  exact h.zero
/-- what Write makes of an image -/
structure WriteIs (l l' : Bytes) (k o : Nat) (b : Bytes) : Prop where
  k40 : k < 40
  has : hasE (rawE l k) = true
  o0 : 288 ≤ o
  o1 : o + b.length ≤ l.length
  at0 : rAt (rawE l k) ≤ o
  at1 : o + b.length ≤ rAt (rawE l k) + rLen (rawE l k)
  eq : l' = splice l o b
theorem write_is (hg : Good l) {x c : Int} {b : Bytes} (h : someE l x c b.length = 0) : ∃ k o : Nat, x = (k : Int) + 1 ∧ gA l x + c = o ∧ WriteIs l (writeL l x c b) k o b := by
  obtain ⟨h0, h1, h2, h3, h4, h5, h6, h7⟩ := some_in hg h
  obtain ⟨k, hk, rfl, hh, he⟩ := hE_zero h0
  obtain ⟨_, f1, f2, f3⟩ := hd_of hk hh
  obtain ⟨o, ho⟩ := Int.eq_ofNat_of_zero_le (show 0 ≤ gA l ((k : Int) + 1) + c by omega)
  refine ⟨k, o, rfl, ho, hk, hh, by omega, by omega, by omega, by omega, ?_⟩
  unfold writeL
  rw [if_pos h, ho]
  rfl
variable {o : Nat} {b : Bytes}
theorem WriteIs.len (h : WriteIs l l' k o b) : l'.length = l.length := by rw [h.eq]; exact splice_len _ _ _ h.o1
theorem WriteIs.ents (h : WriteIs l l' k o b) (j : Nat) (hj : j < 40) : rawE l' j = rawE l j := by rw [h.eq]; exact rawE_tail _ _ _ _ h.o0 h.o1 hj
theorem WriteIs.rots (h : WriteIs l l' k o b) (j : Nat) (hj : j < 8) : rawR l' j = rawR l j := by rw [h.eq]; exact rawR_tail _ _ _ _ h.o0 h.o1 hj
theorem Good.apart {l : Bytes} (hg : Good l) {j k : Nat} (hj : j < 40) (hk : k < 40) (hne : j ≠ k) (h1 : hasE (rawE l j) = true) (h2 : hasE (rawE l k) = true) : overE (rawE l k) (rawE l j) = false := by
  rcases Nat.lt_or_gt_of_ne hne with h | h
  · exact hg.s.apart k hk j h h2 h1
  · rw [overE_symm]; exact hg.s.apart j hj k h h1 h2
theorem WriteIs.good (h : WriteIs l l' k o b) (hg : Good l) : Good l' := by
  refine good_iff.2 ⟨by rw [h.len]; exact hg.len, ?_⟩
  rw [h.len]
  have h1 : GoodS l.length (rawE l') (rawR l) := hg.s.putE k h.k40 (rawE l k) (fun j hj => by rw [h.ents j hj]; split <;> simp_all) h.has (hg.s.fit k h.k40 h.has) (fun j hj hne hh => hg.apart hj h.k40 hne hh h.has)
  exact h1.putR 0 (rawR l 0) (fun j hj => by rw [h.rots j hj]; split <;> simp_all) (by
    cases hz : zeroE (rawR l 0) with
    | true => exact .inl rfl
    | false => exact .inr ⟨h1.root 0 (by omega) hz, fun j hj hne hz' => (h1.name j hj 0 (by omega) hz' hz).symm⟩)
theorem write_good (hg : Good l) (x c : Int) (b : Bytes) : Good (writeL l x c b) := by
  by_cases h : someE l x c b.length = 0
  · obtain ⟨k, o, _, _, hw⟩ := write_is hg h
    exact hw.good hg
  · have : writeL l x c b = l := by unfold writeL; rw [if_neg h]
    rw [this]; exact hg
theorem WriteIs.keep (h : WriteIs l l' k o b) (hg : Good l) {j : Nat} (hj : j < 40) (hne : j ≠ k) : objT l' j = objT l j ∧ objS l' j = objS l j := by
  refine obj_congr (h.ents j hj) fun hh => ?_
  have := hg.apart hj h.k40 hne hh h.has
  unfold overE at this
  simp only [Bool.and_eq_false_iff, decide_eq_false_iff_not] at this
  have := h.at0
  have := h.at1
  rw [h.eq]
  exact cut_splice _ _ _ _ _ h.o1 (by omega)
theorem WriteIs.some (h : WriteIs l l' k o b) (x c m : Int) : someE l' x c m = someE l x c m ∧ gA l' x = gA l x := by
  have hx : hE l' x = hE l x ∧ (hE l x = 0 → hR l' x = hR l x) := by
    unfold hE hR
    by_cases hb : handleB x = false
    · rw [if_pos hb, if_pos hb]; exact ⟨rfl, fun h => by cases h⟩
    · have := handleB_true.1 (show handleB x = true by cases hx : handleB x <;> simp_all)
      rw [if_neg hb, if_neg hb, h.ents (x - 1).toNat (by omega)]
      exact ⟨rfl, fun _ => rfl⟩
  have hgl : gL l' x = gL l x ∧ gA l' x = gA l x := by
    unfold gL gA
    rw [hx.1]
    by_cases h0 : hE l x = 0
    · rw [if_pos h0, if_pos h0, if_pos h0, if_pos h0, hx.2 h0]; exact ⟨rfl, rfl⟩
    · rw [if_neg h0, if_neg h0, if_neg h0, if_neg h0]; exact ⟨rfl, rfl⟩
  unfold someE
  rw [hx.1, hgl.1]
  exact ⟨rfl, hgl.2⟩
end
theorem write_read {l : Bytes} (hg : Good l) {x c : Int} {b : Bytes} (h : someE l x c b.length = 0) : someE (writeL l x c b) x c b.length = 0 ∧ readL (writeL l x c b) x c b.length = b := by
  obtain ⟨k, o, _, ho, hw⟩ := write_is hg h
  obtain ⟨h1, h2⟩ := hw.some x c b.length
  rw [h] at h1
  refine ⟨h1, ?_⟩
  unfold readL
  rw [if_pos h1, h2, ho, Int.toNat_natCast, Int.toNat_natCast, hw.eq, cut_splice_in _ _ _ _ _ hw.o1 (Nat.le_refl _) (Nat.le_refl _), Nat.sub_self, List.drop_zero, List.take_of_length_le (Nat.le_refl _)]
theorem write_keep {l : Bytes} (hg : Good l) {x c : Int} {b : Bytes} (h : someE l x c b.length = 0) {j : Nat} (hj : j < 40) (hne : ((j : Int) + 1) ≠ x) : objT (writeL l x c b) j = objT l j ∧ objS (writeL l x c b) j = objS l j := by
  obtain ⟨k, o, hx, ho, hw⟩ := write_is hg h
  exact hw.keep hg hj (by omega)
theorem alloc_keep {l : Bytes} (hg : Good l) {n t : Int} (h : allocE l n t = 0) {j : Nat} (hj : j < 40) (hne : ((j : Int) + 1) ≠ allocH l n t) : objT (allocL l n t) j = objT l j ∧ objS (allocL l n t) j = objS l j := by
  obtain ⟨k, a, n', t', _, _, hH, _, hi⟩ := alloc_is hg h
  exact hi.keep hg hj (by omega)
theorem alloc_read {l : Bytes} (hg : Good l) {n t : Int} (h : allocE l n t = 0) : 1 ≤ n ∧ n ≤ 1000 ∧ 1 ≤ allocH l n t ∧ allocH l n t ≤ 40 ∧ someE (allocL l n t) (allocH l n t) 0 n = 0 ∧ readL (allocL l n t) (allocH l n t) 0 n = List.replicate n.toNat 0 ∧ hE (allocL l n t) (allocH l n t) = 0 ∧ gT (allocL l n t) (allocH l n t) = t := by
  obtain ⟨k, a, n', t', hn, ht, hH, _, hi⟩ := alloc_is hg h
  have h1 := hi.read hg
  have h2 := hi.hd hg
  have := hi.k40
  have := hi.n0
  have := hi.n1
  rw [hH, ht]
  rw [hn] at h1 h2 ⊢
  rw [ht] at h1 h2
  refine ⟨by omega, by omega, by omega, by omega, h1.1, ?_, h2.1, h2.2.2.2⟩
  rw [h1.2, Int.toNat_natCast]
theorem splice_cut (l x : Bytes) (o a m : Nat) (hx : o + x.length ≤ l.length) (h1 : a ≤ o) (h2 : o + x.length ≤ a + m) (h3 : a + m ≤ l.length) : ((splice l o x).drop a).take m = splice ((l.drop a).take m) (o - a) x := by
  apply List.ext_getElem?
  intro q
  have hl : ((l.drop a).take m).length = m := by simp; omega
  rw [splice_at _ _ _ _ (by omega), List.getElem?_take, List.getElem?_drop]
  by_cases hq : q < m
  · rw [if_pos hq, splice_at _ _ _ _ hx]
    by_cases hi : o ≤ a + q ∧ a + q < o + x.length
    · rw [if_pos hi, if_pos (by omega)]; congr 1; omega
    · rw [if_neg hi, if_neg (by omega), List.getElem?_take, List.getElem?_drop, if_pos hq]
  · rw [if_neg hq, if_neg (by omega), List.getElem?_take, if_neg hq]
/-- the first part of the law -/
theorem keeps_first : ∃ l1 : Bytes, allocL (List.replicate 320 0) 4 2 = l1 ∧ Good l1 ∧ allocE (List.replicate 320 0) 4 2 = 0 ∧ allocH (List.replicate 320 0) 4 2 = 1 ∧ someE l1 1 1 1 = 0 ∧ someE (writeL l1 1 1 [7]) 1 0 4 = 0 ∧ readL (writeL l1 1 1 [7]) 1 0 4 = [0, 7, 0, 0] := by
  have hg : Good (List.replicate 320 0) := good_zero' rfl
  have hz : ∀ j, j < 40 → hasE (rawE (List.replicate 320 0) j) = false := fun j hj => by
    rw [show rawE (List.replicate 320 0) j = List.replicate 5 0 from zeros_cut 320 (5 * j) 5 (by omega)]; exact zeros_has
  have hfh : fH (List.replicate 320 0) 40 = 1 := by
    rcases fH_spec (List.replicate 320 0) 40 (Nat.le_refl _) with ⟨_, hall⟩ | ⟨q, _, k2, k3, k4, k5⟩
    · have := hall 0 (by omega) (by omega)
      rw [hz 0 (by omega)] at this; cases this
    · rw [k3]
      by_cases hq : q = 0
      · rw [hq]
      · have := k5 0 (by omega) (by omega)
        rw [hz 0 (by omega)] at this; cases this
  have hc := good_chk hg
  have hlen : (List.replicate 320 (0 : UInt8)).length = 320 := List.length_replicate
  generalize List.replicate 320 (0 : UInt8) = l at *
  rw [hlen] at hc
  have hE : allocE l 4 2 = 0 := by
    have hf : fitE ((320 : Nat) - 288 : Int) (takenL l) 4 = 0 := fit_exists hc (p := 0) (by omega) (by omega) (by omega) (fun e he => by
      obtain ⟨j, hj, hh, _⟩ := takenL_mem.1 he
      rw [hz j hj] at hh; cases hh)
    unfold allocE
    rw [if_neg (by decide), hlen, if_neg (by rw [hfh, hf]; decide)]
  have hH : allocH l 4 2 = 1 := by unfold allocH; rw [if_pos hE, hfh]; rfl
  obtain ⟨k, a, n', t', hn, ht, hH', _, hi⟩ := alloc_is hg hE
  obtain rfl : n' = 4 := by omega
  obtain rfl : k = 0 := by omega
  have hg1 := hi.good hg
  obtain ⟨d1, d2, d3, d4⟩ := hi.hd hg
  have hzero := hi.zero
  have hl1 := hi.len
  have ha1 := hi.a1
  generalize allocL l 4 2 = l1 at *
  rw [show ((0 : Nat) : Int) + 1 = 1 from rfl] at *
  have hs : someE l1 1 1 ([7] : Bytes).length = 0 := some_zero d1 (by decide) (by decide) (by rw [d3]; decide)
  obtain ⟨k2, o, _, ho, hw⟩ := write_is hg1 hs
  have hs2 : someE (writeL l1 1 1 [7]) 1 0 4 = 0 := by
    rw [(hw.some 1 0 4).1]
    exact some_zero d1 (by decide) (by decide) (by rw [d3]; decide)
  refine ⟨l1, rfl, hg1, hE, hH, hs, hs2, ?_⟩
  unfold readL
  rw [if_pos hs2, (hw.some 1 0 4).2, d2, show ((a : Int) + 0).toNat = a by omega, show (4 : Int).toNat = 4 from rfl, hw.eq]
  rw [d2] at ho
  obtain rfl : o = a + 1 := by omega
  rw [splice_cut _ _ _ _ _ hw.o1 (by omega) (by simp) (by omega), hzero, Nat.add_sub_cancel_left]
  rfl
end Go.Proofs.YtijcclpnkfmpnaaGreat
/- Where a name's root lies, and the first that is free: root.place. -/
namespace Go.Proofs.YtijcclpnkfmpnaaGreat
open Go.RowKit

/-- after j rounds, from the last root down: where the name lies, which root is free (-1: nowhere) -/
def placeF (l s : Bytes) : Nat → Int × Int
  | 0 => (-1, -1)
  | j + 1 => if zeroE (rawR l (7 - j)) = true then ((placeF l s j).1, ((7 - j : Nat) : Int)) else if nmR (rawR l (7 - j)) = s then (((7 - j : Nat) : Int), (placeF l s j).2) else placeF l s j
theorem Good.got {l : Bytes} (h : Good l) {i : Nat} (hi : i < 8) (hz : zeroE (rawR l i) = false) : gotName ((rawR l i).take 8) = true := by
  have := h.s.root i hi hz
  unfold badR at this
  simp only [Bool.or_eq_false_iff] at this
  simpa using this.1.1.1
theorem placeF_spec (l s : Bytes) : ∀ j, j ≤ 8 →
    (((placeF l s j).1 = -1 ∧ ∀ i, 8 - j ≤ i → i < 8 → zeroE (rawR l i) = false → nmR (rawR l i) ≠ s) ∨ (∃ i : Nat, 8 - j ≤ i ∧ i < 8 ∧ (placeF l s j).1 = i ∧ zeroE (rawR l i) = false ∧ nmR (rawR l i) = s ∧ ∀ q, 8 - j ≤ q → q < i → zeroE (rawR l q) = false → nmR (rawR l q) ≠ s)) ∧
    (((placeF l s j).2 = -1 ∧ ∀ i, 8 - j ≤ i → i < 8 → zeroE (rawR l i) = false) ∨ (∃ i : Nat, 8 - j ≤ i ∧ i < 8 ∧ (placeF l s j).2 = i ∧ zeroE (rawR l i) = true ∧ ∀ q, 8 - j ≤ q → q < i → zeroE (rawR l q) = false))
  | 0, _ => ⟨.inl ⟨rfl, fun i h1 h2 => by omega⟩, .inl ⟨rfl, fun i h1 h2 => by omega⟩⟩
  | j + 1, hj => by
    obtain ⟨h1, h2⟩ := placeF_spec l s j (by omega)
    have hcut : ∀ i, 8 - (j + 1) ≤ i → i < 8 → i = 7 - j ∨ 8 - j ≤ i := fun i _ _ => by omega
    cases hz : zeroE (rawR l (7 - j)) with
    | true =>
      have e : placeF l s (j + 1) = ((placeF l s j).1, ((7 - j : Nat) : Int)) := by rw [placeF, if_pos hz]
      rw [e]
      refine ⟨?_, .inr ⟨7 - j, by omega, by omega, rfl, hz, fun q q1 q2 => by omega⟩⟩
      rcases h1 with ⟨a, b⟩ | ⟨i, a, b, c, d, f, g⟩
      · refine .inl ⟨a, fun i i1 i2 i3 => ?_⟩
        rcases hcut i i1 i2 with rfl | hi
        · rw [hz] at i3; cases i3
        · exact b i hi i2 i3
      · refine .inr ⟨i, by omega, b, c, d, f, fun q q1 q2 q3 => ?_⟩
        rcases hcut q q1 (by omega) with rfl | hq
        · rw [hz] at q3; cases q3
        · exact g q hq q2 q3
    | false =>
      have hfree : ∀ v : Int × Int, v.2 = (placeF l s j).2 → ((v.2 = -1 ∧ ∀ i, 8 - (j + 1) ≤ i → i < 8 → zeroE (rawR l i) = false) ∨ (∃ i : Nat, 8 - (j + 1) ≤ i ∧ i < 8 ∧ v.2 = i ∧ zeroE (rawR l i) = true ∧ ∀ q, 8 - (j + 1) ≤ q → q < i → zeroE (rawR l q) = false)) := fun v hv => by
        rw [hv]
        rcases h2 with ⟨a, b⟩ | ⟨i, a, b, c, d, f⟩
        · refine .inl ⟨a, fun i i1 i2 => ?_⟩
          rcases hcut i i1 i2 with rfl | hi
          · exact hz
          · exact b i hi i2
        · refine .inr ⟨i, by omega, b, c, d, fun q q1 q2 => ?_⟩
          rcases hcut q q1 (by omega) with rfl | hq
          · exact hz
          · exact f q hq q2
      by_cases hn : nmR (rawR l (7 - j)) = s
      · have e : placeF l s (j + 1) = (((7 - j : Nat) : Int), (placeF l s j).2) := by rw [placeF, if_neg (by rw [hz]; decide), if_pos hn]
        rw [e]
        exact ⟨.inr ⟨7 - j, by omega, by omega, rfl, hz, hn, fun q q1 q2 => by omega⟩, hfree _ rfl⟩
      · have e : placeF l s (j + 1) = placeF l s j := by rw [placeF, if_neg (by rw [hz]; decide), if_neg hn]
        rw [e]
        refine ⟨?_, hfree _ rfl⟩
        rcases h1 with ⟨a, b⟩ | ⟨i, a, b, c, d, f, g⟩
        · refine .inl ⟨a, fun i i1 i2 i3 => ?_⟩
          rcases hcut i i1 i2 with rfl | hi
          · exact hn
          · exact b i hi i2 i3
        · refine .inr ⟨i, by omega, b, c, d, f, fun q q1 q2 q3 => ?_⟩
          rcases hcut q q1 (by omega) with rfl | hq
          · exact hn
          · exact g q hq q2 q3
section
variable {w0 w : World} {F : Nat → Prop} {h : Nat} {l : Bytes}
set_option maxRecDepth 100000 in
set_option maxHeartbeats 2000000 in
theorem place_any (s : Bytes) (hp : Hp w0 w F h l) (hg : Good l) :
    Calls Tryz.prog 54 #[.pointer (some ⟨h, 0, none⟩), sv s] w fun e w' => e = .returned (.tuple #[.int .i64 (placeF l s 8).1, .int .i64 (placeF l s 8).2]) ∧ Below w.heap.size w w' := by
  have hb := rightB_true.1 hp.len
  have HC := Hidden.mk (hbytes_ok _ _ F h l hp)
  have HLEN : Hidden (∀ k : Nat, k < 8 → (rawR l k).length = 11) := ⟨fun k hk => rawR_len l k hk (by omega)⟩
  have HGOT : Hidden (∀ k : Nat, k < 8 → zeroE (rawR l k) = false → gotName ((rawR l k).take 8) = true) := ⟨fun k hk hz => hg.got hk hz⟩
  have HCUT : Hidden (∀ (W : World) g cap, Row W 5 g cap l → ∀ k, k < 8 → Rd W (some ⟨g, 0 + (200 + 11 * k), none⟩) (rawR l k)) := ⟨fun W g cap hr k hk => by
    have hx := rawR_rd hr.rd k hk (by omega)
    rw [Option.map_some, Addr.add_lit] at hx
    exact hx⟩
  have HNX : Hidden (∀ j, placeF l s (j + 1) = if zeroE (rawR l (7 - j)) = true then ((placeF l s j).1, ((7 - j : Nat) : Int)) else if nmR (rawR l (7 - j)) = s then (((7 - j : Nat) : Int), (placeF l s j).2) else placeF l s j) := ⟨fun j => by rw [placeF]⟩
  have HZ : Hidden (placeF l s 0 = (-1, -1)) := ⟨rfl⟩
  generalize placeF l s = P at *
  clear hp hg
  go_enter Tryz.func54, Tryz.ntmps54
  go_wp2_with fail
  refine HC.out.mono ?_
  rintro e w1 ⟨g, cap, rfl, hg1, hrow, hb1⟩
  have HROW := Hidden.mk hrow
  have HB1 := Hidden.mk hb1
  have hcap := hrow.le.1
  clear hg1 hrow hb1 HC
  go_wp2_with fail
  go_loopg [4, 5, 7] 8 (fun q a f i wr => ∃ j : Nat, j ≤ 8 ∧ q = 8 - j ∧ i = .int .i64 (7 - (j : Int)) ∧ a = .int .i64 (P j).1 ∧ f = .int .i64 (P j).2 ∧ Hidden (Below w1.heap.size w1 wr))
  case atStart => exact ⟨0, by omega, rfl, rfl, by rw [HZ.out], by rw [HZ.out], ⟨Below.refl _ _⟩⟩
  case round =>
    obtain ⟨j, hj, rfl, rfl, rfl, rfl, hst⟩ := hrel
    by_cases hlt : j < 8
    · obtain ⟨i, hi⟩ : ∃ i : Nat, i = 7 - j := ⟨_, rfl⟩
      have hii : (7 - (j : Int)) = (i : Int) := by omega
      have HNJ := Hidden.mk (HNX.out j)
      have s1 : IntKind.i64.wrap ((i : Int) - 1) = (i : Int) - 1 := IntWalk.i64_in _ (by omega)
      have t0 : decide (0 ≤ (i : Int)) = true := by simp
      have hi8 : i < 8 := by omega
      rw [hii]
      rw [← hi] at HNJ
      have hrw := HCUT.out wr g cap (HROW.out.block (hst.out.block _ HROW.out.lt)) i hi8
      have HLK := Hidden.mk (HLEN.out i hi8)
      have HGK := Hidden.mk (HGOT.out i hi8)
      generalize rawR l i = r at *
      have HI := Hidden.mk hi
      clear hi hii
      go_wp2_with fail
      refine (rawRoot_any (some ⟨g, 0, none⟩) l.length cap (i : Int) _ (by omega) (by omega) (by omega) hcap).mono ?_
      rintro e w2 ⟨rfl, rfl⟩
      rw [rootO_k, Option.map_some, Addr.add_lit]
      generalize hcc : cap - (200 + 11 * i) = cc at *
      have hc8 : 8 ≤ cc := by omega
      generalize 0 + (200 + 11 * i) = oo at *
      clear hcc
      go_wp2_with fail
      refine (izero_any _ 11 _ r _ HLK.out (by simp [maxLen]) hrw).mono ?_
      rintro e w3 ⟨rfl, rfl⟩
      cases hz : zeroE r with
      | true =>
        have HPJ := Hidden.mk (show P (j + 1) = ((P j).1, (i : Int)) by rw [HNJ.out, if_pos hz])
        clear HNJ hz HGK hrw
        go_wp2_with fail
        go_roundg (8 - (j + 1))
        case measure => omega
        case rel => exact ⟨j + 1, by omega, rfl, by rw [show (7 - ((j + 1 : Nat) : Int)) = (i : Int) - 1 by have := HI.out; omega], by rw [HPJ.out], by rw [HPJ.out], hst⟩
      | false =>
        have HPJ := Hidden.mk (show P (j + 1) = if nmR r = s then ((i : Int), (P j).2) else P j by rw [HNJ.out, if_neg (by rw [hz]; decide)])
        have hgn := HGK.out hz
        have HGN := Hidden.mk (getName_any (some ⟨g, oo, none⟩) cc (r.take 8) wr (by simp [HLK.out]) hc8 (hrw.take 8 (by rw [HLK.out]; omega)))
        rw [if_pos hgn] at HGN
        rw [show nameAt (r.take 8) = nmR r from rfl] at HGN
        clear HNJ hz HGK hgn hrw HLK
        generalize nmR r = nm at *
        go_wp2_with fail
        refine HGN.out.mono ?_
        rintro e w4 ⟨rfl, hb4⟩
        have HB4 := Hidden.mk (hst.out.trans (hb4.mono hst.out.size))
        clear hb4 hst HGN
        by_cases hn : nm = s
        · have d1 : (nm == s) = true := by simpa using hn
          have HPJ := Hidden.mk (show P (j + 1) = ((i : Int), (P j).2) by rw [HPJ.out, if_pos hn])
          clear hn
          go_wp2_with fail
          go_roundg (8 - (j + 1))
          case measure => omega
          case rel => exact ⟨j + 1, by omega, rfl, by rw [show (7 - ((j + 1 : Nat) : Int)) = (i : Int) - 1 by have := HI.out; omega], by rw [HPJ.out], by rw [HPJ.out], HB4⟩
        · have d1 : (nm == s) = false := by simpa using hn
          have HPJ := Hidden.mk (show P (j + 1) = P j by rw [HPJ.out, if_neg hn])
          clear hn
          go_wp2_with fail
          go_roundg (8 - (j + 1))
          case measure => omega
          case rel => exact ⟨j + 1, by omega, rfl, by rw [show (7 - ((j + 1 : Nat) : Int)) = (i : Int) - 1 by have := HI.out; omega], by rw [HPJ.out], by rw [HPJ.out], HB4⟩
    · obtain rfl : j = 8 := by omega
      have t0 : decide ((0 : Int) ≤ 7 - ((8 : Nat) : Int)) = false := by decide
      have HE := Hidden.mk (HB1.out.trans (hst.out.mono HB1.out.size))
      clear hst
      go_wp2_with fail
      go_ret2
      exact ⟨rfl, HE.out⟩
end
end Go.Proofs.YtijcclpnkfmpnaaGreat
/- root.Set, of a right name and an object that is there. -/
namespace Go.Proofs.YtijcclpnkfmpnaaGreat
open Go.RowKit

/-- where a name's root is set: its own place, else the first that is free -/
def setAt (l s : Bytes) : Int := if (placeF l s 8).1 < 0 then (placeF l s 8).2 else (placeF l s 8).1
section
variable {w0 w : World} {F : Nat → Prop} {h : Nat} {l : Bytes}
set_option maxRecDepth 100000 in
theorem rset_full (s : Bytes) (x : Int) (hp : Hp w0 w F h l) (hg : Good l) (hn : isName s = true) (hx : hE l x = 0) (ha : setAt l s < 0) :
    Calls Tryz.prog 15 #[.pointer (some ⟨h, 0, none⟩), sv s, .int .i64 x] w fun e w' => e = .returned (.tuple #[.bool false, .iface 76 (.int .i64 4)]) ∧ Below w.heap.size w w' := by
  have HP := Hidden.mk hp
  have HG := Hidden.mk hg
  have HX := Hidden.mk hx
  have HC := Hidden.mk (putName_ok s w hn)
  have h1 : (placeF l s 8).1 < 0 := by
    unfold setAt at ha
    by_cases h : (placeF l s 8).1 < 0
    · exact h
    · rw [if_neg h] at ha; exact absurd ha h
  have h2 : (placeF l s 8).2 < 0 := by
    unfold setAt at ha
    rw [if_pos h1] at ha; exact ha
  have HPL : Hidden (∀ W, Below w.heap.size w W → Calls Tryz.prog 54 #[.pointer (some ⟨h, 0, none⟩), sv s] W fun e w' => e = .returned (.tuple #[.int .i64 (placeF l s 8).1, .int .i64 (placeF l s 8).2]) ∧ Below W.heap.size W w') := ⟨fun W hW => place_any s (hp.below hW) hg⟩
  generalize (placeF l s 8).1 = p1 at *
  generalize (placeF l s 8).2 = p2 at *
  have d1 : decide (p1 < 0) = true := by simpa using h1
  have d2 : decide (p2 < 0) = true := by simpa using h2
  clear hp hg hn hx ha h1 h2
  go_enter Tryz.func15, Tryz.ntmps15
  go_wp2_with fail
  refine HC.out.mono ?_
  rintro e w1 ⟨gn, rfl, -, -, hb1⟩
  have HB1 := Hidden.mk hb1
  have HT := Hidden.mk (htag_any x (HP.out.below hb1))
  rw [HX.out, show errV 0 = Value.nilIface from rfl] at HT
  clear hb1 HC
  go_wp2_with fail
  refine HT.out.mono ?_
  rintro e w2 ⟨rfl, hb2⟩
  have HB2 := Hidden.mk (HB1.out.trans (hb2.mono HB1.out.size))
  clear hb2 HT HB1
  go_wp2_with fail
  refine (HPL.out w2 HB2.out).mono ?_
  rintro e w3 ⟨rfl, hb3⟩
  have HB3 := Hidden.mk (HB2.out.trans (hb3.mono HB2.out.size))
  clear hb3 HPL HB2
  go_wp2_with fail
  go_ret2
  exact ⟨rfl, HB3.out⟩
set_option maxRecDepth 100000 in
theorem rset_ok (s : Bytes) (x : Int) (i : Nat) (hp : Hp w0 w F h l) (hg : Good l) (hn : isName s = true) (hx : hE l x = 0) (hi : i < 8) (ha : setAt l s = i) :
    Calls Tryz.prog 15 #[.pointer (some ⟨h, 0, none⟩), sv s, .int .i64 x] w fun e w' => e = .returned (.tuple #[.bool (decide ((placeF l s 8).1 < 0)), .nilIface]) ∧ ∃ F', HpM w0 w w' F F' h (splice l (200 + 11 * i) (putRo s x)) := by
  have HP := Hidden.mk hp
  have HX := Hidden.mk hx
  have HC := Hidden.mk (putName_ok s w hn)
  have hhb : handleB x = true := by
    unfold hE at hx
    cases hb : handleB x with
    | true => rfl
    | false => rw [hb] at hx; simp at hx
  have HPR : Hidden (∀ W, Below w.heap.size w W → Calls Tryz.prog 55 #[.pointer (some ⟨h, 0, none⟩), .int .i64 (i : Int), .agg #[sv s, .int .i64 x]] W fun e w' => e = .returned .nilIface ∧ ∃ F', HpM w0 W w' F F' h (splice l (200 + 11 * i) (putRo s x))) := ⟨fun W hW => hroot_ok i s x (hp.below hW) hi (.inr ⟨hhb, hn⟩)⟩
  have HPL : Hidden (∀ W, Below w.heap.size w W → Calls Tryz.prog 54 #[.pointer (some ⟨h, 0, none⟩), sv s] W fun e w' => e = .returned (.tuple #[.int .i64 (placeF l s 8).1, .int .i64 (placeF l s 8).2]) ∧ Below W.heap.size W w') := ⟨fun W hW => place_any s (hp.below hW) hg⟩
  unfold setAt at ha
  generalize splice l (200 + 11 * i) (putRo s x) = l' at *
  generalize (placeF l s 8).1 = p1 at *
  generalize (placeF l s 8).2 = p2 at *
  have d3 : decide ((i : Int) < 0) = false := by simp
  clear hp hg hn hhb
  by_cases h1 : p1 < 0
  · have d1 : decide (p1 < 0) = true := by simpa using h1
    rw [if_pos h1] at ha
    subst ha
    clear hx hi h1
    go_enter Tryz.func15, Tryz.ntmps15
    go_wp2_with fail
    refine HC.out.mono ?_
    rintro e w1 ⟨gn, rfl, -, -, hb1⟩
    have HB1 := Hidden.mk hb1
    have HT := Hidden.mk (htag_any x (HP.out.below hb1))
    rw [HX.out, show errV 0 = Value.nilIface from rfl] at HT
    clear hb1 HC
    go_wp2_with fail
    refine HT.out.mono ?_
    rintro e w2 ⟨rfl, hb2⟩
    have HB2 := Hidden.mk (HB1.out.trans (hb2.mono HB1.out.size))
    clear hb2 HT HB1
    go_wp2_with fail
    refine (HPL.out w2 HB2.out).mono ?_
    rintro e w3 ⟨rfl, hb3⟩
    have HB3 := Hidden.mk (HB2.out.trans (hb3.mono HB2.out.size))
    clear hb3 HPL HB2
    go_wp2_with fail
    refine (HPR.out w3 HB3.out).mono ?_
    rintro e w4 ⟨rfl, F', hm⟩
    have HF := Hidden.mk ((HP.out.same HB3.out).trans hm)
    clear hm HPR HB3
    go_wp2_with fail
    go_ret2
    exact ⟨by rw [d1]; rfl, F', HF.out⟩
  · have d1 : decide (p1 < 0) = false := by simpa using h1
    rw [if_neg h1] at ha
    subst ha
    clear hx hi h1
    go_enter Tryz.func15, Tryz.ntmps15
    go_wp2_with fail
    refine HC.out.mono ?_
    rintro e w1 ⟨gn, rfl, -, -, hb1⟩
    have HB1 := Hidden.mk hb1
    have HT := Hidden.mk (htag_any x (HP.out.below hb1))
    rw [HX.out, show errV 0 = Value.nilIface from rfl] at HT
    clear hb1 HC
    go_wp2_with fail
    refine HT.out.mono ?_
    rintro e w2 ⟨rfl, hb2⟩
    have HB2 := Hidden.mk (HB1.out.trans (hb2.mono HB1.out.size))
    clear hb2 HT HB1
    go_wp2_with fail
    refine (HPL.out w2 HB2.out).mono ?_
    rintro e w3 ⟨rfl, hb3⟩
    have HB3 := Hidden.mk (HB2.out.trans (hb3.mono HB2.out.size))
    clear hb3 HPL HB2
    go_wp2_with fail
    refine (HPR.out w3 HB3.out).mono ?_
    rintro e w4 ⟨rfl, F', hm⟩
    have HF := Hidden.mk ((HP.out.same HB3.out).trans hm)
    clear hm HPR HB3
    go_wp2_with fail
    go_ret2
    exact ⟨by rw [d3]; rfl, F', HF.out⟩
end
end Go.Proofs.YtijcclpnkfmpnaaGreat
/- What comes in: the program's own slices, opened. -/
namespace Go.Proofs.YtijcclpnkfmpnaaGreat
open Go.RowKit Go.ChangeShapes Go.WideShapes Go.ChangeAt

section
variable {H : Type} {enc : TypeId × Value → H} {w : World} {v : Value} {d : DataW H} {ps : List MemPlace} {base : Nat} {r : Reach}
set_option maxRecDepth 20000 in
theorem open_pages (hv : Value.okWide Tryz.prog w r base 124 v) (h : DataW.Trod enc Tryz.prog w 0 (fun _ => true) true 124 v d ps) (hz : (d.weights Tryz.prog 124).all (· ≤ reachBytes) = true) :
    ∃ (A : Option Addr) (c : Nat) (L : List PgX), v = .slice A L.length c ∧ L.length ≤ c ∧ c ≤ 140737488351232 ∧ (∀ x ∈ L, PgOk w x) ∧ RdX pcells 2 w A L := by
  have hb : decide (1 ≤ Tryz.prog.bytesOf 161) = true := by kernel_rfl
  have hC : Tryz.prog.cellsOf 161 = 2 := by kernel_rfl
  refine open_seq (P := Tryz.prog) pcells 2 PgOk Tryz.underlying124 hC (by omega) (of_decide_eq_true hb) (fun n cs x hl ht hz => ?_) hv h hz
  obtain ⟨v0, v1, y0, y1, m, rfl, t0, t1, z0, z1⟩ := open_two Tryz.underlying161 ⟨rfl, by kernel_rfl⟩ ⟨rfl, by kernel_rfl⟩ hl ht hz
  obtain ⟨a, ha, -, wa⟩ := DataW.trod_int Tryz.underlying3 t0
  obtain ⟨A, c, l, hb, hc, hm, hr⟩ := open_bytes_in Tryz.underlying22 Tryz.underlying5 (by kernel_rfl) (by kernel_rfl) t1 z1
  simp only [List.cons.injEq, and_true] at ha
  have hw := wf_i64' wa
  exact ⟨⟨a, A, c, l⟩, by rw [ha, hb]; rfl, hw.1, hw.2, hc, hm, hr⟩
set_option maxRecDepth 20000 in
/-- booleans that came in -/
theorem open_bools (hv : Value.okWide Tryz.prog w r base 63 v) (h : DataW.Trod enc Tryz.prog w 0 (fun _ => true) true 63 v d ps) (hz : (d.weights Tryz.prog 63).all (· ≤ reachBytes) = true) :
    ∃ (A : Option Addr) (c : Nat) (L : List Bool), v = .slice A L.length c ∧ L.length ≤ c ∧ c ≤ 140737488351232 ∧ (∀ x ∈ L, True) ∧ RdX (fun b => [.bool b]) 1 w A L := by
  have hb : decide (1 ≤ Tryz.prog.bytesOf 4) = true := by kernel_rfl
  have hC : Tryz.prog.cellsOf 4 = 1 := by kernel_rfl
  refine open_seq (P := Tryz.prog) (fun b => [.bool b]) 1 (fun _ _ => True) Tryz.underlying63 hC (by omega) (of_decide_eq_true hb) (fun n cs x hl ht hz => ?_) hv h hz
  match cs, hl with
  | [c0], _ =>
    obtain ⟨b, hb, _⟩ := DataW.trod_bool Tryz.underlying4 ht
    exact ⟨b, by simpa using hb, trivial⟩
set_option maxRecDepth 20000 in
/-- entries that came in -/
theorem open_entries (hv : Value.okWide Tryz.prog w r base 136 v) (h : DataW.Trod enc Tryz.prog w 0 (fun _ => true) true 136 v d ps) (hz : (d.weights Tryz.prog 136).all (· ≤ reachBytes) = true) :
    ∃ (A : Option Addr) (c : Nat) (L : List EntX), v = .slice A L.length c ∧ L.length ≤ c ∧ c ≤ 140737488351232 ∧ (∀ x ∈ L, EntOk w x) ∧ RdX xcells 4 w A L := by
  have hb : decide (1 ≤ Tryz.prog.bytesOf 85) = true := by kernel_rfl
  have hC : Tryz.prog.cellsOf 85 = 4 := by kernel_rfl
  refine open_seq (P := Tryz.prog) xcells 4 EntOk Tryz.underlying136 hC (by omega) (of_decide_eq_true hb) (fun n cs x hl ht _ => ?_) hv h hz
  match cs, hl with
  | [c0, c1, c2, c3], _ =>
    obtain ⟨xs, n, _, hx, _, hlen, hg⟩ := DataW.trod_struct Tryz.underlying85 ht
    match xs, hlen with
    | [y0, y1, y2], _ =>
      have k0 : Tryz.prog.cellsOf 3 = 1 := by kernel_rfl
      have k1 : Tryz.prog.cellsOf 83 = 2 := by kernel_rfl
      have t0 : DataW.trod enc Tryz.prog w 0 (fun _ => true) true n 3 [c0] = some y0 := by simpa [k0] using hg 0 _ rfl
      have t1 : DataW.trod enc Tryz.prog w 0 (fun _ => true) true n 83 [c1, c2] = some y1 := by simpa [k1] using hg 1 _ rfl
      have t2 : DataW.trod enc Tryz.prog w 0 (fun _ => true) true n 3 [c3] = some y2 := by simpa [k0] using hg 2 _ rfl
      obtain ⟨ys, n', _, hx', _, hlen', hg'⟩ := DataW.trod_struct Tryz.underlying83 t1
      match ys, hlen' with
      | [z0, z1], _ =>
        have u0 : DataW.trod enc Tryz.prog w 0 (fun _ => true) true n' 3 [c1] = some z0 := by simpa [k0] using hg' 0 _ rfl
        have u1 : DataW.trod enc Tryz.prog w 0 (fun _ => true) true n' 3 [c2] = some z1 := by simpa [k0] using hg' 1 _ rfl
        obtain ⟨a, ha, -, wa⟩ := DataW.trod_int Tryz.underlying3 t0
        obtain ⟨b, hb', -, wb⟩ := DataW.trod_int Tryz.underlying3 u0
        obtain ⟨c, hc, -, wc⟩ := DataW.trod_int Tryz.underlying3 u1
        obtain ⟨e, he, -, we⟩ := DataW.trod_int Tryz.underlying3 t2
        simp only [List.cons.injEq, and_true] at ha hb' hc he
        subst ha hb' hc he
        exact ⟨⟨a, b, c, e⟩, rfl, wf_i64' wa, wf_i64' wb, wf_i64' wc, wf_i64' we⟩
set_option maxRecDepth 20000 in
/-- roots that came in -/
theorem open_roots (hv : Value.okWide Tryz.prog w r base 97 v) (h : DataW.Trod enc Tryz.prog w 0 (fun _ => true) true 97 v d ps) (hz : (d.weights Tryz.prog 97).all (· ≤ reachBytes) = true) :
    ∃ (A : Option Addr) (c : Nat) (L : List RotX), v = .slice A L.length c ∧ L.length ≤ c ∧ c ≤ 140737488351232 ∧ (∀ x ∈ L, RotOk w x) ∧ RdX ycells 2 w A L := by
  have hb : decide (1 ≤ Tryz.prog.bytesOf 99) = true := by kernel_rfl
  have hC : Tryz.prog.cellsOf 99 = 2 := by kernel_rfl
  refine open_seq (P := Tryz.prog) ycells 2 RotOk Tryz.underlying97 hC (by omega) (of_decide_eq_true hb) (fun n cs x hl ht hz => ?_) hv h hz
  obtain ⟨v0, v1, y0, y1, m, rfl, t0, t1, z0, z1⟩ := open_two Tryz.underlying99 ⟨rfl, by kernel_rfl⟩ ⟨rfl, by kernel_rfl⟩ hl ht hz
  obtain ⟨s, ha, hy, -⟩ := DataW.trod_string Tryz.underlying9 t0
  obtain ⟨b, hb', -, wb⟩ := DataW.trod_int Tryz.underlying3 t1
  simp only [List.cons.injEq, and_true] at ha hb'
  subst ha hb' hy
  have h2 := of_decide_eq_true (List.all_eq_true.1 z0 s.data.toList.length (by simp [DataW.weights]))
  have h3 : reachBytes = 140737488351232 := by decide
  exact ⟨⟨s.data.toList, b⟩, rfl, by simp only at *; omega, wf_i64' wb⟩
end
end Go.Proofs.YtijcclpnkfmpnaaGreat
/- ImageBack: what the walk leans on. -/
namespace Go.Proofs.YtijcclpnkfmpnaaGreat
open Go.RowKit

theorem iget_t (A : Option Addr) (n c : Nat) (l : Bytes) (k : Nat) (w : World) (hn : l.length = n) (hr : rightB n = true) (hnc : n ≤ c) (hrd : Rd w A l) (hk : k < 40) (hE : hasE (rawE l k) = true) :
    Calls Tryz.prog 42 #[.slice A n c, .int .i64 ((k : Int) + 1)] w fun e w' => e = .returned (.tuple #[.agg #[.int .i64 ((k : Int) + 1), .int .i64 (rAt (rawE l k)), .int .i64 (rLen (rawE l k)), .int .i64 (rTag (rawE l k))], .nilIface]) ∧ Below w.heap.size w w' :=
  (iget_ok A n c l k w hn hr hnc hrd hk).mono fun _ _ h => ⟨h.1 hE, h.2.2⟩
theorem iget_f (A : Option Addr) (n c : Nat) (l : Bytes) (k : Nat) (w : World) (hn : l.length = n) (hr : rightB n = true) (hnc : n ≤ c) (hrd : Rd w A l) (hk : k < 40) (hE : hasE (rawE l k) = false) :
    Calls Tryz.prog 42 #[.slice A n c, .int .i64 ((k : Int) + 1)] w fun e w' => e = .returned (.tuple #[.agg #[.int .i64 0, .int .i64 0, .int .i64 0, .int .i64 0], .iface 76 (.int .i64 5)]) ∧ Below w.heap.size w w' :=
  (iget_ok A n c l k w hn hr hnc hrd hk).mono fun _ _ h => ⟨h.2.1 hE, h.2.2⟩
theorem below_four {w w' : World} {a b c d : Value} {t : TypeId} (hb : Below (w.alloc (.cells #[a, b, c, d] t)).heap.size (w.alloc (.cells #[a, b, c, d] t)) w') :
    w'.cell? ⟨w.heap.size, 0, none⟩ = some a ∧ w'.cell? ⟨w.heap.size, 1, none⟩ = some b ∧ w'.cell? ⟨w.heap.size, 2, none⟩ = some c ∧ w'.cell? ⟨w.heap.size, 3, none⟩ = some d := by
  have h := (hb.block w.heap.size (by simp)).trans (heap_alloc_new w (.cells #[a, b, c, d] t))
  refine ⟨?_, ?_, ?_, ?_⟩ <;> simp [World.cell?, h]
/-- the image that the law has come to -/
structure ImB (w wr : World) (n gb cap : Nat) (lb : Bytes) (i : Nat) : Prop where
  row : Row wr 5 gb cap lb
  len : lb.length = n
  no : NoRoots lb i
  bel : Below w.heap.size w wr
theorem ImB.below {w wr w' : World} {n gb cap i : Nat} {lb : Bytes} (h : ImB w wr n gb cap lb i) (hb : Below wr.heap.size wr w') : ImB w w' n gb cap lb i :=
  ⟨h.row.below hb h.row.lt, h.len, h.no, h.bel.trans (hb.mono h.bel.size)⟩
theorem ImB.up {w wr : World} {n gb cap i : Nat} {lb : Bytes} (h : ImB w wr n gb cap lb i) : ImB w wr n gb cap lb (i + 1) :=
  ⟨h.row, h.len, fun j h1 h2 => h.no j (by omega) h2, h.bel⟩
theorem noRoots_new (n : Nat) (hn : 288 ≤ n) : NoRoots (List.replicate n 0) 0 := fun j _ hj => by
  unfold rawR
  rw [List.drop_replicate, List.take_replicate]
  congr 1; omega
theorem ent_back (l : Bytes) (kk : Nat) (a b t : Int) (hk : kk < 40) (hl : 200 ≤ l.length) (ha : 0 ≤ a ∧ a < 65536) (hb : 0 ≤ b ∧ b < 65536) (ht : 0 ≤ t ∧ t ≤ 15) :
    putEnt l ((kk : Int) + 1) a b t = splice l (5 * kk) (entB a.toNat b.toNat t.toNat) ∧ hasE (rawE (putEnt l ((kk : Int) + 1) a b t) kk) = true ∧ (rAt (rawE (putEnt l ((kk : Int) + 1) a b t) kk) : Int) = a ∧ (rLen (rawE (putEnt l ((kk : Int) + 1) a b t) kk) : Int) = b ∧ rTag (rawE (putEnt l ((kk : Int) + 1) a b t) kk) = t := by
  have hp : putEnt l ((kk : Int) + 1) a b t = splice l (5 * kk) (entB a.toNat b.toNat t.toNat) := by unfold putEnt; rw [entO_k]
  have hr : rawE (putEnt l ((kk : Int) + 1) a b t) kk = entB a.toNat b.toNat t.toNat := by rw [hp, rawE_splice _ _ _ _ (entB_len _ _ _) hk hk hl, if_pos rfl]
  obtain ⟨h1, h2, h3, h4⟩ := entB_rd a.toNat b.toNat t.toNat (by omega) (by omega) (by omega)
  rw [hr]
  exact ⟨hp, h1, by rw [h2]; omega, by rw [h3]; omega, by rw [h4]; omega⟩
theorem rootB_zero (s : Bytes) (h : Int) (hh : handleB h = true) : zeroE (rootB s h) = false := by
  have hb := handleB_true.1 hh
  have hd : (UInt8.ofNat h.toNat).toNat = h.toNat := by rw [UInt8.toNat_ofNat', Nat.mod_eq_of_lt (by omega)]
  unfold zeroE
  rw [Bool.not_eq_false', List.any_eq_true]
  refine ⟨UInt8.ofNat h.toNat, by simp [rootB], ?_⟩
  unfold nonZero
  rw [bne_iff_ne]
  intro e
  rw [e] at hd
  simp at hd
  omega
theorem rootB_P (s : Bytes) (h : Int) (hh : handleB h = true) (hnm : isName s = true) : rootP (rootB s h) = (s, h.toNat) := by
  have hb := handleB_true.1 hh
  have hd : (UInt8.ofNat h.toNat).toNat = h.toNat := by rw [UInt8.toNat_ofNat', Nat.mod_eq_of_lt (by omega)]
  have h8 := nameB_len s hnm
  obtain ⟨h1, h2⟩ := nameB_back s hnm
  have ht : (rootB s h).take 8 = nameB s := by unfold rootB; rw [List.take_append_of_le_length (by omega), List.take_of_length_le (by omega)]
  have h3 : nmR (rootB s h) = s := by unfold nmR; rw [ht]; exact h2
  unfold rootP
  rw [ht, if_pos h1, h3]
  congr 1
  unfold rootB
  rw [List.getD_eq_getElem?_getD, List.getElem?_append_right (by omega), h8]
  exact hd
theorem rootB_len (s : Bytes) (h : Int) (hnm : isName s = true) : (rootB s h).length = 11 := by unfold rootB; simp [nameB_len s hnm]
theorem root_back (gb n c : Nat) (l : Bytes) (i : Nat) (s : Bytes) (h : Int) (w : World) (hs : s.length ≤ 140737488351232) (hn : l.length = n) (hnc : n ≤ c) (hrd : Rd w (some ⟨gb, 0, none⟩) l) (hr : rightB n = true) (hi : i < 8) (hz : NoRoots l i) :
    Calls Tryz.prog 90 #[.slice (some ⟨gb, 0, none⟩) n c, .int .i64 (i : Int), rootV s h] w fun e w' => (∃ x, e = .returned (.tuple #[.slice none 0 0, .iface 76 (.int .i64 x)]) ∧ Below w.heap.size w w') ∨
      (∃ g cp lc, e = .returned (.tuple #[.slice (some ⟨g, 0, none⟩) n cp, .nilIface]) ∧ n ≤ cp ∧ Row w' 5 g cp lc ∧ lc.length = n ∧ NoRoots lc (i + 1) ∧ Below w.heap.size w w' ∧
        ((s.isEmpty = true ∧ rootsL lc = rootsL l) ∨ (s.isEmpty = false ∧ rootsL lc = rootsL l ++ [(s, h.toNat)] ∧ (h.toNat : Int) = h))) := by
  have hnb := rightB_true.1 hr
  have hsp : ∀ X : Bytes, X.length = 11 → (splice l (rootO (i : Int)) X).length = n := fun X hX => by rw [rootO_k, splice_len _ _ _ (by omega)]; exact hn
  by_cases h0 : s = [] ∧ h = 0
  · obtain ⟨rfl, rfl⟩ := h0
    refine (root_zero (some ⟨gb, 0, none⟩) n c l i w hn hnc hrd hr (by omega) (by omega)).mono ?_
    rintro e w' ⟨g, cap, he, hg, hrow, hb⟩
    have h1 := roots_put l (List.replicate 11 0) i (by simp) hi (by omega) hz
    have h2 := hsp (List.replicate 11 0) (by simp)
    rw [zeros_zero, if_pos rfl, List.append_nil] at h1
    rw [rootO_k] at hrow h2
    exact .inr ⟨g, cap, _, he, by have := hrow.le.1; omega, hrow, h2, h1.2, hb, .inl ⟨rfl, h1.1⟩⟩
  cases hh : handleB h with
  | false => exact (root_e1h _ n c i s h w hr (by omega) (by omega) h0 hh).mono fun e w' he => .inl ⟨1, he⟩
  | true =>
    cases hnm : isName s with
    | false => exact (root_e2 _ n c i s h w hs hr (by omega) (by omega) hh hnm).mono fun e w' he => .inl ⟨2, he⟩
    | true =>
      refine (root_ok _ n c l i s h w hn hrd hr (by omega) (by omega) hh hnm).mono ?_
      rintro e w' ⟨g, cap, he, hg, hrow, hb⟩
      have hb' := handleB_true.1 hh
      have h11 := rootB_len s h hnm
      have h1 := roots_put l (rootB s h) i h11 hi (by omega) hz
      have h2 := hsp (rootB s h) h11
      rw [rootB_zero s h hh, rootB_P s h hh hnm, if_neg (by simp)] at h1
      rw [rootO_k] at hrow h2
      have hse : s.isEmpty = false := by
        cases s with
        | nil => cases hnm
        | cons x r => rfl
      exact .inr ⟨g, cap, _, he, by have := hrow.le.1; omega, hrow, h2, h1.2, hb, .inr ⟨hse, h1.1, by omega⟩⟩
theorem flatMap_at {X : Type} (f : X → List Value) (C : Nat) (hC : ∀ x, (f x).length = C) : ∀ (L : List X) (i : Nat) (h : i < L.length) (q : Nat), q < C → (L.flatMap f)[i * C + q]? = (f L[i])[q]?
  | [], i, h, _, _ => absurd h (by simp)
  | x :: r, 0, _, q, hq => by
    rw [List.flatMap_cons, Nat.zero_mul, Nat.zero_add, List.getElem?_append_left (by rw [hC]; exact hq)]; rfl
  | x :: r, i + 1, h, q, hq => by
    have hx := hC x
    rw [List.flatMap_cons, List.getElem?_append_right (by rw [hx, Nat.succ_mul]; omega), hx, show (i + 1) * C + q - C = i * C + q by rw [Nat.succ_mul]; omega]
    exact flatMap_at f C hC r i (by simpa using h) q hq
theorem own_rdX {X : Type} {f : X → List Value} {C : Nat} {w : World} {base : Nat} {e : TypeId} {v : Value} {L : List X} (hC : ∀ x, (f x).length = C) (h : w.ownsRow base e C v L.length (L.flatMap f)) : ∃ A c, v = .slice A L.length c ∧ L.length ≤ c ∧ RdX f C w A L := by
  rcases h.2 with ⟨rfl, h0⟩ | ⟨g, cap, cur, rfl, _, hh, hc, hm, hz, ht⟩
  · exact ⟨none, 0, by rw [h0], by omega, fun i hi => by omega⟩
  · refine ⟨_, cap, rfl, hc, fun i hi => ⟨g, 0, rfl, fun q u hq => ?_⟩⟩
    have hqC : q < C := by rw [← hC L[i]]; exact (List.getElem?_eq_some_iff.1 hq).1
    have := h.cells (g := g) rfl (i * C + q) u (by rw [flatMap_at f C hC L i hi q hqC]; exact hq)
    rw [Addr.add_lit] at this
    rw [Nat.add_assoc]
    exact this
theorem rcells_len (x : Bytes × Nat) : (rcells x).length = 2 := rfl
end Go.Proofs.YtijcclpnkfmpnaaGreat
