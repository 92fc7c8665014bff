/- The contracts of package device: New, Pending. -/
import Derived.Test.YtlkibidblpdjcaaDoorDev4
import Derived.Deep.RegionLaw
namespace Go.Proofs.YtlkibidblpdjcaaDoor
open Go.RowKit Go.Maps Go.ChangeMaps

theorem dnew_e1 (n : Int) (w : World) (h : n < 1 ∨ 300 < n) :
    Calls Tryd.prog 10 #[.int .i64 n] w fun e w' => e = .returned (.tuple #[.pointer none, .iface 112 (.int .i64 1)]) ∧ w = w' := by
  rcases h with h | h
  · go_enter Tryd.func10, Tryd.ntmps10
    go_wp2_with fail
    go_ret2
    exact ⟨rfl, rfl⟩
  · have t1 : decide (n < 1) = false := by simp; omega
    go_enter Tryd.func10, Tryd.ntmps10
    go_wp2_with fail
    go_ret2
    exact ⟨rfl, rfl⟩
/-- a fresh device -/
def newD (n : Nat) : Dv := ⟨List.replicate n (List.replicate 32 0), [], fun _ => [], -1, false⟩
structure NewSt (w wr : World) (d gm k : Nat) (v : Value) (sb : Nat → Nat) : Prop where
  hd : wr.heap[d]? = some (.cells #[v, .map (some gm), .slice none 0 0, .int .i64 (-1), .bool false] 115 (0, 0))
  own : wr.ownsRow w.heap.size 29 1 v k ((List.range k).map fun i => rowV (sb i) 32)
  row : ∀ i, i < k → w.heap.size ≤ sb i ∧ Row wr 5 (sb i) 32 (List.replicate 32 0)
  inj : ∀ i j, i < k → j < k → sb i = sb j → i = j
  mem : IM Tryd.prog 3 natL wr gm (fun _ => none) 0
  bel : Below w.heap.size w wr
  gd : w.heap.size ≤ d
  gg : w.heap.size ≤ gm
theorem list_info : (Tryd.prog.info? 29).map (fun i => (i.zero, i.size, i.bytes)) = some (some (.slice none 0 0), 1, 24) := by kernel_rfl
theorem NewSt.dev {w wr : World} {d gm n : Nat} {v : Value} {sb : Nat → Nat} (h : NewSt w wr d gm n v sb) (h1 : 1 ≤ n) (h3 : n ≤ 300) :
    ∃ F Y, DevIs wr F d (newD n) Y (InO (newD n)) ∧ ∀ k, F k → w.heap.size ≤ k := by
  obtain ⟨g, cap, cur, hv, hg, hgh, hnc, hcm, hcs, hct⟩ : ∃ g cap cur, v = .slice (some ⟨g, 0, none⟩) n cap ∧ w.heap.size ≤ g ∧ wr.heap[g]? = some (.cells cur 29 (0, 0)) ∧ n ≤ cap ∧ cap ≤ maxLen ∧ cur.size = cap * 1 ∧ cur.toList.take (n * 1) = (List.range n).map fun i => rowV (sb i) 32 := by
    rcases h.own.2 with ⟨_, h0⟩ | h'
    · omega
    · exact h'
  subst hv
  have hlen : (newD n).S.length = n := by simp [newD]
  refine ⟨fun k => w.heap.size ≤ k ∧ k < wr.heap.size, ⟨g, cap, gm, .slice none 0 0, sb, fun _ => 32, fun _ => 0, fun _ => 0⟩, ?_, fun k hk => hk.1⟩
  refine { hd := by rw [hlen]; exact h.hd, sec := ⟨cur, hgh, by simpa using hcs, fun i hi => ?_⟩, cap := by rw [hlen]; exact hnc, row := fun i hi => ?_, ord := World.ownsRow_nil _ _ _ _, mem := ?_, mrow := fun i hi => by simp [InO, newD] at hi, mlen := fun i hi => by simp [newD] at hi, liv := fun i hi => hi, inj1 := ?_, inj2 := fun i j hi => by simp [InO, newD] at hi, inj3 := fun i j _ hj => by simp [InO, newD] at hj, nd := List.nodup_nil, n0 := by omega, n1 := by omega, l0 := by simp [newD], l1 := by simp [newD], fd := ?_, fs := ?_, fm := ?_, fo := fun q hq => by simp [Value.ownBlock] at hq, fr := ?_, fb := fun i hi => by simp [InO, newD] at hi, flt := fun k hk => hk.2 }
  · rw [hlen] at hi
    have : (cur.toList.take (n * 1))[i]? = some (rowV (sb i) 32) := by rw [hct]; simp [hi]
    rw [List.getElem?_take, if_pos (by omega)] at this
    simpa using this
  · rw [hlen] at hi
    have : (newD n).S[i] = List.replicate 32 0 := by simp [newD]
    rw [this]
    exact ⟨(h.row i hi).2, by simp⟩
  · have : memF (newD n).O ⟨g, cap, gm, .slice none 0 0, sb, fun _ => 32, fun _ => 0, fun _ => 0⟩ = fun _ => none := by funext k; simp [memF, newD]
    rw [this]
    exact h.mem
  · intro i j hi hj
    rw [hlen] at hi hj
    exact h.inj i j hi hj
  · exact ⟨h.gd, (Array.getElem?_eq_some_iff.1 h.hd).1⟩
  · exact ⟨hg, (Array.getElem?_eq_some_iff.1 hgh).1⟩
  · exact ⟨h.gg, h.mem.lt⟩
  · intro i hi
    rw [hlen] at hi
    exact ⟨(h.row i hi).1, (h.row i hi).2.lt⟩
theorem NewSt.next {w wr w6 w7 : World} {d gm k g7 cap7 : Nat} {v : Value} {sb : Nat → Nat} (h : NewSt w wr d gm k v sb) (hrz : Row w6 5 wr.heap.size 32 (List.replicate 32 0)) (hg6 : w6.drew.grownBy w7 v.ownBlock)
    (hown7 : w7.ownsRow w.heap.size 29 1 (.slice (some ⟨g7, 0, none⟩) (k + 1) cap7) (k + 1) (((List.range k).map fun i => rowV (sb i) 32) ++ [.slice (some ⟨wr.heap.size, 0, none⟩) 32 32])) (hgG : wr.grownBy w7 v.ownBlock) (hat : v.ownBlock = some g7 ∨ g7 = wr.heap.size + 2) :
    NewSt w (w7.setCell ⟨d, 0, none⟩ (.slice (some ⟨g7, 0, none⟩) (k + 1) cap7)) d gm (k + 1) (.slice (some ⟨g7, 0, none⟩) (k + 1) cap7) (fun i => if i = k then wr.heap.size else sb i) := by
  have hdl := (Array.getElem?_eq_some_iff.1 h.hd).1
  have hno := DevIs.ne_own h.hd h.own (by decide)
  have hh7 := (hgG.block d hdl (fun e => hno e.symm)).trans h.hd
  have hgd : g7 ≠ d := by
    rcases hat with h' | h'
    · exact fun e => hno (e ▸ h')
    · omega
  have hb : ∀ q, q < wr.heap.size → q ≠ d → v.ownBlock ≠ some q → (w7.setCell ⟨d, 0, none⟩ (.slice (some ⟨g7, 0, none⟩) (k + 1) cap7)).heap[q]? = wr.heap[q]? := fun q hq hqd hqv =>
    (Below.heap_setCell _ _ _ q hqd).trans (hgG.block q hq (fun e => hqv e.symm))
  have hrow : ∀ {q : Nat} {l : Bytes}, Row wr 5 q 32 l → Row (w7.setCell ⟨d, 0, none⟩ (.slice (some ⟨g7, 0, none⟩) (k + 1) cap7)) 5 q 32 l := fun {q l} hr => by
    obtain ⟨cur, h0, _⟩ := id hr
    exact hr.block (hb q hr.lt (DevIs.ne_row h.hd hr (by decide)).symm (DevIs.ne_own h0 h.own (by decide)))
  refine ⟨heap_set5 hh7 _, ?_, fun i hi => ?_, fun i j hi hj he => ?_, ?_, ?_, h.gd, h.gg⟩
  · have := ownsRow_block (w' := w7.setCell ⟨d, 0, none⟩ (.slice (some ⟨g7, 0, none⟩) (k + 1) cap7)) hown7 (fun q hq => Below.heap_setCell _ _ _ _ (by
      have : g7 = q := by simpa [Value.ownBlock] using hq
      rw [← this]; exact hgd))
    have hl : (List.range (k + 1)).map (fun i => rowV (if i = k then wr.heap.size else sb i) 32) = ((List.range k).map fun i => rowV (sb i) 32) ++ [.slice (some ⟨wr.heap.size, 0, none⟩) 32 32] := by
      rw [List.range_succ, List.map_append]
      congr 1
      · apply List.map_congr_left
        intro i hi
        have : i ≠ k := by have := List.mem_range.1 hi; omega
        rw [if_neg this]
      · simp [rowV]
    rw [hl]
    exact this
  · by_cases hik : i = k
    · simp only [hik, if_true]
      refine ⟨h.bel.size, hrz.block ((Below.heap_setCell _ _ _ _ (show wr.heap.size ≠ d by omega)).trans (hg6.block _ hrz.lt (fun e => ?_)))⟩
      have := (h.own.lt _ e.symm).2
      omega
    · simp only [if_neg hik]
      exact ⟨(h.row i (by omega)).1, hrow (h.row i (by omega)).2⟩
  · by_cases hik : i = k
    · by_cases hjk : j = k
      · omega
      · rw [if_pos hik, if_neg hjk] at he
        have := (h.row j (by omega)).2.lt; omega
    · by_cases hjk : j = k
      · rw [if_neg hik, if_pos hjk] at he
        have := (h.row i (by omega)).2.lt; omega
      · rw [if_neg hik, if_neg hjk] at he
        exact h.inj i j (by omega) (by omega) he
  · refine h.mem.block (hb gm h.mem.lt (DevIs.ne_map h.hd h.mem).symm (fun e => ?_))
    rcases h.own.2 with ⟨e', _⟩ | ⟨g', cap', cur', e', _, hh', _⟩
    · rw [e'] at e; simp [Value.ownBlock] at e
    · rw [e'] at e
      obtain rfl : g' = gm := by simpa [Value.ownBlock] using e
      exact DevIs.ne_map hh' h.mem rfl
  · exact (h.bel.grown hgG h.bel.size (fun q hq => (h.own.lt q hq).1)).setCell (p := ⟨d, 0, none⟩) h.gd _
set_option maxRecDepth 100000 in
theorem dnew_ok (n : Nat) (w : World) (h1 : 1 ≤ n) (h3 : n ≤ 300) :
    Calls Tryd.prog 10 #[.int .i64 (n : Int)] w fun e w' => ∃ d F Y, e = .returned (.tuple #[.pointer (some ⟨d, 0, none⟩), .nilIface]) ∧ DevIs w' F d (newD n) Y (InO (newD n)) ∧ (∀ k, F k → w.heap.size ≤ k) ∧ Below w.heap.size w w' := by
  obtain ⟨i2, hi2, hx0, hx1, hx2⟩ := info_parts list_info
  have hmm := @run_makeMap Tryd.prog
  have hB0 := ((Below.refl w.heap.size w).alloc (Nat.le_refl _) (.map #[] 0)).alloc (by simp) (.cells #[.slice none 0 0, .map (some w.heap.size), .slice none 0 0, .int .i64 (-1), .bool false] 115)
  have hst0 : NewSt w ((w.alloc (.map #[] 0)).alloc (.cells #[.slice none 0 0, .map (some w.heap.size), .slice none 0 0, .int .i64 (-1), .bool false] 115)) (w.heap.size + 1) w.heap.size 0 (.slice none 0 0) (fun _ => 0) :=
    ⟨by have := heap_alloc_new (w.alloc (.map #[] 0)) (.cells #[.slice none 0 0, .map (some w.heap.size), .slice none 0 0, .int .i64 (-1), .bool false] 115); rwa [World.size_alloc] at this, World.ownsRow_nil _ _ _ _, fun i hi => by omega, fun i j hi => by omega,
      (IM.made w).block (Below.heap_alloc _ _ _ (by simp)), hB0, by omega, by omega⟩
  have H0 := Hidden.mk hst0
  have t1 : decide ((n : Int) < 1) = false := by simp; omega
  clear hst0 hB0
  go_enter Tryd.func10, Tryd.ntmps10
  go_wp2_with fail
  generalize hdd : w.heap.size + 1 = d at *
  have hdd' : w.heap.size + 1 = d := hdd
  generalize (w.alloc (.map #[] 0)).alloc (.cells #[.slice none 0 0, .map (some w.heap.size), .slice none 0 0, .int .i64 (-1), .bool false] 115) = w2 at *
  clear hmm hdd hdd'
  go_loopg [16] n (fun m i wr => ∃ (k : Nat) (v : Value) (sb : Nat → Nat), k ≤ n ∧ m = n - k ∧ i = .int .i64 (k : Int) ∧ NewSt w wr d w.heap.size k v sb)
  case atStart => exact ⟨0, _, _, by omega, rfl, rfl, H0.out⟩
  case round =>
    obtain ⟨k, v, sb, hk, rfl, rfl, hst⟩ := hrel
    by_cases hlt : k < n
    · obtain ⟨⟨c0, c1, c2, c3, c4⟩, ff⟩ := five hst.hd
      have f0 := ff 0
      have hdl := (Array.getElem?_eq_some_iff.1 hst.hd).1
      have hmk := fun W => mk_bytes 32 32 rfl (by omega) W
      have HS := Hidden.mk hst
      have HOWN := Hidden.mk hst.own
      clear hst ff H0
      go_wp2_with fail
      have hal : Below wr.heap.size wr ((wr.alloc (.cells (zeroRow 32) 5)).alloc (.cells #[.slice (some ⟨wr.heap.size, 0, none⟩) 32 32] 29)) := ((Below.refl _ _).alloc (Nat.le_refl _) _).alloc (by simp) _
      have hnb : ((wr.alloc (.cells (zeroRow 32) 5)).alloc (.cells #[.slice (some ⟨wr.heap.size, 0, none⟩) 32 32] 29)).drew.heap[wr.heap.size + 1]? = some (.cells #[.slice (some ⟨wr.heap.size, 0, none⟩) 32 32] 29) := by
        have := heap_alloc_new (wr.alloc (.cells (zeroRow 32) 5)) (.cells #[.slice (some ⟨wr.heap.size, 0, none⟩) 32 32] 29)
        rwa [World.size_alloc] at this
      have hrz : Row ((wr.alloc (.cells (zeroRow 32) 5)).alloc (.cells #[.slice (some ⟨wr.heap.size, 0, none⟩) 32 32] 29)) 5 wr.heap.size 32 (List.replicate 32 0) := (row_zeros wr 32 (by simp [maxLen])).block (Below.heap_alloc _ _ _ (by simp))
      have HAL := Hidden.mk hal
      have HNB := Hidden.mk hnb
      have HRZ := Hidden.mk hrz
      clear hal hnb hrz
      go_region_law (refine step_append_lies _ (by rfl) _ _ _ (by rfl) w.heap.size 29 i2 _ 1 24 Tryd.underlying40 hi2 hx0 hx1 hx2 rfl (by omega) v k _ (by rfl) (own_below HOWN.out HAL.out.drew) ⟨wr.heap.size + 1, 0, none⟩ 1 1 [.slice (some ⟨wr.heap.size, 0, none⟩) 32 32] (by rfl) (by rfl) (World.news_of_block (cs := #[.slice (some ⟨wr.heap.size, 0, none⟩) 32 32]) (t := 29) (fr := (0, 0)) HNB.out) (by simp [Value.oneCell']) (by omega) (by simp only [maxLen]; omega) (by omega) (by have := HS.out.bel.size; simp; omega) (wr.heap.size + 2) (by simp) ?_; intro g7 cap7 w7 hown7 hg7 hat7 hlt7; have hgG := grown_trans' HAL.out.drew hg7; have hh7 := (hgG.block d hdl (fun e => DevIs.ne_own HS.out.hd HOWN.out (by decide) e.symm)).trans HS.out.hd; obtain ⟨⟨e0, e1, e2, e3, e4⟩, fe⟩ := five hh7; have fe0 := fe 0)
      all_goals
        have HNX := Hidden.mk (HS.out.next HRZ.out hg7 hown7 hgG hat7)
        clear hown7 hg7 hat7 hlt7 hgG hh7 e0 e1 e2 e3 e4 fe fe0
        go_wp2_with fail
        go_roundg (n - (k + 1))
        case measure => omega
        case rel => exact ⟨k + 1, _, _, by omega, rfl, by go_num, HNX.out⟩
    · obtain rfl : k = n := by omega
      obtain ⟨F, Y, hdev, hF⟩ := hst.dev h1 h3
      have HB := Hidden.mk hst.bel
      have H := Hidden.mk (And.intro hdev hF)
      clear hst hdev hF H0
      go_wp2_with fail
      go_ret2
      exact ⟨d, F, Y, rfl, H.out.1, H.out.2, HB.out⟩

theorem cloneI_any (v : Value) (n base : Nat) (xs : List Value) (w : World) (hl : n ≤ 100000) (h1 : ∀ u ∈ xs, u.oneCell' = true) (hown : w.ownsRow base 3 1 v n xs) :
    Calls Tryd.prog 63 #[v] w fun e w' => ∃ v', e = .returned v' ∧ w'.ownsRow w.heap.size 3 1 v' n xs ∧ Below w.heap.size w w' := by
  obtain ⟨i0, hi0, hz0, hz1, hz2⟩ := info_parts int_info
  rcases hown.2 with ⟨rfl, rfl⟩ | ⟨g, cap, cur, rfl, hb, hh, hnc, hcm, hcs, hct⟩
  · have hx : xs = [] := List.eq_nil_of_length_eq_zero (by simpa using hown.1)
    subst hx
    have he := fun W => Lib.run_eql_slice_nil (P := Tryd.prog) W 38 3 none 0 0 0 0 Tryd.underlying38
    clear hown
    go_enter Tryd.func63, Tryd.ntmps63
    go_wp2
    go_ret
    exact ⟨_, rfl, World.ownsRow_nil _ _ _ _, Below.refl _ _⟩
  · have he := fun W => Lib.run_eql_slice_nil (P := Tryd.prog) W 38 3 (some ⟨g, 0, none⟩) n cap 0 0 Tryd.underlying38
    obtain ⟨A, c, hv, _, hsrc⟩ := Src.of_own hown
    injection hv with hA hn hc
    subst hA hc
    have HS := Hidden.mk (hsrc.below ((Below.refl w.heap.size w).alloc (Nat.le_refl _) (.cells #[] 3)))
    have how0 := World.ownsRow_lit (base := w.heap.size) (e := 3) (size := 1) w #[] 0 (Nat.le_refl _) (by simp) rfl
    clear hown hsrc hh hct hcs
    go_enter Tryd.func63, Tryd.ntmps63
    go_wp2_with (at_builtin; refine wpList_append_src _ rfl (.tmp 5) (.tmp 6) _ rfl w.heap.size 3 i0 _ 1 8 Tryd.underlying38 hi0 hz0 hz1 hz2 rfl (by decide) (.slice (some ⟨w.heap.size, 0, none⟩) 0 0) 0 [] rfl how0 (some ⟨g, 0, none⟩) n cap xs rfl HS.out h1 (by simp only [maxLen]; omega) (by omega) (by simp) ?_; intro v1 w1 hown1 hg1 hat1)
    go_ret
    refine ⟨v1, rfl, by simpa using hown1, ?_⟩
    exact ((Below.refl _ _).alloc (Nat.le_refl _) _).grown hg1 (by simp) (fun k hk => by simp [Value.ownBlock] at hk; omega)
theorem nats_one (O : List Nat) : ∀ u ∈ O.map (fun i : Nat => Value.int .i64 (i : Int)), u.oneCell' = true := by
  intro u hu
  obtain ⟨i, _, rfl⟩ := List.mem_map.1 hu
  rfl
theorem dpend_any (w : World) (F : Nat → Prop) (d : Nat) (D : Dv) (Y : Lay) (live : Nat → Prop) (h : DevIs w F d D Y live) :
    Calls Tryd.prog 16 #[.pointer (some ⟨d, 0, none⟩)] w fun e w' => ∃ v', e = .returned v' ∧ w'.ownsRow w.heap.size 3 1 v' D.O.length (D.O.map fun i : Nat => .int .i64 (i : Int)) ∧ Below w.heap.size w w' := by
  obtain ⟨⟨c0, c1, c2, c3, c4⟩, -⟩ := five h.hd
  have HC := Hidden.mk (cloneI_any Y.vo D.O.length 0 _ w (by have := h.ord_le; omega) (nats_one D.O) h.ord)
  clear h
  go_enter Tryd.func16, Tryd.ntmps16
  go_wp2_with fail
  refine HC.out.mono ?_
  rintro e w1 ⟨v', rfl, hown, hb⟩
  have H := Hidden.mk (And.intro hown hb)
  clear hown hb
  go_wp2_with fail
  go_ret
  exact ⟨v', rfl, H.out⟩
end Go.Proofs.YtlkibidblpdjcaaDoor
