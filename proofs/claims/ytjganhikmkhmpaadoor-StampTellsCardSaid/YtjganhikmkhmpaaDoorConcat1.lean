/- The contracts of slices.Grow at nil and of slices.Concat at two slices of bytes. -/
import Derived.Test.YtjganhikmkhmpaaDoorStr3
namespace Go.Proofs.YtjganhikmkhmpaaDoor
open Go.RowKit

/-- append(nil, make([]byte, n)...) -/
theorem run_append_zeros (w : World) (z : Int) (n : Nat) (hz' : z = n) (h0 : 0 < n) (hn : n ≤ 140737488351232) : ∃ cap cur W', (∀ ty, (Builtin.append_ #[22, 3] ty #[.slice none 0 0, .int .i64 z]).run Tryd.prog w = .ok (.slice (some ⟨w.heap.size, 0, none⟩) n cap) W') ∧
    n ≤ cap ∧ cap ≤ maxLen ∧ W'.heap[w.heap.size]? = some (.cells cur 5 (0, 0)) ∧ cur.size = cap ∧ w.heap.size < W'.heap.size ∧ Below w.heap.size w W' := by
  subst hz'
  obtain ⟨i0, hi0, hz0, hz1, hz2⟩ := info_parts byte_info
  have h63' : ¬ (9223372036854775807 < (n : Int)) := by omega
  have hlt : ¬ ((n : Int) < 0) := by omega
  have h48 : ¬ (281474976710656 < (n : Int)) := by omega
  have h48' : ¬ (281474976710656 < Builtin.nextslicecap n 0) := by rw [nextslicecap_zero h0]; omega
  have hwrap : IntKind.i64.wrap (n : Int) = n := by rw [IntKind.wrap_i64]; omega
  have hne : n ≠ 0 := by omega
  have hge := grownCap_ge w n 0 5
  refine ⟨grownCap w n 0 5, _, w.drew.alloc (.cells (Builtin.zeroCells #[.int .u8 0] n ++ Builtin.zeroCells #[.int .u8 0] (grownCap w n 0 5 - n)) 5), fun ty => ?_, hge, grownCap_le_maxLen w n 0 _ (by simp only [maxLen]; omega), heap_alloc_new w.drew _, ?_, by simp, ⟨rfl, rfl, rfl, by simp, fun k hk => Below.heap_alloc w.drew _ k hk⟩⟩
  · have hc : (Value.int IntKind.u8 0).cells = #[Value.int IntKind.u8 0] := rfl
    simp [Builtin.append_, run_underlying Tryd.underlying22, run_underlying Tryd.underlying3, sizeOf, typeInfo, zeroValue, hi0, hz0, hz1, hz2, Builtin.lenOf, hne, h63', h48, h48', hlt, hwrap, asInt, asIntOf, Question.forced, Builtin.firstCells, newRow, grownCap, hc]
  · simp [size_zeroCells]; omega

theorem wpList_append_run {P : Program} {w w' : World} {ops : Array Oper} {rest : List Oper} {o : Oper} {a : Act} {Q : Exit → Act → World → Prop} (hgd : o.guard = none) (s x : Operand) (t u : TypeId)
    (ho : o.op = .call { callee := .builtin .append, args := #[s, x], argTypes := #[t, u] }) (v1 v2 v : Value) (h1 : a.eval s = v1) (h2 : a.eval x = v2)
    (hrun : ∀ ty, (Builtin.append_ #[t, u] ty #[v1, v2]).run P w = .ok v w') (h : wpList P ops Q rest (a.put o.dst v) w') : wpList P ops Q (o :: rest) a w :=
  wpList_plain hgd fun K hK => by
    unfold Oper.wp execOp
    simp only [ho, resolve, invoke, builtin, Sem.run_bind, Sem.run_pure, Result.andThen_ok, List.map_toArray, List.map_cons, List.map_nil, h1, h2, hrun]
    exact hK _ _ h

set_option maxRecDepth 100000 in
theorem grow_nil (w : World) (n : Nat) (h0 : 0 < n) (hn : n ≤ 140737488351232) :
    Calls Tryd.prog 116 #[.slice none 0 0, .int .i64 n] w fun e w' => ∃ cap cur, e = .returned (.slice (some ⟨w.heap.size, 0, none⟩) 0 cap) ∧ n ≤ cap ∧ cap ≤ maxLen ∧
      w'.heap[w.heap.size]? = some (.cells cur 5 (0, 0)) ∧ cur.size = cap ∧ w.heap.size < w'.heap.size ∧ Below w.heap.size w w' := by
  obtain ⟨cap, cur, W1, hrun, h1, h2, h3, h4, h5, h6⟩ := run_append_zeros w n n rfl h0 hn
  have h0' : (0 : Int) < n := by omega
  have H3 := Hidden.mk h3
  have HRUN := Hidden.mk hrun
  clear hrun
  have H4 := Hidden.mk h4
  clear h3 h4
  go_enter Tryd.func116, Tryd.ntmps116
  go_wp2_with (at_builtin; refine wpList_append_run rfl _ _ _ _ rfl _ _ _ rfl rfl HRUN.out ?_)
  go_ret
  exact ⟨cap, cur, rfl, h1, h2, H3.out, H4.out, h5, h6⟩

theorem run_append_rd (w : World) (base : Nat) (v : Value) (xs : Bytes) (hown : Own w base 5 v xs) (A : Option Addr) (n c : Nat) (l : Bytes) (hn : l.length = n) (hr : Rd w A l)
    (hb : xs.length + n ≤ 140737488351232) (hbase : base ≤ w.heap.size) :
    ∃ v' w', (∀ ty, (Builtin.append_ #[22, 22] ty #[v, .slice A n c]).run Tryd.prog w = .ok v' w') ∧ Own w' base 5 v' (xs ++ l) ∧ w.grownBy w' v.ownBlock ∧ (v' = .slice none 0 0 → v = .slice none 0 0 ∧ n = 0) := by
  subst hn
  obtain ⟨i0, hi0, hz0, hz1, hz2⟩ := info_parts byte_info
  rcases A with _ | ad
  · have h0 : l = [] := by
      cases l with
      | nil => rfl
      | cons x r => obtain ⟨b, off, h, _⟩ := hr 0 (by simp); cases h
    subst h0
    refine ⟨v, w, fun ty => ?_, by simpa using hown, ⟨rfl, rfl, rfl, Nat.le_refl _, fun _ _ _ => rfl⟩, fun h => ⟨h, rfl⟩⟩
    rcases hown.2 with ⟨rfl, _⟩ | ⟨g, cap, cur, rfl, _, _, hnc, _⟩
    · simp [Builtin.append_, run_underlying Tryd.underlying22, sizeOf, typeInfo, hi0, Builtin.lenOf, Builtin.firstCells]
    · simp [Builtin.append_, run_underlying Tryd.underlying22, sizeOf, typeInfo, hi0, Builtin.lenOf, Builtin.firstCells, hnc, storeCells]
  · obtain ⟨v', w', hrun, h2, h3, h4⟩ := run_append_own (P := Tryd.prog) w base 22 22 5 i0 _ 1 1 Tryd.underlying22 hi0 hz0 hz1 hz2 rfl (by decide) v xs.length (xs.map bv) hown
      ad l.length c (l.map bv) (by simp) hr.cells one_bv (by simp only [maxLen]; omega) (by omega) hbase
    refine ⟨v', w', fun ty => ?_, by simpa [Own] using h2, h3, fun h => h4.1 h⟩
    rw [← hrun]
    rfl
theorem wpList_app {w : World} {ops : Array Oper} {rest : List Oper} {o : Oper} {a : Act} {Q : Exit → Act → World → Prop} (hgd : o.guard = none) (s x : Operand)
    (ho : o.op = .call { callee := .builtin .append, args := #[s, x], argTypes := #[22, 22] }) (base : Nat) (v : Value) (xs : Bytes) (h1 : a.eval s = v) (hown : Own w base 5 v xs)
    (A : Option Addr) (n c : Nat) (l : Bytes) (h2 : a.eval x = .slice A n c) (hn : l.length = n) (hr : Rd w A l) (hb : xs.length + n ≤ 140737488351232) (hbase : base ≤ w.heap.size)
    (h : ∀ v' w', Own w' base 5 v' (xs ++ l) → w.grownBy w' v.ownBlock → (v' = .slice none 0 0 → v = .slice none 0 0 ∧ n = 0) → wpList Tryd.prog ops Q rest (a.put o.dst v') w') : wpList Tryd.prog ops Q (o :: rest) a w := by
  obtain ⟨v', w', hrun, h3, h4, h5⟩ := run_append_rd w base v xs hown A n c l hn hr hb hbase
  exact wpList_append_run hgd s x _ _ ho v (.slice A n c) v' h1 h2 hrun (h v' w' h3 h4 h5)

set_option maxRecDepth 100000 in
/-- a row of two slices of bytes -/
theorem concat2 (w : World) (h : Nat) (off hc : Nat) (A B : Option Addr) (n m c d : Nat) (a b : Bytes) (hn : a.length = n) (hm : b.length = m) (ha : Rd w A a) (hb : Rd w B b)
    (hA : w.cell? ⟨h, off, none⟩ = some (.slice A n c)) (hB : w.cell? ⟨h, off + 1, none⟩ = some (.slice B m d)) (hpos : 0 < n + m) (hsum : n + m ≤ 140737488351232) :
    Calls Tryd.prog 82 #[.slice (some ⟨h, off, none⟩) 2 hc] w fun e w' => ∃ g cap, e = .returned (.slice (some ⟨g, 0, none⟩) (n + m) cap) ∧ w.heap.size ≤ g ∧ Row w' 5 g cap (a ++ b) ∧ Below w.heap.size w w' := by
  obtain ⟨i0, hi0, hz0, hz1, hz2⟩ := info_parts byte_info
  go_enter Tryd.func82, Tryd.ntmps82
  go_wp2_with fail
  go_loop [3, 11] (fun s i => ∃ k : Nat, k ≤ 2 ∧ i = .int .i64 k ∧ s = .int .i64 ((if k = 0 then 0 else if k = 1 then n else n + m : Nat) : Int)) (fun _ i => 2 - (intOf i).toNat)
  case atStart => exact ⟨0, by omega, rfl, rfl⟩
  case round =>
    obtain ⟨k, hk, rfl, rfl⟩ := hrel
    have hc3 : k = 0 ∨ k = 1 ∨ k = 2 := by omega
    clear hk
    rcases hc3 with rfl | rfl | rfl
    · go_wp2_with fail
      go_round
      case rel => exact ⟨1, by omega, rfl, by simp⟩
      case measure => simp [intOf]
    · simp only [if_neg (show ¬ (1 = 0) by omega), if_true]
      go_wp2_with fail
      go_round
      case rel => exact ⟨2, by omega, rfl, by simp⟩
      case measure => simp [intOf]
    · simp only [if_neg (show ¬ (2 = 0) by omega), if_neg (show ¬ (2 = 1) by omega)]
      go_wp2_with fail
      refine (grow_nil w (n + m) hpos hsum).mono ?_
      rintro e w1 ⟨cap, cur, rfl, h1, h2, h3, h4, h5, h6⟩
      have hown : w1.ownsRow w.heap.size 5 1 (.slice (some ⟨w.heap.size, 0, none⟩) 0 cap) 0 [] := ⟨by simp, .inr ⟨w.heap.size, cap, cur, rfl, Nat.le_refl _, h3, Nat.zero_le _, h2, by omega, by simp⟩⟩
      have hA1 : w1.cell? ⟨h, off, none⟩ = some (.slice A n c) := (h6.cell (p := ⟨h, off, none⟩) (block_lt_of_cell hA)).trans hA
      have hB1 : w1.cell? ⟨h, off + 1, none⟩ = some (.slice B m d) := (h6.cell (p := ⟨h, off + 1, none⟩) (block_lt_of_cell hB)).trans hB
      have ha1 := ha.below h6
      have hb1 := hb.below h6
      have hne : (Value.slice (some ⟨w.heap.size, 0, none⟩) 0 cap) ≠ .slice none 0 0 := by simp
      clear h3
      go_wp2_with fail
      go_loopw [6, 27] (fun v i wr => ∃ k : Nat, k ≤ 2 ∧ i = .int .i64 k ∧ Below w.heap.size w wr ∧ Own wr w.heap.size 5 v (if k = 0 then [] else if k = 1 then a else a ++ b) ∧ (k = 2 → v ≠ .slice none 0 0)) (fun _ i _ => 2 - (intOf i).toNat)
      case atStart => exact ⟨0, by omega, rfl, h6, hown, by simp⟩
      case round =>
        
        obtain ⟨k, hk, rfl, hbel, hown, hnn⟩ := hrel
        have hc3 : k = 0 ∨ k = 1 ∨ k = 2 := by omega
        clear hk
        rcases hc3 with rfl | rfl | rfl
        · have hown0 : Own wr w.heap.size 5 u6 [] := hown
          have hA2 : wr.cell? ⟨h, off, none⟩ = some (.slice A n c) := (hbel.cell (p := ⟨h, off, none⟩) (block_lt_of_cell hA)).trans hA
          clear hown hnn hA1 hB1
          go_wp2_with (at_builtin; refine wpList_app rfl _ _ rfl w.heap.size u6 [] rfl hown0 A n c a rfl hn (ha.below hbel) (by simp only [List.length_nil]; omega) hbel.size ?_; intro v2 w2 hown2 hg2 hnn2)
          go_roundw
          case rel => exact ⟨1, by omega, rfl, hbel.grown hg2 hbel.size (fun q hq => (hown0.lt q hq).1), by simpa using hown2, by simp⟩
          case measure => simp [intOf]
        · have hown0 : Own wr w.heap.size 5 u6 a := by simpa using hown
          have hB2 : wr.cell? ⟨h, off + 1, none⟩ = some (.slice B m d) := (hbel.cell (p := ⟨h, off + 1, none⟩) (block_lt_of_cell hB)).trans hB
          clear hown hnn hA1 hB1
          go_wp2_with (at_builtin; refine wpList_app rfl _ _ rfl w.heap.size u6 a rfl hown0 B m d b rfl hm (hb.below hbel) (by omega) hbel.size ?_; intro v2 w2 hown2 hg2 hnn2)
          go_roundw
          case rel => exact ⟨2, by omega, rfl, hbel.grown hg2 hbel.size (fun q hq => (hown0.lt q hq).1), by simpa using hown2, fun _ he => by
            obtain ⟨hv, h0⟩ := hnn2 he
            rcases hown0.2 with ⟨_, h1⟩ | ⟨g, cap, cur, hv2, _⟩
            · omega
            · rw [hv] at hv2; cases hv2⟩
          case measure => simp [intOf]
        · have hown0 : Own wr w.heap.size 5 u6 (a ++ b) := by simpa using hown
          have hne2 := hnn rfl
          clear hown hnn hA1 hB1
          go_wp2_with fail
          go_ret
          obtain ⟨g, cap2, rfl, hg, hrow⟩ := Row.of_own hown0 hne2
          exact ⟨g, cap2, by simp [hn, hm], hg, hrow, hbel⟩
end Go.Proofs.YtjganhikmkhmpaaDoor
