/- StampTells: the walk. -/
import Derived.Test.YtjganhikmkhmpaaDoorRefM
import Derived.Test.YtjganhikmkhmpaaDoorMix1
import Derived.Test.YtjganhikmkhmpaaDoorTold3
namespace Go.Proofs.YtjganhikmkhmpaaDoor
open Go.RowKit

theorem mix_e3x (A B : Option Addr) (n m c d : Nat) (cut : Int) (w : World) (h : n ≠ 32 ∨ m ≠ 32) :
    Calls Tryd.prog 17 #[.slice A n c, .slice B m d, .int .i64 cut] w fun e w' => e = .returned (.tuple #[.slice none 0 0, .iface 135 (.int .i64 3)]) ∧ w = w' := by
  by_cases h1 : n = 32
  · subst h1
    have t2 : ((m : Int) != 32) = true := by simp; omega
    clear h
    go_enter Tryd.func17, Tryd.ntmps17
    go_wp2
    go_ret2
    exact ⟨rfl, rfl⟩
  · have t1 : ((n : Int) != 32) = true := by simp; omega
    clear h h1
    go_enter Tryd.func17, Tryd.ntmps17
    go_wp2
    go_ret2
    exact ⟨rfl, rfl⟩

set_option maxRecDepth 100000 in
set_option maxHeartbeats 1000000 in
theorem stampTells_walk (x : Int) (A B C : Option Addr) (n m q c d f : Nat) (body a b : Bytes) (cut : Int) (w : World) (hg : HasType w) (hn : body.length = n) (hm : a.length = m) (hq : b.length = q) (hmd : m ≤ d) (hqf : q ≤ f) (hA : Rd w A body) (hB : Rd w B a) (hC : Rd w C b) :
    Calls Tryd.prog 3 #[.int .i64 x, .slice A n c, .slice B m d, .slice C q f, .int .i64 cut] w fun e w' => e = .returned (.bool true) ∧ Below w.heap.size w w' := by
  obtain ⟨i0, hi0, hz0, hz1, hz2⟩ := info_parts byte_info
  go_enter Tryd.func3, Tryd.ntmps3
  go_wp2_with fail
  refine (refMake_any x A n c body _ hn hA).mono ?_
  rintro e w1 ⟨A1, c1, rfl, hr1, hb1⟩
  have hA1 := hA.below hb1
  go_wp2_with fail
  refine (make_any x A n c body _ hn hA1).mono ?_
  rintro e w2 ⟨A2, c2, rfl, hr2, hb2'⟩
  generalize makeF x body = F1 at *
  obtain ⟨L1, k1⟩ := F1
  dsimp only at hr1 hr2 ⊢
  have hb2 := hb1.trans (hb2'.mono hb1.size)
  have hr1' := hr1.below hb2'
  clear hA hA1 hb1 hr1 hb2'
  go_wp2_with fail
  refine (err_any k1 k1 _ (hg.below hg.lt hb2)).mono ?_
  rintro e w3 ⟨rfl, hb3'⟩
  rw [beq_self_eq_true]
  have hb3 := hb2.trans (hb3'.mono hb2.size)
  have hr1 := hr1'.below hb3'
  have hr2' := hr2.below hb3'
  clear hr1' hr2 hb3' hb2
  go_wp2_with fail
  refine (refOpen_any B m d a _ hm hmd (hB.below hb3)).mono ?_
  rintro e w4 ⟨A4, c4, rfl, hr4, hb4'⟩
  have hb4 := hb3.trans (hb4'.mono hb3.size)
  have hr1' := hr1.below hb4'
  have hr2 := hr2'.below hb4'
  clear hr1 hr2' hb4' hb3
  go_wp2_with fail
  refine (open_any B m d a _ hm hmd (hB.below hb4)).mono ?_
  rintro e w5 ⟨A5, c5, rfl, hr5, hb5'⟩
  generalize openF a = F2 at *
  obtain ⟨st, L2, k2⟩ := F2
  dsimp only at hr4 hr5 ⊢
  have hb5 := hb4.trans (hb5'.mono hb4.size)
  have hr1 := hr1'.below hb5'
  have hr2' := hr2.below hb5'
  have hr4' := hr4.below hb5'
  clear hr1' hr2 hr4 hb5' hb4
  go_wp2_with fail
  refine (err_any k2 k2 _ (hg.below hg.lt hb5)).mono ?_
  rintro e w6 ⟨rfl, hb6'⟩
  rw [beq_self_eq_true]
  have hb6 := hb5.trans (hb6'.mono hb5.size)
  have q1 := hr1.below hb6'
  have q2 := hr2'.below hb6'
  have q4 := hr4'.below hb6'
  have q5 := hr5.below hb6'
  have hg6 := hg.below hg.lt hb6
  have hB6 := hB.below hb6
  have hC6 := hC.below hb6
  clear hr1 hr2' hr4' hr5 hb6' hb5 hB hC hg
  by_cases h32 : m = 32 ∧ q = 32
  · obtain ⟨rfl, rfl⟩ := h32
    by_cases hcut : 0 ≤ cut ∧ cut ≤ 32
    · obtain ⟨h0, h1⟩ := hcut
      obtain ⟨k, rfl⟩ := Int.eq_ofNat_of_zero_le h0
      have hk : k ≤ 32 := by omega
      have hBt := hB6.take k (by omega)
      have hCt := hC6.tail k f (by omega) (by omega)
      obtain ⟨p, off, rfl, _⟩ := hB6.lt (by omega)
      obtain ⟨p2, off2, rfl, _⟩ := hC6.lt (by omega)
      by_cases hfk : f = k
      · rw [if_pos hfk] at hCt
        subst hfk
        obtain rfl : f = 32 := by omega
        go_wp2_with (first
          | (at_builtin; refine wpList_append_own _ rfl (.tmp 70) (.tmp 73) _ rfl w6.heap.size 5 i0 _ 1 1 Tryd.underlying22 hi0 hz0 hz1 hz2 rfl (by decide) (.slice none 0 0) 0 [] rfl (World.ownsRow_nil _ _ _ _) ⟨p, off, none⟩ 32 d ((a.take 32).map bv) rfl (by simp; omega) hBt.cells one_bv (by simp only [maxLen]; omega) (by omega) (Nat.le_refl _) ?_; intro v1 w7 hown7 hg7 hnn7)
          | (at_builtin; refine wpList_append_own _ rfl (.tmp 75) (.tmp 78) _ rfl w6.heap.size 5 i0 _ 1 1 Tryd.underlying22 hi0 hz0 hz1 hz2 rfl (by decide) v1 _ _ rfl hown7 ⟨p2, off2, none⟩ 0 0 ((b.drop 32).map bv) rfl (by simp; omega) (hCt.below ((Below.refl _ _).grown hg7 (Nat.le_refl _) (fun k hk => by simp [Value.ownBlock] at hk))).cells one_bv (by simp only [maxLen]; omega) (by omega) hg7.size ?_; intro v2 w8 hown8 hg8 hnn8))
        have hb7 : Below w6.heap.size w6 w7 := (Below.refl _ _).grown hg7 (Nat.le_refl _) (fun k hk => by simp [Value.ownBlock] at hk)
        have hb8 : Below w6.heap.size w6 w8 := hb7.grown hg8 hb7.size (fun q hq => (hown7.lt q hq).1)
        have hO : Own w8 w6.heap.size 5 v2 (a.take 32 ++ b.drop 32) := by
          unfold Own
          have hl : (a.take 32 ++ b.drop 32).length = 0 + 32 + 0 := by simp; omega
          rw [hl, List.map_append]
          simpa using hown8
        have hlen : (a.take 32 ++ b.drop 32).length = 32 := by simp; omega
        obtain ⟨A8, c8, hv8, _, _, hr8⟩ := hO.slice
        rw [hlen] at hv8
        subst hv8
        have hB8 := hB6.below hb8
        have hC8 := hC6.below hb8
        clear hown7 hown8 hg7 hg8 hnn7 hnn8 hb7 hO
        refine (mix_ok _ _ d 32 a b 32 _ hm hq hmd hqf hB8 hC8 (by omega) (by omega)).mono ?_
        rintro e w9 ⟨g9, cap9, rfl, _, hrow9, hb9⟩
        go_wp2_with fail
        refine (err_nil 0 _).mono ?_
        rintro e w10 ⟨rfl, hb10⟩
        have hb11 : Below w6.heap.size w6 w10 := (hb8.trans (hb9.mono hb8.size)).trans (hb10.mono (Nat.le_trans hb8.size hb9.size))
        have hb12 := hb9.trans (hb10.mono hb9.size)
        rw [show (32 : Int).toNat = 32 from rfl] at hrow9
        have z1 := conv_text w10 A1 L1.length c1 L1 rfl (q1.below hb11)
        have z2 := conv_text w10 A2 L1.length c2 L1 rfl (q2.below hb11)
        have z4 := conv_text w10 A4 L2.length c4 L2 rfl (q4.below hb11)
        have z5 := conv_text w10 A5 L2.length c5 L2 rfl (q5.below hb11)
        have z6 := conv_text w10 A8 32 c8 _ hlen (hr8.below hb12)
        have z7 := conv_text w10 (some ⟨g9, 0, none⟩) 32 cap9 _ hlen (hrow9.rd.below hb10)
        have hBB := hb6.trans (hb11.mono hb6.size)
        clear q1 q2 q4 q5 hb8 hb6 hB6 hC6 hb9 hb10 hb11 hb12 hrow9 hr8 hB8 hC8
        generalize a.take 32 ++ b.drop 32 = ab at *
        go_wp2_with fail
        go_ret
        exact ⟨rfl, hBB⟩
      · rw [if_neg hfk, Option.map_some, Addr.add_lit] at hCt
        go_wp2_with (first
          | (at_builtin; refine wpList_append_own _ rfl (.tmp 70) (.tmp 73) _ rfl w6.heap.size 5 i0 _ 1 1 Tryd.underlying22 hi0 hz0 hz1 hz2 rfl (by decide) (.slice none 0 0) 0 [] rfl (World.ownsRow_nil _ _ _ _) ⟨p, off, none⟩ k d ((a.take k).map bv) rfl (by simp; omega) hBt.cells one_bv (by simp only [maxLen]; omega) (by omega) (Nat.le_refl _) ?_; intro v1 w7 hown7 hg7 hnn7)
          | (at_builtin; refine wpList_append_own _ rfl (.tmp 75) (.tmp 78) _ rfl w6.heap.size 5 i0 _ 1 1 Tryd.underlying22 hi0 hz0 hz1 hz2 rfl (by decide) v1 _ _ rfl hown7 ⟨p2, off2 + k, none⟩ (32 - k) (f - k) ((b.drop k).map bv) rfl (by simp; omega) (hCt.below ((Below.refl _ _).grown hg7 (Nat.le_refl _) (fun k hk => by simp [Value.ownBlock] at hk))).cells one_bv (by simp only [maxLen]; omega) (by omega) hg7.size ?_; intro v2 w8 hown8 hg8 hnn8))
        have hb7 : Below w6.heap.size w6 w7 := (Below.refl _ _).grown hg7 (Nat.le_refl _) (fun k hk => by simp [Value.ownBlock] at hk)
        have hb8 : Below w6.heap.size w6 w8 := hb7.grown hg8 hb7.size (fun q hq => (hown7.lt q hq).1)
        have hO : Own w8 w6.heap.size 5 v2 (a.take k ++ b.drop k) := by
          unfold Own
          have hl : (a.take k ++ b.drop k).length = 0 + k + (32 - k) := by simp; omega
          rw [hl, List.map_append]
          simpa using hown8
        have hlen : (a.take k ++ b.drop k).length = 32 := by simp; omega
        obtain ⟨A8, c8, hv8, _, _, hr8⟩ := hO.slice
        rw [hlen] at hv8
        subst hv8
        have hB8 := hB6.below hb8
        have hC8 := hC6.below hb8
        clear hown7 hown8 hg7 hg8 hnn7 hnn8 hb7 hO
        refine (mix_ok _ _ d f a b k _ hm hq hmd hqf hB8 hC8 (by omega) (by omega)).mono ?_
        rintro e w9 ⟨g9, cap9, rfl, _, hrow9, hb9⟩
        go_wp2_with fail
        refine (err_nil 0 _).mono ?_
        rintro e w10 ⟨rfl, hb10⟩
        have hb11 : Below w6.heap.size w6 w10 := (hb8.trans (hb9.mono hb8.size)).trans (hb10.mono (Nat.le_trans hb8.size hb9.size))
        have hb12 := hb9.trans (hb10.mono hb9.size)
        rw [Int.toNat_natCast] at hrow9
        have z1 := conv_text w10 A1 L1.length c1 L1 rfl (q1.below hb11)
        have z2 := conv_text w10 A2 L1.length c2 L1 rfl (q2.below hb11)
        have z4 := conv_text w10 A4 L2.length c4 L2 rfl (q4.below hb11)
        have z5 := conv_text w10 A5 L2.length c5 L2 rfl (q5.below hb11)
        have z6 := conv_text w10 A8 32 c8 _ hlen (hr8.below hb12)
        have z7 := conv_text w10 (some ⟨g9, 0, none⟩) 32 cap9 _ hlen (hrow9.rd.below hb10)
        have hBB := hb6.trans (hb11.mono hb6.size)
        clear q1 q2 q4 q5 hb8 hb6 hB6 hC6 hb9 hb10 hb11 hb12 hrow9 hr8 hB8 hC8
        generalize a.take k ++ b.drop k = ab at *
        go_wp2_with fail
        go_ret
        exact ⟨rfl, hBB⟩
    · by_cases h0 : cut < 0
      · clear hcut
        go_wp2_with fail
        refine (mix_e1 B C d f cut _ (.inl h0)).mono ?_
        rintro e w7 ⟨rfl, rfl⟩
        go_wp2_with fail
        refine (err_some 1 1 _ hg6).mono ?_
        rintro e w8 ⟨rfl, hb8⟩
        rw [beq_self_eq_true]
        have z0 := conv_text w8 none 0 0 [] rfl Rd.nil_
        have z1 := conv_text w8 A1 L1.length c1 L1 rfl (q1.below hb8)
        have z2 := conv_text w8 A2 L1.length c2 L1 rfl (q2.below hb8)
        have z4 := conv_text w8 A4 L2.length c4 L2 rfl (q4.below hb8)
        have z5 := conv_text w8 A5 L2.length c5 L2 rfl (q5.below hb8)
        have hBB := hb6.trans (hb8.mono hb6.size)
        clear q1 q2 q4 q5 hb8 hb6 hB6 hC6
        go_wp2_with fail
        go_ret
        exact ⟨rfl, hBB⟩
      · have h1 : 32 < cut := by omega
        clear hcut
        go_wp2_with fail
        refine (mix_e1 B C d f cut _ (.inr h1)).mono ?_
        rintro e w7 ⟨rfl, rfl⟩
        go_wp2_with fail
        refine (err_some 1 1 _ hg6).mono ?_
        rintro e w8 ⟨rfl, hb8⟩
        rw [beq_self_eq_true]
        have z0 := conv_text w8 none 0 0 [] rfl Rd.nil_
        have z1 := conv_text w8 A1 L1.length c1 L1 rfl (q1.below hb8)
        have z2 := conv_text w8 A2 L1.length c2 L1 rfl (q2.below hb8)
        have z4 := conv_text w8 A4 L2.length c4 L2 rfl (q4.below hb8)
        have z5 := conv_text w8 A5 L2.length c5 L2 rfl (q5.below hb8)
        have hBB := hb6.trans (hb8.mono hb6.size)
        clear q1 q2 q4 q5 hb8 hb6 hB6 hC6
        go_wp2_with fail
        go_ret
        exact ⟨rfl, hBB⟩
  · by_cases hm32 : m = 32
    · subst hm32
      have hq32 : ¬ q = 32 := fun h => h32 ⟨rfl, h⟩
      have t2 : ((q : Int) != 32) = true := by simp; omega
      clear h32
      go_wp2_with fail
      refine (mix_e3x B C 32 q d f cut _ (.inr hq32)).mono ?_
      rintro e w7 ⟨rfl, rfl⟩
      go_wp2_with fail
      refine (err_some 3 3 _ hg6).mono ?_
      rintro e w8 ⟨rfl, hb8⟩
      rw [beq_self_eq_true]
      have z0 := conv_text w8 none 0 0 [] rfl Rd.nil_
      have z1 := conv_text w8 A1 L1.length c1 L1 rfl (q1.below hb8)
      have z2 := conv_text w8 A2 L1.length c2 L1 rfl (q2.below hb8)
      have z4 := conv_text w8 A4 L2.length c4 L2 rfl (q4.below hb8)
      have z5 := conv_text w8 A5 L2.length c5 L2 rfl (q5.below hb8)
      have hBB := hb6.trans (hb8.mono hb6.size)
      clear q1 q2 q4 q5 hb8 hb6 hB6 hC6
      go_wp2_with fail
      go_ret
      exact ⟨rfl, hBB⟩
    · have t1 : ((m : Int) != 32) = true := by simp; omega
      clear h32
      go_wp2_with fail
      refine (mix_e3x B C m q d f cut _ (.inl hm32)).mono ?_
      rintro e w7 ⟨rfl, rfl⟩
      go_wp2_with fail
      refine (err_some 3 3 _ hg6).mono ?_
      rintro e w8 ⟨rfl, hb8⟩
      rw [beq_self_eq_true]
      have z0 := conv_text w8 none 0 0 [] rfl Rd.nil_
      have z1 := conv_text w8 A1 L1.length c1 L1 rfl (q1.below hb8)
      have z2 := conv_text w8 A2 L1.length c2 L1 rfl (q2.below hb8)
      have z4 := conv_text w8 A4 L2.length c4 L2 rfl (q4.below hb8)
      have z5 := conv_text w8 A5 L2.length c5 L2 rfl (q5.below hb8)
      have hBB := hb6.trans (hb8.mono hb6.size)
      clear q1 q2 q4 q5 hb8 hb6 hB6 hC6
      go_wp2_with fail
      go_ret
      exact ⟨rfl, hBB⟩
end Go.Proofs.YtjganhikmkhmpaaDoor
