/- A heap in memory; the contracts of heap.New and Bytes. -/
import Derived.Test.YtmahnlkbbpbeoaaKeep
import Derived.Test.YtmahnlkbbpbeoaaImg4
namespace Go.Proofs.Ytmahnlkbbpbeoaa
open Go.RowKit

/-- block h is a heap that was made behind w0: its image is l -/
structure Hp (w0 w : World) (F : Nat → Prop) (h : Nat) (l : Bytes) : Prop where
  hd : ∃ g cap, w.heap[h]? = some (.cells #[.slice (some ⟨g, 0, none⟩) l.length cap] 78 (0, 0)) ∧ Row w 5 g cap l ∧ F g
  fh : F h
  len : rightB l.length = true
  new : ∀ k, F k → w0.heap.size ≤ k
  flt : ∀ k, F k → k < w.heap.size
  bel : Below w0.heap.size w0 w
section
variable {w0 w w' : World} {F : Nat → Prop} {h : Nat} {l : Bytes}
theorem Hp.below (hp : Hp w0 w F h l) (hb : Below w.heap.size w w') : Hp w0 w' F h l := by
  obtain ⟨g, cap, h1, h2, h3⟩ := hp.hd
  exact ⟨⟨g, cap, (hb.block _ (hp.flt _ hp.fh)).trans h1, h2.block (hb.block _ (hp.flt _ h3)), h3⟩, hp.fh, hp.len, hp.new, fun k hk => Nat.lt_of_lt_of_le (hp.flt k hk) hb.size, hp.bel.trans (hb.mono hp.bel.size)⟩
theorem Hp.keep {G : Nat → Prop} (hp : Hp w0 w F h l) (hk : Keep G w w') (hG : ∀ k, F k → ¬ G k) (hn : ∀ k, G k → w0.heap.size ≤ k) : Hp w0 w' F h l := by
  obtain ⟨g, cap, h1, h2, h3⟩ := hp.hd
  exact ⟨⟨g, cap, (hk.block _ (hp.flt _ hp.fh) (hG _ hp.fh)).trans h1, h2.block (hk.block _ (hp.flt _ h3) (hG _ h3)), h3⟩, hp.fh, hp.len, hp.new, fun k hk' => Nat.lt_of_lt_of_le (hp.flt k hk') hk.size, hp.bel.trans (hk.below hp.bel.size hn)⟩
/-- what a walk wants of it -/
theorem Hp.open_ (hp : Hp w0 w F h l) : ∃ g cap, w.cell? ⟨h, 0, none⟩ = some (.slice (some ⟨g, 0, none⟩) l.length cap) ∧ l.length ≤ cap ∧ Row w 5 g cap l ∧ F g := by
  obtain ⟨g, cap, h1, h2, h3⟩ := hp.hd
  exact ⟨g, cap, by simp [World.cell?, h1], h2.le.1, h2, h3⟩
end
theorem hnew_no (n : Int) (w : World) (hr : rightB n = false) :
    Calls Try.prog 9 #[.int .i64 n] w fun e w' => e = .returned (.tuple #[.pointer none, .iface 80 (.int .i64 1)]) ∧ w = w' := by
  go_enter Try.func9, Try.ntmps9
  go_wp2_with fail
  refine (new_e1 n w hr).mono ?_
  rintro e w1 ⟨rfl, rfl⟩
  go_wp2_with fail
  go_ret2
  exact ⟨rfl, rfl⟩
theorem hnew_ok (n : Nat) (w : World) (hr : rightB n = true) :
    Calls Try.prog 9 #[.int .i64 (n : Int)] w fun e w' => ∃ h F, e = .returned (.tuple #[.pointer (some ⟨h, 0, none⟩), .nilIface]) ∧ Hp w w' F h (List.replicate n 0) := by
  have HR := Hidden.mk hr
  have HN := Hidden.mk (new_ok (n : Int) w hr)
  rw [Int.toNat_natCast] at HN
  clear hr
  go_enter Try.func9, Try.ntmps9
  go_wp2_with fail
  refine HN.out.mono ?_
  rintro e w1 ⟨g, rfl, hg, hrow, hb⟩
  have hlt := hrow.lt
  have hP : Hp w (w1.alloc (.cells #[.slice (some ⟨g, 0, none⟩) n n] 78)) (fun k => k = w1.heap.size ∨ k = g) w1.heap.size (List.replicate n 0) :=
    ⟨⟨g, n, by rw [List.length_replicate]; exact heap_alloc_new w1 _, hrow.block (Below.heap_alloc _ _ _ hlt), .inr rfl⟩, .inl rfl, by rw [List.length_replicate]; exact HR.out,
      fun k hk => by rcases hk with rfl | rfl; exact hb.size; exact hg, fun k hk => by simp; omega, hb.alloc hb.size _⟩
  have HP := Hidden.mk hP
  clear hP hrow hb HN
  go_wp2_with fail
  go_ret2
  exact ⟨_, _, rfl, HP.out⟩
theorem hbytes_ok (w0 w : World) (F : Nat → Prop) (h : Nat) (l : Bytes) (hp : Hp w0 w F h l) :
    Calls Try.prog 11 #[.pointer (some ⟨h, 0, none⟩)] w fun e w' => ∃ g cap, e = .returned (.slice (some ⟨g, 0, none⟩) l.length cap) ∧ w.heap.size ≤ g ∧ Row w' 5 g cap l ∧ Below w.heap.size w w' := by
  obtain ⟨g, cap, c0, hcap, hrow, hF⟩ := hp.open_
  have hb := rightB_true.1 hp.len
  have HC := Hidden.mk (clone_some ⟨g, 0, none⟩ l.length cap l w rfl (by omega) hrow.rd)
  clear hp hrow
  go_enter Try.func11, Try.ntmps11
  go_wp2_with fail
  refine HC.out.mono ?_
  rintro e w1 ⟨g1, cap1, rfl, hg, hrow, hb1⟩
  clear HC
  go_wp2_with fail
  go_ret
  exact ⟨g1, cap1, rfl, hg, hrow, hb1⟩
end Go.Proofs.Ytmahnlkbbpbeoaa
