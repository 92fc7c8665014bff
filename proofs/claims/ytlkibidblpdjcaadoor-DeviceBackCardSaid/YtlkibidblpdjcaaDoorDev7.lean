/- A device that a call has made: the contracts once more, with what they leave of the rest. -/
import Derived.Test.YtlkibidblpdjcaaDoorDev6
namespace Go.Proofs.YtlkibidblpdjcaaDoor
open Go.RowKit Go.Maps Go.ChangeMaps

/-- block d is a device that was made behind w0 -/
structure DevB (w0 w : World) (F : Nat → Prop) (d : Nat) (D : Dv) : Prop where
  dev : ∃ Y, DevIs w F d D Y (InO D)
  new : ∀ k, F k → w0.heap.size ≤ k
  bel : Below w0.heap.size w0 w
section
variable {w0 w : World} {F : Nat → Prop} {d : Nat} {D : Dv}
theorem DevB.flt (h : DevB w0 w F d D) : ∀ k, F k → k < w.heap.size := by
  obtain ⟨Y, hY⟩ := h.dev
  exact hY.flt
theorem DevB.below {w' : World} (h : DevB w0 w F d D) (hb : Below w.heap.size w w') : DevB w0 w' F d D := by
  obtain ⟨Y, hY⟩ := h.dev
  exact ⟨⟨Y, hY.below hb⟩, h.new, h.bel.trans (hb.mono h.bel.size)⟩
theorem DevB.keep {G : Nat → Prop} {w' : World} (h : DevB w0 w F d D) (hk : Keep G w w') (hG : ∀ k, F k → ¬ G k) (hn : ∀ k, G k → w0.heap.size ≤ k) : DevB w0 w' F d D := by
  obtain ⟨Y, hY⟩ := h.dev
  exact ⟨⟨Y, hY.keep hk hG⟩, h.new, h.bel.trans (hk.below h.bel.size hn)⟩
theorem DevB.lens (h : DevB w0 w F d D) : 1 ≤ D.S.length ∧ D.S.length ≤ 300 ∧ D.O.length ≤ 300 ∧ (∀ i ∈ D.O, i < D.S.length) ∧ D.O.Nodup ∧ (∀ i (hi : i < D.S.length), D.S[i].length = 32) ∧ (∀ i ∈ D.O, (D.M i).length = 32) ∧ -1 ≤ D.left := by
  obtain ⟨Y, hY⟩ := h.dev
  exact ⟨hY.n0, hY.n1, hY.ord_le, fun i hi => (hY.mlen i hi).1, hY.nd, fun i hi => (hY.row i hi).2, fun i hi => (hY.mlen i hi).2, hY.l0⟩
theorem dnewB (n : Nat) (w : World) (h1 : 1 ≤ n) (h3 : n ≤ 300) :
    Calls Tryd.prog 10 #[.int .i64 (n : Int)] w fun e w' => ∃ d F, e = .returned (.tuple #[.pointer (some ⟨d, 0, none⟩), .nilIface]) ∧ DevB w w' F d (newD n) :=
  (dnew_ok n w h1 h3).mono fun _ _ ⟨d, F, Y, he, h, hF, hb⟩ => ⟨d, F, he, ⟨Y, h⟩, hF, hb⟩
theorem DevB.down (h : DevB w0 w F d D) : Calls Tryd.prog 17 #[.pointer (some ⟨d, 0, none⟩)] w fun e w' => e = .returned (.bool D.down) ∧ w = w' := by
  obtain ⟨Y, hY⟩ := h.dev
  exact ddown_any w F d D Y _ hY
theorem DevB.len (h : DevB w0 w F d D) : Calls Tryd.prog 26 #[.pointer (some ⟨d, 0, none⟩)] w fun e w' => e = .returned (.int .i64 D.S.length) ∧ w = w' := by
  obtain ⟨Y, hY⟩ := h.dev
  exact dlen_any w F d D Y _ hY
theorem DevB.fail (h : DevB w0 w F d D) (n : Int) (hn : n ≤ 9223372036854775807) :
    Calls Tryd.prog 18 #[.pointer (some ⟨d, 0, none⟩), .int .i64 n] w fun e w' => e = .returned (.tuple #[]) ∧ DevB w0 w' F d { D with left := max (-1) n } ∧ Keep F w w' := by
  obtain ⟨Y, hY⟩ := h.dev
  exact (dfail_any n w F d D Y _ hY hn).mono fun _ _ ⟨he, hd, hk, _⟩ => ⟨he, ⟨⟨Y, hd⟩, h.new, h.bel.trans (hk.below h.bel.size h.new)⟩, hk⟩
theorem DevB.read_e1 (h : DevB w0 w F d D) (i : Int) (hi : i < 0 ∨ (D.S.length : Int) ≤ i) :
    Calls Tryd.prog 12 #[.pointer (some ⟨d, 0, none⟩), .int .i64 i] w fun e w' => e = .returned (.tuple #[.slice none 0 0, .iface 112 (.int .i64 1)]) ∧ w = w' := by
  obtain ⟨Y, hY⟩ := h.dev
  exact dread_e1 i w F d D Y _ hY hi
theorem DevB.read_e9 (h : DevB w0 w F d D) (i : Nat) (hi : i < D.S.length) (hd : D.down = true) :
    Calls Tryd.prog 12 #[.pointer (some ⟨d, 0, none⟩), .int .i64 (i : Int)] w fun e w' => e = .returned (.tuple #[.slice none 0 0, .iface 112 (.int .i64 9)]) ∧ w = w' := by
  obtain ⟨Y, hY⟩ := h.dev
  exact dread_e9 i w F d D Y _ hY hi hd
theorem DevB.read (h : DevB w0 w F d D) (i : Nat) (hi : i < D.S.length) (hd : D.down = false) :
    Calls Tryd.prog 12 #[.pointer (some ⟨d, 0, none⟩), .int .i64 (i : Int)] w fun e w' => ∃ g cap, e = .returned (.tuple #[.slice (some ⟨g, 0, none⟩) 32 cap, .nilIface]) ∧ w.heap.size ≤ g ∧ Row w' 5 g cap (readD D i) ∧ (readD D i).length = 32 ∧ Below w.heap.size w w' ∧ DevB w0 w' F d D := by
  obtain ⟨Y, hY⟩ := h.dev
  exact (dread_ok i w F d D Y hY hi hd).mono fun _ _ ⟨g, cap, he, hg, hr, hl, hb⟩ => ⟨g, cap, he, hg, hr, hl, hb, h.below hb⟩
theorem DevB.write_e1 (h : DevB w0 w F d D) (i : Int) (A : Option Addr) (n c : Nat) (hi : i < 0 ∨ (D.S.length : Int) ≤ i) :
    Calls Tryd.prog 11 #[.pointer (some ⟨d, 0, none⟩), .int .i64 i, .slice A n c] w fun e w' => e = .returned (.iface 112 (.int .i64 1)) ∧ w = w' := by
  obtain ⟨Y, hY⟩ := h.dev
  exact dwrite_e1 i A n c w F d D Y _ hY hi
theorem DevB.write_e3 (h : DevB w0 w F d D) (i : Nat) (A : Option Addr) (n c : Nat) (hi : i < D.S.length) (hn : n ≠ 32) :
    Calls Tryd.prog 11 #[.pointer (some ⟨d, 0, none⟩), .int .i64 (i : Int), .slice A n c] w fun e w' => e = .returned (.iface 112 (.int .i64 3)) ∧ w = w' := by
  obtain ⟨Y, hY⟩ := h.dev
  exact dwrite_e3 i A n c w F d D Y _ hY hi hn
theorem DevB.write_e9 (h : DevB w0 w F d D) (i : Nat) (A : Option Addr) (c : Nat) (hi : i < D.S.length) (hd : D.down = true) :
    Calls Tryd.prog 11 #[.pointer (some ⟨d, 0, none⟩), .int .i64 (i : Int), .slice A 32 c] w fun e w' => e = .returned (.iface 112 (.int .i64 9)) ∧ w = w' := by
  obtain ⟨Y, hY⟩ := h.dev
  exact dwrite_e9 i A c w F d D Y _ hY hi hd
theorem DevB.write (h : DevB w0 w F d D) (i : Nat) (A : Option Addr) (c : Nat) (b : Bytes) (hi : i < D.S.length) (hd : D.down = false) (hbl : b.length = 32) (hrd : Rd w A b) (hAF : ∀ ad, A = some ad → ¬ F ad.block) :
    Calls Tryd.prog 11 #[.pointer (some ⟨d, 0, none⟩), .int .i64 (i : Int), .slice A 32 c] w fun e w' => e = .returned (powV D.left) ∧ ∃ F', DevB w0 w' F' d (stepD (putD D i b)) ∧ Keep F w w' ∧ ∀ k, F' k → F k ∨ w.heap.size ≤ k := by
  obtain ⟨Y, hY⟩ := h.dev
  refine (dwrite_ok i A c b w F d D Y hY hi hd hbl hrd hAF).mono fun _ w' ⟨he, hd', hk⟩ => ⟨he, growF F w w', ⟨hd', fun k hk' => ?_, h.bel.trans (hk.below h.bel.size h.new)⟩, hk, fun k hk' => hk'.1⟩
  have := h.bel.size
  rcases hk'.1 with h' | h'
  · exact h.new k h'
  · omega
theorem DevB.flush_dn (h : DevB w0 w F d D) (hd : D.down = true) :
    Calls Tryd.prog 15 #[.pointer (some ⟨d, 0, none⟩)] w fun e w' => e = .returned (.iface 112 (.int .i64 9)) ∧ w = w' := by
  obtain ⟨Y, hY⟩ := h.dev
  exact dflush_dn w F d D Y _ hY hd
theorem DevB.flush_lost (h : DevB w0 w F d D) (hd : D.down = false) (hl : D.left = 0) :
    Calls Tryd.prog 15 #[.pointer (some ⟨d, 0, none⟩)] w fun e w' => e = .returned (.iface 112 (.int .i64 9)) ∧ DevB w0 w' F d (stepD D) ∧ Keep F w w' := by
  obtain ⟨Y, hY⟩ := h.dev
  exact (dflush_lost w F d D Y _ hY hd hl).mono fun _ _ ⟨he, hd', hk⟩ => ⟨he, ⟨⟨Y, hd'⟩, h.new, h.bel.trans (hk.below h.bel.size h.new)⟩, hk⟩
theorem DevB.flush (h : DevB w0 w F d D) (hd : D.down = false) (hl : D.left ≠ 0) :
    Calls Tryd.prog 15 #[.pointer (some ⟨d, 0, none⟩)] w fun e w' => e = .returned .nilIface ∧ DevB w0 w' F d (flushD (stepD D)) ∧ Keep F w w' := by
  obtain ⟨Y, hY⟩ := h.dev
  exact (dflush_ok w F d D Y hY hd hl).mono fun _ _ ⟨he, hd', hk⟩ => ⟨he, ⟨hd', h.new, h.bel.trans (hk.below h.bel.size h.new)⟩, hk⟩
theorem DevB.crash (h : DevB w0 w F d D) (A : Option Addr) (nk ck : Nat) (keep : List Bool) (torn cut : Int) (hn : keep.length = nk) (hrd : RdB w A keep) (hA : 0 < nk → ∀ ad, A = some ad → ¬ F ad.block) :
    Calls Tryd.prog 14 #[.pointer (some ⟨d, 0, none⟩), .slice A nk ck, .int .i64 torn, .int .i64 cut] w fun e w' => e = .returned (.int .i64 D.O.length) ∧ DevB w0 w' F d (crashD D keep torn (min 32 (max 0 cut)).toNat) ∧ Keep F w w' := by
  obtain ⟨Y, hY⟩ := h.dev
  exact (dcrash_any A nk ck keep torn cut w F d D Y hY hn hrd hA).mono fun _ _ ⟨he, hd', hk⟩ => ⟨he, ⟨hd', h.new, h.bel.trans (hk.below h.bel.size h.new)⟩, hk⟩
theorem DevB.pend (h : DevB w0 w F d D) :
    Calls Tryd.prog 16 #[.pointer (some ⟨d, 0, none⟩)] w fun e w' => ∃ v', e = .returned v' ∧ w'.ownsRow w.heap.size 3 1 v' D.O.length (D.O.map fun i : Nat => .int .i64 (i : Int)) ∧ Below w.heap.size w w' ∧ DevB w0 w' F d D := by
  obtain ⟨Y, hY⟩ := h.dev
  exact (dpend_any w F d D Y _ hY).mono fun _ _ ⟨v, he, ho, hb⟩ => ⟨v, he, ho, hb, h.below hb⟩
end
/-- a flush with nothing pending -/
theorem flush_none (D : Dv) (hO : D.O = []) : flushD D = D := by
  obtain ⟨S, O, M, left, down⟩ := D
  simp only at hO
  subst hO
  unfold flushD
  simp only
  congr 1
  apply List.ext_getElem?
  intro k
  by_cases hk : k < S.length
  · rw [List.getElem?_map, List.getElem?_range hk]
    simp [readD, hk]
  · rw [List.getElem?_eq_none (by simp; omega), List.getElem?_eq_none (by omega)]
end Go.Proofs.YtlkibidblpdjcaaDoor
