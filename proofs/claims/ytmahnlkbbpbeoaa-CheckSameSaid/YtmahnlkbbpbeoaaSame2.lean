/- The contract of check.Leads. -/
import Derived.Test.YtmahnlkbbpbeoaaSameP
import Derived.Test.YtmahnlkbbpbeoaaRows2
import Derived.Deep.LoopGhost
namespace Go.Proofs.Ytmahnlkbbpbeoaa
open Go.RowKit Go.Maps Go.ChangeMaps

def strL (s : Bytes) : Lit := .string s
theorem strL_inj (x y : Bytes) (h : strL x = strL y) : x = y := by
  unfold strL at h; injection h
theorem str_keyed : Go.Maps.Keyed Try.prog 9 := Go.Maps.string_keyed Try.underlying9
theorem str_key {s : Bytes} (hs : s.length ≤ 100000) : keyOf Try.prog 9 (sv s) = some (strL s) := by
  have := Go.WideMaps.keyOf_string_mk (P := Try.prog) Try.underlying9 (s := ⟨s.toArray⟩) (by unfold maxLen; simp [ByteArray.size]; omega)
  simpa [strL] using this
theorem rcells_len2 (x : Bytes × Nat) : (rcells x).length = 2 := rfl
theorem rootP_len (S : Nat → Bytes) (m : Nat) (x : Bytes × Nat) (h : x ∈ rootsF S m) : x.1.length ≤ 8 := by
  unfold rootsF at h
  obtain ⟨i, _, rfl⟩ := List.mem_map.1 h
  unfold rootP
  split
  · unfold nmR nameAt
    rw [List.length_take, List.length_take]; omega
  · simp
set_option maxRecDepth 100000 in
theorem leads_ok (A : Option Addr) (n c : Nat) (l : Bytes) (w : World) (hn : l.length = n) (hr : rightB n = true) (hnc : n ≤ c) (hrd : Rd w A l) :
    Calls Try.prog 38 #[.slice A n c] w fun e w' => ∃ b, e = .returned (.map (some b)) ∧ w.heap.size ≤ b ∧ IM Try.prog 9 strL w' b (leadF (rootsL l)) (leadC (rootsL l)) ∧ Below w.heap.size w w' := by
  have hB0 : Below w.heap.size w (w.alloc (.map #[] 0)) := (Below.refl _ _).alloc (Nat.le_refl _) _
  have hI0 : IM Try.prog 9 strL (w.alloc (.map #[] 0)) w.heap.size (fun _ => none) 0 := IM.made w
  have HI0 := Hidden.mk hI0
  have HB0 := Hidden.mk hB0
  have HSZ : Hidden ((w.alloc (.map #[] 0)).heap.size = w.heap.size + 1) := ⟨by simp⟩
  have HR := Hidden.mk (iroots_ok A n c l (w.alloc (.map #[] 0)) hn hr hnc (hrd.below hB0))
  have hlr := rootsF_len (rawR l) 8
  have HNM : Hidden (∀ x ∈ rootsL l, x.1.length ≤ 8) := ⟨fun x hx => rootP_len _ _ x hx⟩
  have HLR : Hidden ((rootsL l).length ≤ 8) := ⟨hlr⟩
  generalize rootsL l = L at *
  clear hI0 hB0 hlr hr hrd hn
  have hmm := @run_makeMap Try.prog
  go_enter Try.func38, Try.ntmps38
  go_wp2_with fail
  generalize hw0 : w.alloc (.map #[] 0) = w0 at *
  have HW0 := Hidden.mk hw0
  clear hw0 hmm
  refine HR.out.mono ?_
  rintro e w1 ⟨v1, rfl, hown, hb1⟩
  have hI1 : IM Try.prog 9 strL w1 w.heap.size (leadF (L.take 0)) (leadC (L.take 0)) := HI0.out.block (hb1.block _ (by have := HSZ.out; omega))
  have hB1 := HB0.out.trans (hb1.mono HB0.out.size)
  obtain ⟨A1, c1, hv1, hc1, -⟩ := own_split hown
  subst hv1
  have HL8 := HLR.out
  generalize hm : L.length = m at *
  have HM := Hidden.mk hm
  clear hm hb1 HR
  go_wp2_with fail
  go_loopg [16] m (fun q i wr => ∃ k : Nat, k ≤ m ∧ q = m - k ∧ i = .int .i64 (k : Int) ∧ Below w.heap.size w wr ∧ wr.ownsRow w0.heap.size 116 2 (.slice A1 m c1) m (L.flatMap rcells) ∧ IM Try.prog 9 strL wr w.heap.size (leadF (L.take k)) (leadC (L.take k)))
  case atStart => exact ⟨0, by omega, rfl, rfl, hB1, hown, hI1⟩
  case round =>
    obtain ⟨k, hk, rfl, rfl, hbel, hown, him⟩ := hrel
    by_cases hlt : k < m
    · have hlt' : k < L.length := by have := HM.out; omega
      obtain ⟨g, off, rfl, hg, hgl, hcx⟩ := own_at rcells_len2 hown k hlt' (by omega)
      have c0 := hcx 0 _ rfl
      have c1 := hcx 1 _ rfl
      rw [Nat.add_zero] at c0
      have hs8 := HNM.out L[k] (List.getElem_mem hlt')
      have hts : L.take (k + 1) = L.take k ++ [L[k]] := List.take_succ_eq_append_getElem hlt'
      have HF : Hidden (leadF (L.take (k + 1)) = upd (leadF (L.take k)) L[k].1 (.int .i64 L[k].2)) := ⟨by rw [hts, leadF_snoc]⟩
      have HC : Hidden (leadC (L.take (k + 1)) = if (leadF (L.take k) L[k].1).isSome then leadC (L.take k) else leadC (L.take k) + 1) := ⟨by rw [hts, leadC_snoc, leadF_isSome]⟩
      have hcl : leadC (L.take k) ≤ k := Nat.le_trans (leadC_le _) (List.length_take_le _ _)
      generalize L[k].1 = s at *
      generalize L[k].2 = h at *
      have hal : Below wr.heap.size wr (wr.alloc (.cells #[sv s, .int .i64 (h : Int)] 116)) := (Below.refl _ _).alloc (Nat.le_refl _) _
      have hown2 := own_below hown hal
      have hb2 : Below w.heap.size w (wr.alloc (.cells #[sv s, .int .i64 (h : Int)] 116)) := hbel.trans (hal.mono hbel.size)
      have him2 : IM Try.prog 9 strL (wr.alloc (.cells #[sv s, .int .i64 (h : Int)] 116)) w.heap.size (leadF (L.take k)) (leadC (L.take k)) := him.block (hal.block _ him.lt)
      obtain ⟨w5, hrun, him5, hg5, hs5⟩ := him2.store (T := 85) str_keyed strL_inj Try.underlying85 (by unfold maxLen; omega) (str_key (s := s) (by omega)) (.int .i64 (h : Int))
      have hown5 := hown2.kept hg5 (.inr (fun e => by have := (hown2.lt _ e).1; have := HSZ.out; omega))
      have hB5 : Below w.heap.size w w5 := hb2.grown hg5 hb2.size (fun q hq => by injection hq with hq; omega)
      have hlt5 : (k : Int) < m := by omega
      rw [← HF.out, ← HC.out] at him5
      have H5 := Hidden.mk (And.intro hB5 (And.intro hown5 him5))
      have s1 : IntKind.i64.wrap ((k : Int) + 1) = (k : Int) + 1 := IntWalk.i64_in _ (by omega)
      clear him5 hown5 hB5 hg5 hs5 him2 hown2 hb2 hal hcx hts him hown hbel
      go_wp2_with fail
      go_roundg (m - (k + 1))
      case measure => omega
      case rel => exact ⟨k + 1, by omega, rfl, by go_num, H5.out.1, H5.out.2.1, H5.out.2.2⟩
    · obtain rfl : k = m := by omega
      have hte : L.take k = L := List.take_of_length_le (by have := HM.out; omega)
      rw [hte] at him
      clear hte
      go_wp2_with fail
      go_ret
      exact ⟨w.heap.size, rfl, Nat.le_refl _, him, hbel⟩
end Go.Proofs.Ytmahnlkbbpbeoaa
