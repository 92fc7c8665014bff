/- The contracts of check.stray, check.over and image.Zero. -/
import Derived.Test.YtibogmoemohngaaImg4
namespace Go.Proofs.Ytibogmoemohngaa
open Go.RowKit

theorem stray_any (A : Option Addr) (n c : Nat) (h at_ len tag : Int) (w : World) (hn : n ≤ 6400) (ha : 0 ≤ at_) (hl : 0 ≤ len) (hl2 : len ≤ 65535) :
    Calls Try.prog 147 #[.slice A n c, entV h at_ len tag] w fun e w' => e = .returned (.bool (!(tagB tag && lenB len && withinB n at_ len))) ∧ Below w.heap.size w w' := by
  have hW : Below w.heap.size w (w.alloc (.cells #[.int .i64 h, .int .i64 at_, .int .i64 len, .int .i64 tag] 49)) := (Below.refl _ _).alloc (Nat.le_refl _) _
  cases ht : tagB tag with
  | false =>
    go_enter Try.func147, Try.ntmps147
    go_wp2_with fail
    refine (tag_any tag _).mono ?_
    rintro e w1 ⟨rfl, rfl⟩
    rw [ht]
    go_wp2_with fail
    go_ret
    exact ⟨rfl, hW⟩
  | true =>
    cases hlb : lenB len with
    | false =>
      go_enter Try.func147, Try.ntmps147
      go_wp2_with fail
      refine (tag_any tag _).mono ?_
      rintro e w1 ⟨rfl, rfl⟩
      rw [ht]
      go_wp2_with fail
      refine (len_any len _).mono ?_
      rintro e w1 ⟨rfl, rfl⟩
      rw [hlb]
      go_wp2_with fail
      go_ret
      exact ⟨rfl, hW⟩
    | true =>
      go_enter Try.func147, Try.ntmps147
      go_wp2_with fail
      refine (tag_any tag _).mono ?_
      rintro e w1 ⟨rfl, rfl⟩
      rw [ht]
      go_wp2_with fail
      refine (len_any len _).mono ?_
      rintro e w1 ⟨rfl, rfl⟩
      rw [hlb]
      go_wp2_with fail
      refine (within_any n at_ len _ (by omega) (by omega) hl (by omega)).mono ?_
      rintro e w1 ⟨rfl, hb1⟩
      have hB := hW.trans (hb1.mono hW.size)
      clear hb1 hW
      cases hq : withinB n at_ len with
      | true =>
        go_wp2_with fail
        go_ret
        exact ⟨by rw [hq]; rfl, hB⟩
      | false =>
        go_wp2_with fail
        go_ret
        exact ⟨by rw [hq]; rfl, hB⟩
/-- do two stretches of bytes share one? -/
def overB (a al b bl : Int) : Bool := decide (a < b + bl) && decide (b < a + al)
theorem over_any (a al b bl : Int) (w : World) (h1 : 0 ≤ a) (h2 : a ≤ 100000) (h3 : 0 ≤ al) (h4 : al ≤ 100000) (h5 : 0 ≤ b) (h6 : b ≤ 100000) (h7 : 0 ≤ bl) (h8 : bl ≤ 100000) :
    Calls Try.prog 150 #[.agg #[.int .i64 a, .int .i64 al], .agg #[.int .i64 b, .int .i64 bl]] w fun e w' => e = .returned (.bool (overB a al b bl)) ∧ Below w.heap.size w w' := by
  have hW := ((Below.refl w.heap.size w).alloc (Nat.le_refl _) (.cells #[.int .i64 a, .int .i64 al] 38)).alloc (by simp) (.cells #[.int .i64 b, .int .i64 bl] 38)
  have s1 : IntKind.i64.wrap (b + bl) = b + bl := IntWalk.i64_in _ (by omega)
  have s2 : IntKind.i64.wrap (a + al) = a + al := IntWalk.i64_in _ (by omega)
  unfold overB
  by_cases hc : a < b + bl
  · go_enter Try.func150, Try.ntmps150
    go_wp2_with fail
    go_ret
    exact ⟨by simp [hc], hW⟩
  · go_enter Try.func150, Try.ntmps150
    go_wp2_with fail
    go_ret
    exact ⟨by simp; omega, hW⟩
theorem pred_izero : Pred 123 nonZero := by
  intro x w
  have hb := Hidden.mk (bv_bne x)
  go_enter Try.func123, Try.ntmps123
  go_wp2
  go_ret
  exact ⟨ret_bool hb.out, rfl⟩
theorem idxf_izero (A : Option Addr) (n c : Nat) (l : Bytes) (w : World) (hn : l.length = n) (hl : n ≤ maxLen) (hr : Rd w A l) :
    Calls Try.prog 146 #[.slice A n c, .func (.func 123) #[] #[]] w fun e w' => e = .returned (.int .i64 (idxP nonZero l)) ∧ w = w' := by
  subst hn
  unfold maxLen at hl
  have HP := Hidden.mk pred_izero
  generalize nonZero = p at HP ⊢
  go_enter Try.func146, Try.ntmps146
  go_wp2
  go_loopw [8] (fun i wr => w = wr ∧ ∃ k : Nat, k ≤ l.length ∧ i = .int .i64 k ∧ Hidden (∀ x ∈ l.take k, p x = false)) (fun i _ => l.length - (intOf i).toNat)
  case atStart => exact ⟨rfl, 0, Nat.zero_le _, rfl, ⟨by simp⟩⟩
  case round =>
    obtain ⟨rfl, k, hk, rfl, hnot⟩ := hrel
    by_cases hlt : k < l.length
    · obtain ⟨b, off, rfl, hc⟩ := hr k hlt
      go_wp2_with fail
      refine (HP.out _ _).mono ?_
      rintro e w1 ⟨rfl, rfl⟩
      cases he : p l[k] with
      | true =>
        have hi : Hidden (idxP p l = k) := ⟨idxP_at p l k hlt hnot.out he⟩
        clear he
        go_wp2
        go_ret
        exact ⟨ret_i64 hi.out.symm, rfl⟩
      | false =>
        have hnk : Hidden (∀ x ∈ l.take (k + 1), p x = false) := ⟨forall_take_succ hlt hnot.out he⟩
        clear he hnot
        go_wp2
        go_roundw
        case rel => exact ⟨by trivial, k + 1, by omega, by go_num, hnk⟩
        case measure => simp [intOf]; omega
    · have hi : Hidden (idxP p l = -1) := ⟨idxP_none p l (by have := hnot.out; rwa [List.take_of_length_le (by omega)] at this)⟩
      go_wp2
      go_ret
      exact ⟨ret_i64 hi.out.symm, rfl⟩
theorem izero_any (A : Option Addr) (n c : Nat) (l : Bytes) (w : World) (hn : l.length = n) (hl : n ≤ maxLen) (hr : Rd w A l) :
    Calls Try.prog 99 #[.slice A n c] w fun e w' => e = .returned (.bool (zeroE l)) ∧ w = w' := by
  have hv := Hidden.mk (idxP_any nonZero l)
  have hcf : Calls Try.prog 116 #[.slice A n c, .func (.func 123) #[] #[]] w fun e w' => e = .returned (.bool (l.any nonZero)) ∧ w = w' := by
    go_enter Try.func116, Try.ntmps116
    go_wp2_with fail
    refine (idxf_izero A n c l _ hn hl hr).mono ?_
    rintro e w1 ⟨rfl, rfl⟩
    go_wp2
    go_ret
    exact ⟨congrArg (fun b => Ending.returned (.bool b)) hv.out, rfl⟩
  have HC := Hidden.mk hcf
  clear hcf
  unfold zeroE
  go_enter Try.func99, Try.ntmps99
  go_wp2_with fail
  refine HC.out.mono ?_
  rintro e w1 ⟨rfl, rfl⟩
  go_wp2_with fail
  go_ret
  exact ⟨rfl, rfl⟩

theorem forall_take_succ' {α : Type} {l : List α} {k : Nat} {p : α → Bool} (hk : k < l.length) (h : ∀ x ∈ l.take k, p x = false) (hp : p l[k] = false) : ∀ x ∈ l.take (k + 1), p x = false := by
  intro x hx
  rw [List.take_succ_eq_append_getElem hk, List.mem_append, List.mem_singleton] at hx
  rcases hx with hx | rfl
  · exact h x hx
  · exact hp
/-- the slice at A has the entries L: the handle, the bytes -/
def RdEs (w : World) (A : Option Addr) (L : List (Int × Bytes)) : Prop := ∀ i (h : i < L.length), ∃ g off, A = some ⟨g, off, none⟩ ∧ w.cell? ⟨g, off + i * 4, none⟩ = some (.int .i64 L[i].1) ∧ w.cell? ⟨g, off + i * 4 + 1, none⟩ = some (.int .i64 (rAt L[i].2)) ∧
  w.cell? ⟨g, off + i * 4 + 2, none⟩ = some (.int .i64 (rLen L[i].2)) ∧ w.cell? ⟨g, off + i * 4 + 3, none⟩ = some (.int .i64 (rTag L[i].2))
theorem RdEs.below {w w' : World} {A : Option Addr} {L : List (Int × Bytes)} (h : RdEs w A L) (hb : Below w.heap.size w w') : RdEs w' A L := fun i hi => by
  obtain ⟨g, off, hA, c0, c1, c2, c3⟩ := h i hi
  exact ⟨g, off, hA, (hb.cell (block_lt_of_cell c0)).trans c0, (hb.cell (block_lt_of_cell c1)).trans c1, (hb.cell (block_lt_of_cell c2)).trans c2, (hb.cell (block_lt_of_cell c3)).trans c3⟩
theorem idxe_over (p : Int × Bytes → Bool) (A : Option Addr) (n c : Nat) (L : List (Int × Bytes)) (cap : Value) (w : World) (hn : L.length = n) (hl : n ≤ 1000) (hr : RdEs w A L)
    (hP : ∀ x ∈ L, ∀ W, Below w.heap.size w W → Calls Try.prog 149 #[entR x.1 x.2, cap] W fun e w' => e = .returned (.bool (p x)) ∧ Below W.heap.size W w') :
    Calls Try.prog 168 #[.slice A n c, .func (.func 149) #[] #[cap]] w fun e w' => ∃ z : Int, e = .returned (.int .i64 z) ∧ decide (0 ≤ z) = L.any p ∧ Below w.heap.size w w' := by
  subst hn
  have HP := Hidden.mk hP
  clear hP
  go_enter Try.func168, Try.ntmps168
  go_wp2_with fail
  go_loopw [8] (fun i wr => Below w.heap.size w wr ∧ ∃ k : Nat, k ≤ L.length ∧ i = .int .i64 k ∧ Hidden (∀ x ∈ L.take k, p x = false)) (fun i _ => L.length - (intOf i).toNat)
  case atStart => exact ⟨Below.refl _ _, 0, Nat.zero_le _, rfl, ⟨by simp⟩⟩
  case round =>
    obtain ⟨hbel, k, hk, rfl, hnot⟩ := hrel
    by_cases hlt : k < L.length
    · obtain ⟨b, off, rfl, c0, c1, c2, c3⟩ := (hr.below hbel) k hlt
      have hp := HP.out L[k] (List.getElem_mem hlt) wr hbel
      have HPK := Hidden.mk hp
      have HE : Hidden (entR L[k].1 L[k].2 = entV L[k].1 (rAt L[k].2) (rLen L[k].2) (rTag L[k].2)) := ⟨rfl⟩
      have i0 : (0 : Int) ≤ k := by omega
      have i1 : (k : Int) < L.length := by omega
      clear hp
      go_wp2_with fail
      refine (HPK.out).mono ?_
      rintro e w1 ⟨rfl, hb1⟩
      have hB1 := hbel.trans (hb1.mono hbel.size)
      cases he : p L[k] with
      | true =>
        have hi : Hidden (true = L.any p) := ⟨(List.any_eq_true.2 ⟨L[k], List.getElem_mem hlt, he⟩).symm⟩
        clear he hb1 hbel
        go_wp2_with fail
        go_ret
        exact ⟨_, rfl, by rw [← hi.out]; simp, hB1⟩
      | false =>
        have hnk : Hidden (∀ x ∈ L.take (k + 1), p x = false) := ⟨forall_take_succ' hlt hnot.out he⟩
        clear he hnot hb1 hbel
        go_wp2_with fail
        go_roundw
        case rel => exact ⟨hB1, k + 1, by omega, by go_num, hnk⟩
        case measure => simp [intOf]; omega
    · have hi : Hidden (false = L.any p) := ⟨by
        have := hnot.out
        rw [List.take_of_length_le (by omega)] at this
        symm; simpa using this⟩
      go_wp2_with fail
      go_ret
      exact ⟨-1, rfl, by rw [← hi.out]; rfl, hbel⟩
theorem cfe_over (p : Int × Bytes → Bool) (A : Option Addr) (n c : Nat) (L : List (Int × Bytes)) (cap : Value) (w : World) (hn : L.length = n) (hl : n ≤ 1000) (hr : RdEs w A L)
    (hP : ∀ x ∈ L, ∀ W, Below w.heap.size w W → Calls Try.prog 149 #[entR x.1 x.2, cap] W fun e w' => e = .returned (.bool (p x)) ∧ Below W.heap.size W w') :
    Calls Try.prog 148 #[.slice A n c, .func (.func 149) #[] #[cap]] w fun e w' => e = .returned (.bool (L.any p)) ∧ Below w.heap.size w w' := by
  have HC := Hidden.mk (idxe_over p A n c L cap w hn hl hr hP)
  clear hP
  go_enter Try.func148, Try.ntmps148
  go_wp2_with fail
  refine HC.out.mono ?_
  rintro e w1 ⟨z, rfl, hz, hb⟩
  have HZ := Hidden.mk hz
  clear hz
  go_wp2_with fail
  go_ret
  exact ⟨congrArg (fun b => Ending.returned (.bool b)) HZ.out, hb⟩
theorem idxe_leads (p : Int × Bytes → Bool) (A : Option Addr) (n c : Nat) (L : List (Int × Bytes)) (cap : Value) (w : World) (hn : L.length = n) (hl : n ≤ 1000) (hr : RdEs w A L)
    (hP : ∀ x ∈ L, ∀ W, Below w.heap.size w W → Calls Try.prog 151 #[entR x.1 x.2, cap] W fun e w' => e = .returned (.bool (p x)) ∧ Below W.heap.size W w') :
    Calls Try.prog 168 #[.slice A n c, .func (.func 151) #[] #[cap]] w fun e w' => ∃ z : Int, e = .returned (.int .i64 z) ∧ decide (0 ≤ z) = L.any p ∧ Below w.heap.size w w' := by
  subst hn
  have HP := Hidden.mk hP
  clear hP
  go_enter Try.func168, Try.ntmps168
  go_wp2_with fail
  go_loopw [8] (fun i wr => Below w.heap.size w wr ∧ ∃ k : Nat, k ≤ L.length ∧ i = .int .i64 k ∧ Hidden (∀ x ∈ L.take k, p x = false)) (fun i _ => L.length - (intOf i).toNat)
  case atStart => exact ⟨Below.refl _ _, 0, Nat.zero_le _, rfl, ⟨by simp⟩⟩
  case round =>
    obtain ⟨hbel, k, hk, rfl, hnot⟩ := hrel
    by_cases hlt : k < L.length
    · obtain ⟨b, off, rfl, c0, c1, c2, c3⟩ := (hr.below hbel) k hlt
      have hp := HP.out L[k] (List.getElem_mem hlt) wr hbel
      have HPK := Hidden.mk hp
      have HE : Hidden (entR L[k].1 L[k].2 = entV L[k].1 (rAt L[k].2) (rLen L[k].2) (rTag L[k].2)) := ⟨rfl⟩
      have i0 : (0 : Int) ≤ k := by omega
      have i1 : (k : Int) < L.length := by omega
      clear hp
      go_wp2_with fail
      refine (HPK.out).mono ?_
      rintro e w1 ⟨rfl, hb1⟩
      have hB1 := hbel.trans (hb1.mono hbel.size)
      cases he : p L[k] with
      | true =>
        have hi : Hidden (true = L.any p) := ⟨(List.any_eq_true.2 ⟨L[k], List.getElem_mem hlt, he⟩).symm⟩
        clear he hb1 hbel
        go_wp2_with fail
        go_ret
        exact ⟨_, rfl, by rw [← hi.out]; simp, hB1⟩
      | false =>
        have hnk : Hidden (∀ x ∈ L.take (k + 1), p x = false) := ⟨forall_take_succ' hlt hnot.out he⟩
        clear he hnot hb1 hbel
        go_wp2_with fail
        go_roundw
        case rel => exact ⟨hB1, k + 1, by omega, by go_num, hnk⟩
        case measure => simp [intOf]; omega
    · have hi : Hidden (false = L.any p) := ⟨by
        have := hnot.out
        rw [List.take_of_length_le (by omega)] at this
        symm; simpa using this⟩
      go_wp2_with fail
      go_ret
      exact ⟨-1, rfl, by rw [← hi.out]; rfl, hbel⟩
theorem cfe_leads (p : Int × Bytes → Bool) (A : Option Addr) (n c : Nat) (L : List (Int × Bytes)) (cap : Value) (w : World) (hn : L.length = n) (hl : n ≤ 1000) (hr : RdEs w A L)
    (hP : ∀ x ∈ L, ∀ W, Below w.heap.size w W → Calls Try.prog 151 #[entR x.1 x.2, cap] W fun e w' => e = .returned (.bool (p x)) ∧ Below W.heap.size W w') :
    Calls Try.prog 148 #[.slice A n c, .func (.func 151) #[] #[cap]] w fun e w' => e = .returned (.bool (L.any p)) ∧ Below w.heap.size w w' := by
  have HC := Hidden.mk (idxe_leads p A n c L cap w hn hl hr hP)
  clear hP
  go_enter Try.func148, Try.ntmps148
  go_wp2_with fail
  refine HC.out.mono ?_
  rintro e w1 ⟨z, rfl, hz, hb⟩
  have HZ := Hidden.mk hz
  clear hz
  go_wp2_with fail
  go_ret
  exact ⟨congrArg (fun b => Ending.returned (.bool b)) HZ.out, hb⟩
end Go.Proofs.Ytibogmoemohngaa
