/- Contracts and plain laws, put together: ViewPartsP, Rows2, SameN, View4, Told, Told2, Told3, ViewParts1. -/
import Derived.Test.YtmhlnbbnanehiaaDoorViewPartsFrameM3
import Derived.Test.YtmhlnbbnanehiaaDoorViewPartsFrameM1
import Derived.Deep.LoopGhost
import Derived.LaidEql
import Derived.Stop.Asserts
import Derived.RowKitTokens
/- ViewParts: the plain law: written in parts is written at once. -/
namespace Go.Proofs.YtmhlnbbnanehiaaDoor
open Go.RowKit Go.Maps Go.ChangeMaps

theorem drtS_two (S : Nat → Bool) (x k n : Nat) (hk : 0 < k) (hkn : k < n) : drtS (drtS S x k) (x + k) (n - k) = drtS S x n := by
  funext q
  rw [Bool.eq_iff_iff, drtS_iff, drtS_iff, drtS_iff]
  have e : x + k + (n - k) - 1 = x + n - 1 := by omega
  rw [e]
  constructor
  · rintro ((h | h | h) | h | h)
    · exact .inl h
    · exact .inr (.inl (by omega))
    · exact .inr (.inr h)
    · exact .inr (.inl (by omega))
    · exact .inr (.inl (by omega))
  · rintro (h | h | h)
    · exact .inl (.inl h)
    · by_cases hq : q ≤ (x + k - 1) / 32
      · exact .inl (.inr (.inl (by omega)))
      · exact .inr (.inl (by omega))
    · exact .inl (.inr (.inr h))
theorem drtS_sub (S : Nat → Bool) (x k n : Nat) (hk : 0 < k) (hkn : k ≤ n) : ∀ q, drtS S x k q = true → drtS S x n q = true := fun q h => by
  rw [drtS_iff] at h ⊢
  rcases h with h | h | h
  · exact .inl h
  · exact .inr (.inl (by omega))
  · exact .inr (.inr h)
theorem vhas_mk {N : Bytes} {x n : Nat} (h : x + n ≤ N.length) : vhas N (x : Int) (n : Int) = true := decide_eq_true ⟨by omega, by omega, by omega⟩
/-- so many bytes touch no more pages than may be -/
theorem cntS_run (x n : Nat) (_h : x + n ≤ 6400) (hn : 0 < n) : cntS (drtS (fun _ => false) x n) ≤ (x + n - 1) / 32 - x / 32 + 1 := by
  unfold cntS
  have hsub : ((List.range 200).filter (drtS (fun _ => false) x n)).length ≤ ((List.range 200).filter (fun q => decide (q - x / 32 < (x + n - 1) / 32 - x / 32 + 1 ∧ x / 32 ≤ q))).length := by
    rw [← List.countP_eq_length_filter, ← List.countP_eq_length_filter]
    refine List.countP_mono_left fun q _ hq => ?_
    rw [drtS_iff] at hq
    rcases hq with hq | hq | hq
    · cases hq
    · simp; omega
    · simp; omega
  refine Nat.le_trans hsub ?_
  have hnd : (((List.range 200).filter (fun q => decide (q - x / 32 < (x + n - 1) / 32 - x / 32 + 1 ∧ x / 32 ≤ q))).map (fun q => q - x / 32)).Nodup := by
    refine List.pairwise_map.2 ((List.nodup_range.filter _).imp_of_mem fun {a b} ha hb hne e => hne ?_)
    have h1 := (List.mem_filter.1 ha).2
    have h2 := (List.mem_filter.1 hb).2
    simp at h1 h2
    omega
  have := nodup_le ((x + n - 1) / 32 - x / 32 + 1) _ hnd (fun y hy => by
    obtain ⟨q, hq, rfl⟩ := List.mem_map.1 hy
    have h1 := (List.mem_filter.1 hq).2
    simp at h1
    omega)
  rwa [List.length_map] at this
section
variable {N : Bytes} {x k : Nat} {b : Bytes}
/-- the first part, and the second -/
theorem parts_ok (hN : N.length = 1664) (hk : k ≤ b.length) (h : wrVE N (fun _ => false) x b = 0) :
    wrVE N (fun _ => false) x (b.take k) = 0 ∧ wrVE (wrVN N (fun _ => false) x (b.take k)) (wrVS N (fun _ => false) x (b.take k)) ((x : Int) + k) (b.drop k) = 0 ∧
    wrVN (wrVN N (fun _ => false) x (b.take k)) (wrVS N (fun _ => false) x (b.take k)) ((x : Int) + k) (b.drop k) = wrVN N (fun _ => false) x b ∧
    wrVS (wrVN N (fun _ => false) x (b.take k)) (wrVS N (fun _ => false) x (b.take k)) ((x : Int) + k) (b.drop k) = wrVS N (fun _ => false) x b ∧ x + b.length ≤ N.length ∧
    ((wrVN N (fun _ => false) x b).drop x).take b.length = b := by
  have hv : vhas N x b.length = true := by
    cases hv : vhas N x b.length with
    | true => rfl
    | false => unfold wrVE at h; rw [if_pos hv] at h; cases h
  have hx := (vhas_nat hv).2
  rw [Int.toNat_natCast] at hx
  have l1 : (b.take k).length = k := by simp; omega
  have l2 : (b.drop k).length = b.length - k := by simp
  have e0 : (x : Int) + k = ((x + k : Nat) : Int) := by omega
  rw [e0]
  have hv1 : vhas N (x : Int) ((b.take k).length : Int) = true := by rw [l1]; exact vhas_mk (by omega)
  have hrd : ((wrVN N (fun _ => false) x b).drop x).take b.length = b := by
    by_cases hb : b.length = 0
    · rw [hb, List.take_zero]; exact (List.eq_nil_of_length_eq_zero hb).symm
    · unfold wrVN
      rw [if_pos ⟨h, hb⟩, Int.toNat_natCast]
      exact layB_read hx
  by_cases hk0 : k = 0
  · subst hk0
    have h1 : wrVE N (fun _ => false) x (b.take 0) = 0 := by unfold wrVE; rw [if_neg (by rw [hv1]; decide), if_pos l1]
    have h2 : wrVN N (fun _ => false) x (b.take 0) = N := by unfold wrVN; rw [if_neg (fun h => h.2 l1)]
    have h3 : wrVS N (fun _ => false) x (b.take 0) = fun _ => false := by unfold wrVS; rw [if_neg (fun h => h.2 l1)]
    rw [h1, h2, h3, Nat.add_zero, List.drop_zero]
    exact ⟨rfl, h, rfl, rfl, hx, hrd⟩
  have hb0 : b.length ≠ 0 := by omega
  have hc : cntS (drtS (fun _ => false) x b.length) ≤ 23 := by
    unfold wrVE at h
    rw [if_neg (by rw [hv]; decide), if_neg hb0, Int.toNat_natCast] at h
    by_cases hc : 23 < cntS (drtS (fun _ => false) x b.length)
    · rw [if_pos hc] at h; cases h
    · omega
  have hc1 : cntS (drtS (fun _ => false) x k) ≤ 23 := Nat.le_trans (cntS_mono (drtS_sub _ x k b.length (by omega) hk)) hc
  have h1 : wrVE N (fun _ => false) x (b.take k) = 0 := by
    unfold wrVE
    rw [if_neg (by rw [hv1]; decide), if_neg (by rw [l1]; exact hk0), Int.toNat_natCast, l1, if_neg (by omega)]
  have h2 : wrVN N (fun _ => false) x (b.take k) = layB N x (b.take k) := by unfold wrVN; rw [if_pos ⟨h1, by rw [l1]; exact hk0⟩, Int.toNat_natCast]
  have h3 : wrVS N (fun _ => false) x (b.take k) = drtS (fun _ => false) x k := by unfold wrVS; rw [if_pos ⟨h1, by rw [l1]; exact hk0⟩, Int.toNat_natCast, l1]
  have h4 : wrVN N (fun _ => false) x b = layB N x b := by unfold wrVN; rw [if_pos ⟨h, hb0⟩, Int.toNat_natCast]
  have h5 : wrVS N (fun _ => false) x b = drtS (fun _ => false) x b.length := by unfold wrVS; rw [if_pos ⟨h, hb0⟩, Int.toNat_natCast]
  have hl : (layB N x (b.take k)).length = N.length := layB_len (by omega)
  have hv2 : vhas (layB N x (b.take k)) ((x + k : Nat) : Int) ((b.drop k).length : Int) = true := by rw [l2]; exact vhas_mk (by omega)
  rw [h1, h2, h3, h4, h5]
  rw [h4] at hrd
  by_cases hkb : k = b.length
  · have l3 : (b.drop k).length = 0 := by omega
    have h6 : wrVE (layB N x (b.take k)) (drtS (fun _ => false) x k) ((x + k : Nat) : Int) (b.drop k) = 0 := by unfold wrVE; rw [if_neg (by rw [hv2]; decide), if_pos l3]
    have h7 : wrVN (layB N x (b.take k)) (drtS (fun _ => false) x k) ((x + k : Nat) : Int) (b.drop k) = layB N x (b.take k) := by unfold wrVN; rw [if_neg (fun h => h.2 l3)]
    have h8 : wrVS (layB N x (b.take k)) (drtS (fun _ => false) x k) ((x + k : Nat) : Int) (b.drop k) = drtS (fun _ => false) x k := by unfold wrVS; rw [if_neg (fun h => h.2 l3)]
    rw [h6, h7, h8, hkb, List.take_length]
    exact ⟨rfl, rfl, rfl, rfl, hx, hrd⟩
  · have l3 : (b.drop k).length ≠ 0 := by omega
    have hd := drtS_two (fun _ => false) x k b.length (by omega) (by omega)
    have h6 : wrVE (layB N x (b.take k)) (drtS (fun _ => false) x k) ((x + k : Nat) : Int) (b.drop k) = 0 := by
      unfold wrVE
      rw [if_neg (by rw [hv2]; decide), if_neg l3, Int.toNat_natCast, l2, hd, if_neg (by omega)]
    have h7 : wrVN (layB N x (b.take k)) (drtS (fun _ => false) x k) ((x + k : Nat) : Int) (b.drop k) = layB N x b := by
      unfold wrVN
      rw [if_pos ⟨h6, l3⟩, Int.toNat_natCast]
      exact layB_two k hk hx
    have h8 : wrVS (layB N x (b.take k)) (drtS (fun _ => false) x k) ((x + k : Nat) : Int) (b.drop k) = drtS (fun _ => false) x b.length := by
      unfold wrVS
      rw [if_pos ⟨h6, l3⟩, Int.toNat_natCast, l2, hd]
    rw [h6, h7, h8]
    exact ⟨rfl, rfl, rfl, rfl, hx, hrd⟩
/-- what Write refuses -/
theorem wrVE_or (hN : N.length = 1664) (hx : x ≤ 1664) : wrVE N (fun _ => false) x b = 0 ∨ (wrVE N (fun _ => false) x b = 1 ∧ 1664 - x < b.length) ∨ (wrVE N (fun _ => false) x b = 4 ∧ b.length ≤ 1664 - x ∧ 672 < b.length) := by
  unfold wrVE
  cases hv : vhas N x b.length with
  | false =>
    refine .inr (.inl ⟨by rw [if_pos rfl], ?_⟩)
    have := of_decide_eq_false (show decide (0 ≤ (x : Int) ∧ 0 ≤ (b.length : Int) ∧ (x : Int) + b.length ≤ N.length) = false from hv)
    omega
  | true =>
    have h1 := (vhas_nat hv).2
    rw [Int.toNat_natCast] at h1
    rw [if_neg (by decide)]
    by_cases hb : b.length = 0
    · exact .inl (by rw [if_pos hb])
    · rw [if_neg hb, Int.toNat_natCast]
      by_cases hc : 23 < cntS (drtS (fun _ => false) x b.length)
      · refine .inr (.inr ⟨by rw [if_pos hc], by omega, ?_⟩)
        have := cntS_run x b.length (by omega) (by omega)
        omega
      · exact .inl (by rw [if_neg hc])
end
theorem setF_none : setF (fun _ => false) = fun _ => none := by funext k; rfl
theorem cntS_none : cntS (fun _ => false) = 0 := by unfold cntS; simp
end Go.Proofs.YtmhlnbbnanehiaaDoor
/- Slices of the call's own, element by element. -/
namespace Go.Proofs.YtmhlnbbnanehiaaDoor
open Go.RowKit

theorem flat_at {X : Type} (f : X → List Value) (C : Nat) (hC : ∀ x, (f x).length = C) : ∀ (L : List X) (i : Nat) (h : i < L.length) (q : Nat), q < C → (L.flatMap f)[i * C + q]? = (f L[i])[q]?
  | [], i, h, _, _ => absurd h (by simp)
  | x :: r, 0, _, q, hq => by
    rw [List.flatMap_cons, Nat.zero_mul, Nat.zero_add, List.getElem?_append_left (by rw [hC]; exact hq)]; rfl
  | x :: r, i + 1, h, q, hq => by
    have hx := hC x
    rw [List.flatMap_cons, List.getElem?_append_right (by rw [hx, Nat.succ_mul]; omega), hx, show (i + 1) * C + q - C = i * C + q by rw [Nat.succ_mul]; omega]
    exact flat_at f C hC r i (by simpa using h) q hq
section
variable {X : Type} {f : X → List Value} {C : Nat} {w : World} {base : Nat} {e : TypeId} {v : Value} {A : Option Addr} {n c : Nat} {L : List X}
theorem own_at (hC : ∀ x, (f x).length = C) (h : w.ownsRow base e C (.slice A n c) n (L.flatMap f)) (k : Nat) (hk : k < L.length) (h0 : 0 < n) :
    ∃ g off, A = some ⟨g, off, none⟩ ∧ base ≤ g ∧ g < w.heap.size ∧ ∀ q u, (f L[k])[q]? = some u → w.cell? ⟨g, off + k * C + q, none⟩ = some u := by
  rcases h.2 with ⟨he, hn0⟩ | ⟨g, cap, cur, he, hb, hh, _⟩
  · omega
  · injection he with he
    subst he
    refine ⟨g, 0, rfl, hb, (Array.getElem?_eq_some_iff.1 hh).1, fun q u hq => ?_⟩
    have hqC : q < C := by rw [← hC L[k]]; exact (List.getElem?_eq_some_iff.1 hq).1
    have := h.cells (g := g) rfl (k * C + q) u (by rw [flat_at f C hC L k hk q hqC]; exact hq)
    rw [Addr.add_lit] at this
    rw [Nat.add_assoc]
    exact this
theorem own_split (h : w.ownsRow base e C v n (L.flatMap f)) : ∃ A c, v = .slice A n c ∧ n ≤ c ∧ c ≤ maxLen := by
  rcases h.2 with ⟨rfl, rfl⟩ | ⟨g, cap, cur, rfl, _, hh, hc, hm, _⟩
  · exact ⟨none, 0, rfl, Nat.le_refl _, by simp [maxLen]⟩
  · exact ⟨_, cap, rfl, hc, hm⟩
theorem own_rdX3 (hC : ∀ x, (f x).length = C) (hn : L.length = n) (h : w.ownsRow base e C (.slice A n c) n (L.flatMap f)) : RdX f C w A L := fun i hi => by
  obtain ⟨g, off, hA, _, _, hc⟩ := own_at hC h i hi (by omega)
  exact ⟨g, off, hA, hc⟩
end
structure Bel (w0 w : World) : Prop where
  out : Below w0.heap.size w0 w
theorem Bel.below {w0 w w' : World} (h : Bel w0 w) (hb : Below w.heap.size w w') : Bel w0 w' := ⟨h.out.trans (hb.mono h.out.size)⟩
structure RowW (w : World) (e g cap : Nat) (l : Bytes) : Prop where
  row : Row w e g cap l
theorem RowW.below {w w' : World} {e g cap : Nat} {l : Bytes} (h : RowW w e g cap l) (hb : Below w.heap.size w w') : RowW w' e g cap l := ⟨h.row.below hb h.row.lt⟩
structure OwnR (w : World) (base e size : Nat) (v : Value) (n : Nat) (xs : List Value) : Prop where
  own : w.ownsRow base e size v n xs
theorem OwnR.below {w w' : World} {base e size : Nat} {v : Value} {n : Nat} {xs : List Value} (h : OwnR w base e size v n xs) (hb : Below w.heap.size w w') : OwnR w' base e size v n xs := ⟨own_below h.own hb⟩
end Go.Proofs.YtmhlnbbnanehiaaDoor
/- vaultsame.Ints of lists that are the same. -/
namespace Go.Proofs.YtmhlnbbnanehiaaDoor
open Go.RowKit

def icell (i : Nat) : List Value := [.int .i64 (i : Int)]
set_option maxRecDepth 100000 in
theorem sameInts_eq (A B : Option Addr) (ca cb n : Nat) (L : List Nat) (w : World) (hn : L.length = n) (hl : n ≤ 100000) (hA : RdX icell 1 w A L) (hB : RdX icell 1 w B L) :
    Calls Tryd.prog 16 #[.slice A n ca, .slice B n cb] w fun e w' => e = .returned (.bool true) ∧ Below w.heap.size w w' := by
  have HA := Hidden.mk hA
  have HB := Hidden.mk hB
  have HN := Hidden.mk hn
  clear hA hB hn
  go_enter Tryd.func16, Tryd.ntmps16
  go_wp2_with fail
  go_loopg [5] n (fun m i wr => ∃ j : Nat, j ≤ n ∧ m = n - j ∧ i = .int .i64 (j : Int) ∧ Hidden (Below w.heap.size w wr))
  case atStart => exact ⟨0, by omega, rfl, rfl, ⟨Below.refl _ _⟩⟩
  case round =>
    obtain ⟨j, hj, rfl, rfl, hbel⟩ := hrel
    by_cases hlt : j < n
    · have hjl : j < L.length := by rw [HN.out]; exact hlt
      have hp' := (HA.out.below hbel.out) j hjl
      obtain ⟨p, off, rfl, hp'⟩ := hp'
      have hq' := (HB.out.below hbel.out) j hjl
      obtain ⟨q, oq, rfl, hq'⟩ := hq'
      have x0 := hp' 0 _ rfl
      have y0 := hq' 0 _ rfl
      rw [Nat.add_zero, Nat.mul_one] at x0 y0
      have k0 : (0 : Int) ≤ j := by omega
      have k1 : (j : Int) < n := by omega
      have s1 : IntKind.i64.wrap ((j : Int) + 1) = (j : Int) + 1 := IntWalk.i64_in _ (by omega)
      have hse : ((L[j] : Int) == (L[j] : Int)) = true := by simp
      generalize (L[j] : Int) = b0 at *
      clear hp' hq'
      go_wp2_with fail
      go_quiet (fail)
      clear x0 y0
      have hbn := Hidden.mk (below_drewN hbel.out nq)
      go_wp2_with fail
      go_roundg (n - (j + 1))
      case measure => omega
      case rel => exact ⟨j + 1, by omega, rfl, by go_num, hbn⟩
    · obtain rfl : j = n := by omega
      go_wp2_with fail
      go_ret
      exact ⟨rfl, hbel.out⟩
theorem own_ints {w : World} {base n : Nat} {v : Value} {L : List Nat} (h : w.ownsRow base 3 1 v n (L.map fun i : Nat => .int .i64 (i : Int))) (hn : L.length = n) : ∃ A c, v = .slice A n c ∧ n ≤ c ∧ RdX icell 1 w A L := by
  have e : (L.map fun i : Nat => Value.int .i64 (i : Int)) = L.flatMap icell := by
    rw [List.map_eq_flatMap]; rfl
  rw [e] at h
  obtain ⟨A, c, rfl, hc, -⟩ := own_split h
  exact ⟨A, c, rfl, hc, own_rdX3 (fun _ => rfl) hn h⟩
end Go.Proofs.YtmhlnbbnanehiaaDoor
/- Package view: Read. -/
namespace Go.Proofs.YtmhlnbbnanehiaaDoor
open Go.RowKit Go.Maps Go.ChangeMaps

section
variable {w : World} {G : Nat → Prop} {v p cnt : Nat} {K N : Bytes} {f : Nat → Option Value}
/-- what Read answers -/
def VrAns (w : World) (N : Bytes) (x n : Int) (e : Ending) (w' : World) : Prop :=
  if vhas N x n = true then ∃ g cap, e = .returned (.tuple #[.slice (some ⟨g, 0, none⟩) n.toNat cap, .nilIface]) ∧ w.heap.size ≤ g ∧ Row w' 5 g cap ((N.drop x.toNat).take n.toNat) ∧ Below w.heap.size w w'
  else e = .returned (.tuple #[.slice none 0 0, .iface 103 (.int .i64 1)]) ∧ w = w'
set_option maxRecDepth 100000 in
theorem vread_any (h : VwH w G v p K N f cnt) (hN : N.length ≤ 6400) (x n : Int) : Calls Tryd.prog 15 #[.pointer (some ⟨v, 0, none⟩), .int .i64 x, .int .i64 n] w (VrAns w N x n) := by
  have HH := Hidden.mk (vhas_any h hN x n)
  obtain ⟨gk, ck, gn, cn, bm, h0, -, hr, -⟩ := h
  obtain ⟨c0, c1, c2, c3⟩ := four h0
  clear h0
  have HR := Hidden.mk hr
  clear hr
  unfold VrAns
  cases hv : vhas N x n
  · simp only [Bool.false_eq_true, if_false]
    rw [hv] at HH
    clear hv
    go_enter Tryd.func15, Tryd.ntmps15
    go_wp2_with fail
    refine HH.out.mono ?_
    rintro e w' ⟨rfl, rfl⟩
    go_wp2_with fail
    go_ret2
    exact ⟨rfl, rfl⟩
  · simp only [if_true]
    rw [hv] at HH
    have hx := of_decide_eq_true (show decide (0 ≤ x ∧ 0 ≤ n ∧ x + n ≤ N.length) = true from hv)
    obtain ⟨a, rfl⟩ := Int.eq_ofNat_of_zero_le hx.1
    obtain ⟨m, rfl⟩ := Int.eq_ofNat_of_zero_le hx.2.1
    have hxm : a + m ≤ N.length := by have := hx.2.2; omega
    clear hv hx
    rw [Int.toNat_natCast, Int.toNat_natCast]
    have hcn : N.length ≤ cn := by obtain ⟨cur, -, q, -⟩ := HR.out; exact q
    have s1 : IntKind.i64.wrap ((a : Int) + m) = (a : Int) + m := IntWalk.i64_in _ (by omega)
    have hcut := fun W => run_cutA (some ⟨gn, 0, none⟩) N.length cn a (a + m) (by omega) (by omega) W
    have hrc := HR.out.rd.cutIf a m cn hxm hcn
    have hml : a + m - a = m := by omega
    rw [hml] at hcut
    have hsm : ∃ ad : Addr, (if cn = a then (some (⟨gn, 0, none⟩ : Addr)) else (some (⟨gn, 0, none⟩ : Addr)).map (·.add a)) = some ad := by
      by_cases h : cn = a
      · exact ⟨_, if_pos h⟩
      · exact ⟨_, if_neg h⟩
    obtain ⟨ad, had⟩ := hsm
    have hcut2 : ∀ W, (Instr.sliceAt 22 (.slice (some ⟨gn, 0, none⟩) N.length cn) (some (.int .i64 a)) (some (.int .i64 ((a : Int) + (m : Int)))) none).run Tryd.prog W = .ok (.slice (some ad) m (cn - a)) W := fun W => by rw [← had, show (a : Int) + (m : Int) = ((a + m : Nat) : Int) by omega]; exact hcut W
    rw [had] at hrc
    have HC := Hidden.mk (clone_some ad m (cn - a) ((N.drop a).take m) w (by simp; omega) (by omega) hrc)
    clear hcut hrc had hml
    go_enter Tryd.func15, Tryd.ntmps15
    go_wp2_with fail
    refine HH.out.mono ?_
    rintro e w' ⟨rfl, rfl⟩
    go_wp2_with fail
    refine HC.out.mono ?_
    rintro e w2 ⟨g, cap, rfl, hg, hr, hb⟩
    have HF := Hidden.mk (And.intro hg (And.intro hr hb))
    clear hg hr hb
    go_wp2_with fail
    go_ret2
    exact ⟨g, cap, rfl, HF.out⟩
end
end Go.Proofs.YtmhlnbbnanehiaaDoor
/- The contracts of errors.As at a target that points to an api.Errno, of plain.Told and of vaultsame.Error. After the guide's worked example on errors.As at a concrete target. -/
namespace Go.Proofs.YtmhlnbbnanehiaaDoor
open Go.RowKit Go.Extern.Stop Go.Stop Go.Extern

/-- errors.As(nil, target) -/
theorem as_nil (t : Value) (w : World) :
    Calls Tryd.prog 88 #[.nilIface, t] w fun e w' => e = .returned (.bool false) ∧ w' = w := by
  go_enter Tryd.func88, Tryd.ntmps88
  go_wp2
  go_ret
  exact ⟨rfl, rfl⟩

theorem rl_valueOfP (t : Addr) (w : World) : (ReflectliteValue.unpack (.iface 146 (.pointer (some t)))).run Tryd.prog w
    = .ok (.agg #[.pointer (some ⟨1, 146, none⟩), .pointer (some ⟨w.heap.size, 0, none⟩), .int .u64 150]) (w.alloc (.cells #[.pointer (some t)] 146)) := by kernel_rfl
theorem rl_typeP (a : Addr) (w : World) : (ReflectliteValue.methodAny (ReflectliteValue.valueError "reflectlite.Value.Type" 0) (fun t _ _ _ => ReflectliteType.toType t) #[.agg #[.pointer (some ⟨1, 146, none⟩), .pointer (some a), .int .u64 150]]).run Tryd.prog w
    = .ok (.iface 173 (.agg #[.pointer (some ⟨1, 146, none⟩)])) w := by kernel_rfl
theorem rl_kindP (w : World) : ((ReflectliteType.abiMethod fun t => (fun a : Nat => Value.int IntKind.u8 (a : Int)) <$> Rtype.kind t) #[.pointer (some ⟨1, 146, none⟩)]).run Tryd.prog w = .ok (.int .u8 22) w := by kernel_rfl
theorem rl_kindE (w : World) : ((ReflectliteType.abiMethod fun t => (fun a : Nat => Value.int IntKind.u8 (a : Int)) <$> Rtype.kind t) #[.pointer (some ⟨1, 103, none⟩)]).run Tryd.prog w = .ok (.int .u8 2) w := by kernel_rfl
theorem rl_m (z : Sem Value) (f : TypeId → Addr → Nat → Nat → Sem Value) (v : Value) :
    ReflectliteValue.method z f #[v] = (do match ← ReflectliteValue.parts v with | none => z | some (t, a, fl) => f t a fl (fl % 32)) := rfl
theorem rl_partsP (a : Addr) (w : World) : (ReflectliteValue.parts (.agg #[.pointer (some ⟨1, 146, none⟩), .pointer (some a), .int .u64 150])).run Tryd.prog w = .ok (some (146, a, 150)) w := by kernel_rfl
theorem rl_isNilP (a p : Addr) (W : World) (ha : W.cell? a = some (.pointer (some p))) :
    (ReflectliteValue.method (ReflectliteValue.valueError "reflectlite.Value.IsNil" 0) ReflectliteValue.isNil #[.agg #[.pointer (some ⟨1, 146, none⟩), .pointer (some a), .int .u64 150]]).run Tryd.prog W = .ok (.bool false) W := by
  rw [rl_m]
  simp only [Sem.run_bind, rl_partsP, Result.andThen]
  simp [ReflectliteValue.isNil, loadVar, isAgg, underlying, Tryd.underlying146, ha, Result.andThen]
theorem rl_elemP (w : World) : (ReflectliteType.method ReflectliteType.elem #[.agg #[.pointer (some ⟨1, 146, none⟩)]]).run Tryd.prog w = .ok (.iface 173 (.agg #[.pointer (some ⟨1, 103, none⟩)])) w := by kernel_rfl
theorem rl_implE (w : World) : (ReflectliteType.relation "Implements" ReflectliteType.implements_ #[.agg #[.pointer (some ⟨1, 103, none⟩)], .iface 173 (.agg #[.pointer (some ⟨1, 25, none⟩)])]).run Tryd.prog w = .ok (.bool true) w := by kernel_rfl
theorem rl_typeOfE (v : Value) (w : World) : (ReflectliteType.typeOf #[.iface 103 v]).run Tryd.prog w = .ok (.iface 173 (.agg #[.pointer (some ⟨1, 103, none⟩)])) w := by kernel_rfl
theorem rl_assignE (w : World) : (ReflectliteType.relation "AssignableTo" ReflectliteType.assignableTo #[.agg #[.pointer (some ⟨1, 103, none⟩)], .iface 173 (.agg #[.pointer (some ⟨1, 103, none⟩)])]).run Tryd.prog w = .ok (.bool true) w := by kernel_rfl
theorem rl_valueOfE (k : Int) (w : World) : (ReflectliteValue.unpack (.iface 103 (.int .i64 k))).run Tryd.prog w
    = .ok (.agg #[.pointer (some ⟨1, 103, none⟩), .pointer (some ⟨w.heap.size, 0, none⟩), .int .u64 130]) (w.alloc (.cells #[.int .i64 k] 103)) := by kernel_rfl
theorem rl_elemOfP (w : World) : (Rtype.elem? 146).run Tryd.prog w = .ok (some 103) w := by kernel_rfl
theorem rl_mkE (p : Addr) (w : World) : (ReflectliteValue.mk 103 p ReflectliteValue.flagAddr).run Tryd.prog w = .ok (.agg #[.pointer (some ⟨1, 103, none⟩), .pointer (some p), .int .u64 386]) w := by kernel_rfl
theorem rl_elemVP (a p : Addr) (W : World) (ha : W.cell? a = some (.pointer (some p))) :
    (ReflectliteValue.method (ReflectliteValue.valueError "reflectlite.Value.Elem" 0) ReflectliteValue.elem #[.agg #[.pointer (some ⟨1, 146, none⟩), .pointer (some a), .int .u64 150]]).run Tryd.prog W
      = .ok (.agg #[.pointer (some ⟨1, 103, none⟩), .pointer (some p), .int .u64 386]) W := by
  rw [rl_m]
  simp only [Sem.run_bind, rl_partsP, Result.andThen]
  simp [ReflectliteValue.elem, loadVar, isAgg, underlying, Tryd.underlying146, ha, Result.andThen, rl_elemOfP, rl_mkE]
theorem rl_s (v x : Value) : ReflectliteValue.set #[v, x] = (do
    let (some (dst, a, fl), some (src, b, _)) := (← ReflectliteValue.parts v, ← ReflectliteValue.parts x)
      | unsupported (.noEntry "extern/(internal/reflectlite.Value).Set.zeroValue")
    if fl / ReflectliteValue.flagAddr % 2 == 0 then unsupported (.noEntry "extern/(internal/reflectlite.Value).Set.unaddressable")
    let val ← loadVar src b
    if ← Rtype.directlyAssignable dst src then storeVar dst a val
    else if ← Rtype.implements dst src then
      if (← Rtype.kind src) == 20 then
        match val with
        | .nilIface => unsupported (.noEntry "extern/reflectlite: a nil value of one interface type handed on as a value of another")
        | _ => storeVar dst a val
      else storeVar dst a (.iface src val)
    else panicString ("reflectlite.Set: value of type " ++ (← Rtype.spelt src) ++ " is not assignable to type " ++ (← Rtype.spelt dst))
    pure (.tuple #[])) := rfl
theorem rl_partsEa (a : Addr) (w : World) : (ReflectliteValue.parts (.agg #[.pointer (some ⟨1, 103, none⟩), .pointer (some a), .int .u64 386])).run Tryd.prog w = .ok (some (103, a, 386)) w := by kernel_rfl
theorem rl_partsE (a : Addr) (w : World) : (ReflectliteValue.parts (.agg #[.pointer (some ⟨1, 103, none⟩), .pointer (some a), .int .u64 130])).run Tryd.prog w = .ok (some (103, a, 130)) w := by kernel_rfl
theorem rl_directE (w : World) : (Rtype.directlyAssignable 103 103).run Tryd.prog w = .ok true w := by kernel_rfl
theorem rl_setE (ta b : Addr) (k : Int) (old : Value) (W : World) (hb : W.cell? b = some (.int .i64 k)) (ht : W.cell? ta = some old) (hf : W.frozen? ta = false) :
    (ReflectliteValue.set #[.agg #[.pointer (some ⟨1, 103, none⟩), .pointer (some ta), .int .u64 386], .agg #[.pointer (some ⟨1, 103, none⟩), .pointer (some b), .int .u64 130]]).run Tryd.prog W
      = .ok (.tuple #[]) (W.setCell ta (.int .i64 k)) := by
  rw [rl_s]
  simp only [Sem.run_bind, rl_partsEa, rl_partsE, Result.andThen]
  simp [ReflectliteValue.flagAddr, loadVar, isAgg, underlying, Tryd.underlying103, hb, Result.andThen, rl_directE, storeVar, Value.cells, storeCells, Addr.add]
  rw [run_store Tryd.prog W ta _ _ (by rfl)]
  simp [ht, hf]

/-- what the row's condition gives: the variable errors.errorType -/
def HasType (w : World) : Prop := w.cell? ⟨0, 0, none⟩ = some (.iface 173 (.agg #[.pointer (some ⟨1, 25, none⟩)]))
theorem HasType.below {B : Nat} {w w' : World} (h : HasType w) (hB : 0 < B) (hb : Below B w w') : HasType w' := (hb.cell (p := ⟨0, 0, none⟩) hB).trans h
theorem HasType.lt {w : World} (h : HasType w) : 0 < w.heap.size := block_lt_of_cell h
end Go.Proofs.YtmhlnbbnanehiaaDoor
/- The contracts of errors.As at a target that points to an api.Errno, of plain.Told and of vaultsame.Error. -/
namespace Go.Proofs.YtmhlnbbnanehiaaDoor
open Go.RowKit Go.Extern.Stop Go.Stop Go.Extern

theorem rl_methKind (n : Nat) (h : Value) (w : World) : (Go.method (n + 1) 173 (.agg #[h]) "Kind").run Tryd.prog w = .ok (155, h) w := by kernel_rfl
theorem rl_methElem (n : Nat) (h : Value) (w : World) : (Go.method (n + 1) 173 (.agg #[h]) "Elem").run Tryd.prog w = .ok (165, .agg #[h]) w := by kernel_rfl
theorem rl_methImpl (n : Nat) (h : Value) (w : World) : (Go.method (n + 1) 173 (.agg #[h]) "Implements").run Tryd.prog w = .ok (166, .agg #[h]) w := by kernel_rfl
theorem rl_methAssign (n : Nat) (h : Value) (w : World) : (Go.method (n + 1) 173 (.agg #[h]) "AssignableTo").run Tryd.prog w = .ok (163, .agg #[h]) w := by kernel_rfl

set_option maxRecDepth 100000 in
set_option maxHeartbeats 4000000 in
theorem as_errno (k : Int) (t : Addr) (old : Value) (w : World) (hg : HasType w) (ht0 : w.cell? t = some old) (hf0 : w.frozen? t = false) :
    Calls Tryd.prog 88 #[.iface 103 (.int .i64 k), .iface 146 (.pointer (some t))] w fun ev w' => ev = .returned (.bool true) ∧ w' = ((((w.alloc (.cells #[.pointer (some t)] 146)).alloc (.cells #[.pointer (some ⟨1, 146, none⟩), .pointer (some ⟨w.heap.size, 0, none⟩), .int .u64 150] 158)).alloc (.cells #[.pointer (some ⟨1, 146, none⟩), .pointer (some ⟨w.heap.size, 0, none⟩), .int .u64 150] 158)).alloc (.cells #[.int .i64 k] 103)).setCell t (.int .i64 k) := by
  have h6 := @run_callFunc_extern Tryd.prog 99 _ (fun args => ReflectliteValue.unpack (args.getD 0 (.tuple #[]))) Tryd.func99 (by kernel_rfl) (by kernel_rfl) (by kernel_rfl) (by kernel_rfl)
  have h7 := @run_callFunc_extern Tryd.prog 100 _ (ReflectliteValue.methodAny (ReflectliteValue.valueError "reflectlite.Value.Type" 0) (fun t _ _ _ => ReflectliteType.toType t)) Tryd.func100 (by kernel_rfl) (by kernel_rfl) (by kernel_rfl) (by kernel_rfl)
  have h8 := @run_callFunc_extern Tryd.prog 101 _ (ReflectliteValue.method (ReflectliteValue.valueError "reflectlite.Value.IsNil" 0) ReflectliteValue.isNil) Tryd.func101 (by kernel_rfl) (by kernel_rfl) (by kernel_rfl) (by kernel_rfl)
  have h27 := @run_callFunc_extern Tryd.prog 155 _ (ReflectliteType.abiMethod fun t => do pure (.int .u8 (← Rtype.kind t))) Tryd.func155 (by kernel_rfl) (by kernel_rfl) (by kernel_rfl) (by kernel_rfl)
  have h37 := @run_callFunc_extern Tryd.prog 165 _ (ReflectliteType.method ReflectliteType.elem) Tryd.func165 (by kernel_rfl) (by kernel_rfl) (by kernel_rfl) (by kernel_rfl)
  have h38 := @run_callFunc_extern Tryd.prog 166 _ (ReflectliteType.relation "Implements" ReflectliteType.implements_) Tryd.func166 (by kernel_rfl) (by kernel_rfl) (by kernel_rfl) (by kernel_rfl)
  have h10 := @run_callFunc_extern Tryd.prog 109 _ ReflectliteType.typeOf Tryd.func109 (by kernel_rfl) (by kernel_rfl) (by kernel_rfl) (by kernel_rfl)
  have h35 := @run_callFunc_extern Tryd.prog 163 _ (ReflectliteType.relation "AssignableTo" ReflectliteType.assignableTo) Tryd.func163 (by kernel_rfl) (by kernel_rfl) (by kernel_rfl) (by kernel_rfl)
  have h11 := @run_callFunc_extern Tryd.prog 110 _ (ReflectliteValue.method (ReflectliteValue.valueError "reflectlite.Value.Elem" 0) ReflectliteValue.elem) Tryd.func110 (by kernel_rfl) (by kernel_rfl) (by kernel_rfl) (by kernel_rfl)
  have h12 := @run_callFunc_extern Tryd.prog 111 _ ReflectliteValue.set Tryd.func111 (by kernel_rfl) (by kernel_rfl) (by kernel_rfl) (by kernel_rfl)
  have tO := rl_typeOfE
  have aE := rl_assignE
  have vE := rl_valueOfE
  have f6 := rl_valueOfP
  have f7 := rl_typeP
  have mK := rl_methKind
  have mE := rl_methElem
  have mI := rl_methImpl
  have mA := rl_methAssign
  have kP := rl_kindP
  have kE := rl_kindE
  have eP := rl_elemP
  have iE := rl_implE
  have n8 := rl_isNilP ⟨w.heap.size, 0, none⟩ t ((w.alloc (.cells #[.pointer (some t)] 146)).alloc (.cells #[.pointer (some ⟨1, 146, none⟩), .pointer (some ⟨w.heap.size, 0, none⟩), .int .u64 150] 158)) (by simp)
  have hlt : 0 < w.heap.size := hg.lt
  unfold HasType at hg
  have hg2 : ((w.alloc (.cells #[.pointer (some t)] 146)).alloc (.cells #[.pointer (some ⟨1, 146, none⟩), .pointer (some ⟨w.heap.size, 0, none⟩), .int .u64 150] 158)).cell? ⟨0, 0, none⟩ = some (.iface 173 (.agg #[.pointer (some ⟨1, 25, none⟩)])) := by
    rw [World.cell?_alloc_lt _ _ ⟨0, 0, none⟩ (by simp), World.cell?_alloc_lt _ _ ⟨0, 0, none⟩ hlt]; exact hg
  have htl : t.block < w.heap.size := by
    rcases Nat.lt_or_ge t.block w.heap.size with h | h
    · exact h
    · simp [World.cell?, Array.getElem?_eq_none h] at ht0
  have el := rl_elemVP ⟨w.heap.size, 0, none⟩ t (((w.alloc (.cells #[.pointer (some t)] 146)).alloc (.cells #[.pointer (some ⟨1, 146, none⟩), .pointer (some ⟨w.heap.size, 0, none⟩), .int .u64 150] 158)).alloc (.cells #[.pointer (some ⟨1, 146, none⟩), .pointer (some ⟨w.heap.size, 0, none⟩), .int .u64 150] 158)) (by rw [World.cell?_alloc_lt _ _ ⟨w.heap.size, 0, none⟩ (by simp; omega)]; simp)
  have st := rl_setE t ⟨w.heap.size + 1 + 1 + 1, 0, none⟩ k old ((((w.alloc (.cells #[.pointer (some t)] 146)).alloc (.cells #[.pointer (some ⟨1, 146, none⟩), .pointer (some ⟨w.heap.size, 0, none⟩), .int .u64 150] 158)).alloc (.cells #[.pointer (some ⟨1, 146, none⟩), .pointer (some ⟨w.heap.size, 0, none⟩), .int .u64 150] 158)).alloc (.cells #[.int .i64 k] 103))
    (by rw [World.cell?_alloc_at _ _ _ _ (by simp)]; rfl)
    (by rw [World.cell?_alloc_lt _ _ t (by simp; omega), World.cell?_alloc_lt _ _ t (by simp; omega), World.cell?_alloc_lt _ _ t (by simp; omega), World.cell?_alloc_lt _ _ t htl]; exact ht0)
    (by rw [World.frozen?_alloc_old _ _ t (by simp; omega), World.frozen?_alloc_old _ _ t (by simp; omega), World.frozen?_alloc_old _ _ t (by simp; omega), World.frozen?_alloc_old _ _ t (Nat.ne_of_lt htl)]; exact hf0)
  go_enter Tryd.func88, Tryd.ntmps88
  go_wp2
  refine wp_loop_rounds 1 ?_
  rw [rounds_succ]
  go_wp2
  go_ret
  exact ⟨rfl, rfl⟩
end Go.Proofs.YtmhlnbbnanehiaaDoor
/- The contracts of plain.Told and of vaultsame.Error. -/
namespace Go.Proofs.YtmhlnbbnanehiaaDoor
open Go.RowKit

theorem told_nil (w : World) : Calls Tryd.prog 64 #[.nilIface] w fun e w' => e = .returned (.int .i64 0) ∧ w = w' := by
  go_enter Tryd.func64, Tryd.ntmps64
  go_wp2_with fail
  go_ret
  exact ⟨rfl, rfl⟩
theorem told_errno (k : Int) (w : World) (hg : HasType w) : Calls Tryd.prog 64 #[.iface 103 (.int .i64 k)] w fun e w' => e = .returned (.int .i64 k) ∧ Below w.heap.size w w' := by
  have hW : Below w.heap.size w (w.alloc (.cells #[.int .i64 0] 103)) := (Below.refl _ _).alloc (Nat.le_refl _) _
  have hg1 := hg.below hg.lt hW
  have HC := Hidden.mk (as_errno k ⟨w.heap.size, 0, none⟩ (.int .i64 0) _ hg1 (by simp) (by simp))
  clear hg1
  go_enter Tryd.func64, Tryd.ntmps64
  go_wp2_with fail
  refine HC.out.mono ?_
  rintro e w' ⟨rfl, hw'⟩
  have hB : Below w.heap.size w w' := by
    rw [hw']
    exact ((((hW.alloc hW.size _).alloc (by simp; omega) _).alloc (by simp; omega) _).alloc (by simp; omega) _).setCell (p := ⟨w.heap.size, 0, none⟩) (Nat.le_refl _) _
  have hc : w'.cell? ⟨w.heap.size, 0, none⟩ = some (.int .i64 k) := by
    rw [hw']
    refine World.cell?_setCell_same' _ _ _ ?_
    rw [(((((Below.refl _ (w.alloc (.cells #[.int .i64 0] 103))).alloc (Nat.le_refl _) _).alloc (by simp) _).alloc (by simp) _).alloc (by simp) _).cell (p := ⟨w.heap.size, 0, none⟩) (by simp)]
    simp
  clear hw' HC hW
  go_wp2_with fail
  go_ret
  exact ⟨rfl, hB⟩
theorem err_nil (x : Int) (w : World) : Calls Tryd.prog 14 #[.nilIface, .int .i64 x] w fun e w' => e = .returned (.bool ((0 : Int) == x)) ∧ Below w.heap.size w w' := by
  go_enter Tryd.func14, Tryd.ntmps14
  go_wp2_with fail
  refine (told_nil _).mono ?_
  rintro e w' ⟨rfl, rfl⟩
  go_wp2_with fail
  go_ret
  exact ⟨rfl, Below.refl _ _⟩
theorem err_some (k x : Int) (w : World) (hg : HasType w) : Calls Tryd.prog 14 #[.iface 103 (.int .i64 k), .int .i64 x] w fun e w' => e = .returned (.bool (k == x)) ∧ Below w.heap.size w w' := by
  go_enter Tryd.func14, Tryd.ntmps14
  go_wp2_with fail
  refine (told_errno k _ hg).mono ?_
  rintro e w' ⟨rfl, hb⟩
  go_wp2_with fail
  go_ret
  exact ⟨rfl, hb⟩
/-- .. of an error that is nil or a number -/
theorem err_any (n : Nat) (x : Int) (w : World) (hg : HasType w) : Calls Tryd.prog 14 #[errV n, .int .i64 x] w fun e w' => e = .returned (.bool ((n : Int) == x)) ∧ Below w.heap.size w w' := by
  unfold errV
  by_cases h : n = 0
  · rw [if_pos h, h]; exact err_nil x w
  · rw [if_neg h]; exact err_some n x w hg
end Go.Proofs.YtmhlnbbnanehiaaDoor
/- ViewParts: the walk. -/
namespace Go.Proofs.YtmhlnbbnanehiaaDoor
open Go.RowKit Go.Maps Go.ChangeMaps

theorem VwH.lt {w : World} {G : Nat → Prop} {v p cnt : Nat} {K N : Bytes} {f : Nat → Option Value} (h : VwH w G v p K N f cnt) : ∀ q, G q → q < w.heap.size := by
  obtain ⟨gk, ck, gn, cn, bm, h0, h1, h2, h3, h4, h5⟩ := h
  intro q hq
  rcases (h5 q).1 hq with rfl | rfl | rfl | rfl
  · exact (Array.getElem?_eq_some_iff.1 h0).1
  · exact h1.lt
  · exact h2.lt
  · exact h4.lt
/-- two views, beside each other -/
structure Vw2 (w0 w : World) (G1 G2 : Nat → Prop) (v1 v2 p : Nat) (K N1 N2 : Bytes) (S1 S2 : Nat → Bool) : Prop where
  a : VwH w G1 v1 p K N1 (setF S1) (cntS S1)
  b : VwH w G2 v2 p K N2 (setF S2) (cntS S2)
  dj : ∀ q, G1 q → ¬ G2 q
  na : ∀ q, G1 q → w0.heap.size ≤ q
  nb : ∀ q, G2 q → w0.heap.size ≤ q
  bel : Below w0.heap.size w0 w
  sa : ∀ k, S1 k = true → k < 200
  sb : ∀ k, S2 k = true → k < 200
section
variable {w0 w w' : World} {G1 G2 G' : Nat → Prop} {v1 v2 p : Nat} {K N1 N2 N' : Bytes} {S1 S2 S' : Nat → Bool}
theorem Vw2.below (h : Vw2 w0 w G1 G2 v1 v2 p K N1 N2 S1 S2) (hb : Below w.heap.size w w') : Vw2 w0 w' G1 G2 v1 v2 p K N1 N2 S1 S2 :=
  ⟨h.a.below hb, h.b.below hb, h.dj, h.na, h.nb, h.bel.trans (hb.mono h.bel.size), h.sa, h.sb⟩
theorem Vw2.one (h : Vw2 w0 w G1 G2 v1 v2 p K N1 N2 S1 S2) (ha : VwH w' G' v1 p K N' (setF S') (cntS S')) (hk : Keep G1 w w') (hG : ∀ q, G' q → G1 q ∨ w.heap.size ≤ q) (hS : ∀ k, S' k = true → k < 200) : Vw2 w0 w' G' G2 v1 v2 p K N' N2 S' S2 :=
  ⟨ha, h.b.keep hk (fun q hq hf => h.dj q hf hq), fun q hq h2 => by
    rcases hG q hq with h' | h'
    · exact h.dj q h' h2
    · have := h.b.lt q h2; omega, fun q hq => by
    rcases hG q hq with h' | h'
    · exact h.na q h'
    · exact Nat.le_trans h.bel.size h', h.nb, h.bel.trans (hk.below h.bel.size h.na), hS, h.sb⟩
theorem Vw2.two (h : Vw2 w0 w G1 G2 v1 v2 p K N1 N2 S1 S2) (hb : VwH w' G' v2 p K N' (setF S') (cntS S')) (hk : Keep G2 w w') (hG : ∀ q, G' q → G2 q ∨ w.heap.size ≤ q) (hS : ∀ k, S' k = true → k < 200) : Vw2 w0 w' G1 G' v1 v2 p K N1 N' S1 S' :=
  ⟨h.a.keep hk (fun q hq hf => h.dj q hq hf), hb, fun q hq h2 => by
    rcases hG q h2 with h' | h'
    · exact h.dj q hq h'
    · have := h.a.lt q hq; omega, h.na, fun q hq => by
    rcases hG q hq with h' | h'
    · exact h.nb q h'
    · exact Nat.le_trans h.bel.size h', h.bel.trans (hk.below h.bel.size h.nb), h.sa, hS⟩
end
theorem keys_inj {f : Nat → Option Value} {S T : List Nat} (h1 : KeysOf f S) (h2 : KeysOf f T) : S = T := by
  have hp : S.Perm T := (List.perm_ext_iff_of_nodup (h1.up.imp (fun h => Nat.ne_of_lt h)) (h2.up.imp (fun h => Nat.ne_of_lt h))).2 fun x => by rw [h1.mem, h2.mem]
  exact List.Perm.eq_of_pairwise (le := fun a b : Nat => a < b) (fun a b _ _ h1 h2 => by omega) h1.up h2.up hp
theorem vread_yes {w : World} {G : Nat → Prop} {v p cnt : Nat} {K N : Bytes} {f : Nat → Option Value} (h : VwH w G v p K N f cnt) (hN : N.length ≤ 6400) (x n : Nat) (hx : x + n ≤ N.length) :
    Calls Tryd.prog 15 #[.pointer (some ⟨v, 0, none⟩), .int .i64 (x : Int), .int .i64 (n : Int)] w fun e w' => ∃ g cap, e = .returned (.tuple #[.slice (some ⟨g, 0, none⟩) n cap, .nilIface]) ∧ w.heap.size ≤ g ∧ Row w' 5 g cap ((N.drop x).take n) ∧ Below w.heap.size w w' := by
  refine (vread_any h hN x n).mono ?_
  intro e w' hA
  unfold VrAns at hA
  rw [if_pos (vhas_mk hx), Int.toNat_natCast, Int.toNat_natCast] at hA
  exact hA
theorem rd_lt {w : World} {A : Option Addr} {l : Bytes} (h : Rd w A l) (hl : 0 < l.length) : ∀ ad, A = some ad → ad.block < w.heap.size := fun ad e => by
  obtain ⟨q, off, e', hq⟩ := h.lt hl
  rw [e] at e'
  obtain rfl := Option.some.inj e'
  exact hq
set_option maxRecDepth 100000 in
set_option maxHeartbeats 4000000 in
theorem viewParts_walk (x : Int) (A : Option Addr) (n c : Nat) (b : Bytes) (cut : Int) (w : World) (hg : HasType w) (hn : b.length = n) (hnc : n ≤ c) (hn2 : n ≤ 281474976710656) (hr : Rd w A b) :
    Calls Tryd.prog 3 #[.int .i64 x, .slice A n c, .int .i64 cut] w fun e w' => e = .returned (.bool true) ∧ Below w.heap.size w w' := by
  have HG := Hidden.mk hg
  have HR := Hidden.mk hr
  have HN := Hidden.mk hn
  clear hg hr hn
  go_enter Tryd.func3, Tryd.ntmps3
  go_wp2_with fail
  refine (dnewB 100 _ (by decide) (by decide)).mono ?_
  rintro e w1 ⟨d, F, rfl, hd1⟩
  obtain ⟨hfull, hup, hwf, hlen, hnp⟩ := format_full 100 (by decide) (by decide)
  have HPF : Hidden (SfP 100 (nP (newD 100)) (formatD (newD 100)) 2 (fun _ => List.replicate 32 0)) := ⟨⟨⟨_, hfull⟩, hwf, hup, hlen, hfull.hold.n0⟩⟩
  rw [show nP (newD 100) = 52 from by rw [hnp]; decide] at HPF
  have HFM := Hidden.mk (pformat_ok hd1 ⟨rfl, rfl⟩ (by simp [newD]))
  rw [show nP (newD 100) = 52 from by rw [hnp]; decide] at HFM
  generalize formatD (newD 100) = Df at *
  have HBEL := Hidden.mk hd1.bel
  clear hfull hup hwf hlen hnp hd1
  go_wp2_with fail
  refine HFM.out.mono ?_
  rintro e w2 ⟨p, F2, rfl, hm2, hp2, hpn⟩
  have hn0 := HPF.out.n0
  have hlens : ∀ i, i < nP Df → (readD Df (48 + i)).length = 32 := fun i hi => by
    rw [← hn0] at hi
    rw [(HPF.out.page i hi).1]; exact (HPF.out.page i hi).2
  rw [hn0] at hp2
  have HN1 := Hidden.mk (vnew_ok hm2.dev hp2 HPF.out.up.2 hlens 52 hn0 (by decide))
  have HD2 := Hidden.mk (fun W (hW : Below w2.heap.size w2 W) => vnew_ok (hm2.dev.below hW) (hp2.below hW) HPF.out.up.2 hlens 52 hn0 (by decide))
  have HAL := Hidden.mk (allB_len (D := Df) 52 (fun i hi => hlens i (by rw [← hn0]; exact hi)))
  have HB2 := Hidden.mk hm2.dev.bel
  clear hm2 hp2 hpn HFM HBEL hn0 hlens HPF
  generalize allB Df 52 = K at *
  go_wp2_with fail
  refine HN1.out.mono ?_
  rintro e w3 ⟨v1, G1, rfl, hv1, hg1, hb3⟩
  have HN2 := Hidden.mk (HD2.out w3 hb3)
  have HV1 := Hidden.mk (And.intro hv1 (And.intro hg1 hb3))
  clear hv1 hg1 hb3 HN1 HD2
  go_wp2_with fail
  refine HN2.out.mono ?_
  rintro e w4 ⟨v2, G2, rfl, hv2, hg2, hb4⟩
  have HS : Hidden (Vw2 w w4 G1 G2 v1 v2 p K K K (fun _ => false) (fun _ => false)) := ⟨by
    obtain ⟨a1, a2, a3⟩ := HV1.out
    have s2 := HB2.out.size
    have s3 := a3.size
    refine ⟨?_, ?_, fun q h1 h2 => ?_, fun q h1 => ?_, fun q h2 => ?_, (HB2.out.trans (a3.mono s2)).trans (hb4.mono (by omega)), (fun k h => by cases h), (fun k h => by cases h)⟩
    · rw [setF_none, cntS_none]; exact a1.below hb4
    · rw [setF_none, cntS_none]; exact hv2
    · have := a1.lt q h1
      have := hg2 q h2
      omega
    · have := a2 q h1; omega
    · have := hg2 q h2; omega⟩
  clear hv2 hg2 hb4 HN2 HV1 HB2
  go_wp2_with fail
  refine (vlen_any HS.out.a).mono ?_
  rintro e w' ⟨rfl, rfl⟩
  rw [HAL.out]
  by_cases k1 : cut < 0
  · have d1 : decide (cut < 0) = true := by simpa using k1
    clear k1
    go_wp2_with fail
    go_ret
    exact ⟨rfl, HS.out.bel⟩
  have d1 : decide (cut < 0) = false := by simpa using k1
  by_cases k2 : (n : Int) < cut
  · have d2 : decide ((n : Int) < cut) = true := by simpa using k2
    clear k1 k2
    go_wp2_with fail
    go_ret
    exact ⟨rfl, HS.out.bel⟩
  have d2 : decide ((n : Int) < cut) = false := by simpa using k2
  by_cases k3 : x < 0
  · have d3 : decide (x < 0) = true := by simpa using k3
    clear k1 k2 k3
    go_wp2_with fail
    go_ret
    exact ⟨rfl, HS.out.bel⟩
  have d3 : decide (x < 0) = false := by simpa using k3
  by_cases k4 : 1664 < x
  · have d4 : decide (1664 < x) = true := by simpa using k4
    clear k1 k2 k3 k4
    go_wp2_with fail
    go_ret
    exact ⟨rfl, HS.out.bel⟩
  have d4 : decide (1664 < x) = false := by simpa using k4
  obtain ⟨k, rfl⟩ : ∃ k : Nat, cut = k := ⟨cut.toNat, by omega⟩
  obtain ⟨a, rfl⟩ : ∃ k : Nat, x = k := ⟨x.toNat, by omega⟩
  have hkn : k ≤ n := by omega
  have ha : a ≤ 1664 := by omega
  have d2' : decide (n < k) = false := by simp; omega
  have d4' : decide (1664 < a) = false := by simp; omega
  have s1 : IntKind.i64.wrap ((a : Int) + k) = (a : Int) + k := IntWalk.i64_in _ (by omega)
  have s2 : IntKind.i64.wrap (1664 - (a : Int)) = 1664 - (a : Int) := IntWalk.i64_in _ (by omega)
  have hhd := fun W => run_headA A n c k (by omega) W
  have htl := fun W => run_tailA A n c k (by omega) W
  have HTK : Hidden (Rd w A (b.take k) ∧ (b.take k).length = k) := ⟨HR.out.take k (by rw [HN.out]; exact hkn), by rw [List.length_take, HN.out]; omega⟩
  have HDR : Hidden (Rd w (if c = k then A else A.map (·.add k)) (b.drop k) ∧ (b.drop k).length = n - k) := ⟨HR.out.tail k c (by rw [HN.out]; exact hkn) (by rw [HN.out]; exact hnc), by rw [List.length_drop, HN.out]⟩
  generalize (if c = k then A else A.map (·.add k)) = A2 at *
  have HP : wrVE K (fun _ => false) (a : Int) b = 0 → _ := parts_ok (N := K) (x := a) (k := k) (b := b) HAL.out (by rw [HN.out]; exact hkn)
  have HO := wrVE_or (N := K) (x := a) (b := b) HAL.out ha
  rw [HN.out] at HP HO
  obtain ⟨E1, hE1⟩ : ∃ E, wrVE K (fun _ => false) (a : Int) b = E := ⟨_, rfl⟩
  obtain ⟨N1, hN1⟩ : ∃ E, wrVN K (fun _ => false) (a : Int) b = E := ⟨_, rfl⟩
  obtain ⟨S1, hS1⟩ : ∃ E, wrVS K (fun _ => false) (a : Int) b = E := ⟨_, rfl⟩
  obtain ⟨E2, hE2⟩ : ∃ E, wrVE K (fun _ => false) (a : Int) (b.take k) = E := ⟨_, rfl⟩
  obtain ⟨N2, hN2⟩ : ∃ E, wrVN K (fun _ => false) (a : Int) (b.take k) = E := ⟨_, rfl⟩
  obtain ⟨S2, hS2⟩ : ∃ E, wrVS K (fun _ => false) (a : Int) (b.take k) = E := ⟨_, rfl⟩
  rw [hN2, hS2, hE2, hE1, hN1, hS1] at HP
  rw [hE1] at HO
  obtain ⟨E3, hE3⟩ : ∃ E, wrVE N2 S2 ((a : Int) + (k : Int)) (b.drop k) = E := ⟨_, rfl⟩
  obtain ⟨N3, hN3⟩ : ∃ E, wrVN N2 S2 ((a : Int) + (k : Int)) (b.drop k) = E := ⟨_, rfl⟩
  obtain ⟨S3, hS3⟩ : ∃ E, wrVS N2 S2 ((a : Int) + (k : Int)) (b.drop k) = E := ⟨_, rfl⟩
  rw [hE3, hN3, hS3] at HP
  have HP := Hidden.mk HP
  have HO := Hidden.mk HO
  have HE1 := Hidden.mk (And.intro hE1 (And.intro hN1 hS1))
  have HE2 := Hidden.mk (And.intro hE2 (And.intro hN2 hS2))
  have HE3 := Hidden.mk (And.intro hE3 (And.intro hN3 hS3))
  have HW1 := Hidden.mk (vwrite_any HS.out.a HS.out.sa (by rw [HAL.out]; omega) (a : Int) n c A b HN.out (HR.out.below HS.out.bel) (fun h0 ad e hG => by
    have := rd_lt HR.out (by rw [HN.out]; exact h0) ad e
    have := HS.out.na _ hG
    omega))
  clear k1 k2 k3 k4 hE1 hE2 hE3 hN1 hN2 hN3 hS1 hS2 hS3
  go_wp2_with fail
  refine HW1.out.mono ?_
  rintro e w5 ⟨he, G1', h1, hk, hG, hS, hl⟩
  rw [HE1.out.1] at he
  rw [HE1.out.2.1, HE1.out.2.2] at h1
  rw [HE1.out.2.2] at hS
  rw [HE1.out.2.1, HAL.out] at hl
  subst he
  have HS5 := Hidden.mk (HS.out.one h1 hk hG hS)
  have HL1 := Hidden.mk hl
  clear h1 hk hG hS hl HW1 HS HE1
  have HW2 := Hidden.mk (vwrite_any HS5.out.b HS5.out.sb (by rw [HAL.out]; omega) (a : Int) k c A (b.take k) HTK.out.2 (HTK.out.1.below HS5.out.bel) (fun h0 ad e hG => by
    have := rd_lt HTK.out.1 (by rw [HTK.out.2]; exact h0) ad e
    have := HS5.out.nb _ hG
    omega))
  go_wp2_with fail
  refine HW2.out.mono ?_
  rintro e w6 ⟨he, G2', h1, hk, hG, hS, hl⟩
  rw [HE2.out.1] at he
  rw [HE2.out.2.1, HE2.out.2.2] at h1
  rw [HE2.out.2.2] at hS
  rw [HE2.out.2.1, HAL.out] at hl
  subst he
  have HS6 := Hidden.mk (HS5.out.two h1 hk hG hS)
  have HL2 := Hidden.mk hl
  clear h1 hk hG hS hl HW2 HS5 HE2
  have HW3 := Hidden.mk (vwrite_any HS6.out.b HS6.out.sb (by rw [HL2.out]; omega) ((a : Int) + (k : Int)) (n - k) (c - k) A2 (b.drop k) HDR.out.2 (HDR.out.1.below HS6.out.bel) (fun h0 ad e hG => by
    have := rd_lt HDR.out.1 (by rw [HDR.out.2]; exact h0) ad e
    have := HS6.out.nb _ hG
    omega))
  go_wp2_with fail
  refine HW3.out.mono ?_
  rintro e w7 ⟨he, G2'', h1, hk, hG, hS, hl⟩
  rw [HE3.out.1] at he
  rw [HE3.out.2.1, HE3.out.2.2] at h1
  rw [HE3.out.2.2] at hS
  rw [HE3.out.2.1, HL2.out] at hl
  subst he
  have HS7 := Hidden.mk (HS6.out.two h1 hk hG hS)
  have HL3 := Hidden.mk hl
  clear h1 hk hG hS hl HW3 HS6 HE3 htl hhd
  rcases HO.out with h0 | ⟨h0, h0'⟩ | ⟨h0, h0', h0''⟩
  · obtain ⟨rfl, rfl, rfl, rfl, han, hrd⟩ := HP.out h0
    subst h0
    rw [errV0]
    rw [HAL.out] at han
    have HX := Hidden.mk (And.intro (show a + n ≤ 1664 by omega) hrd)
    clear HP HO han hrd
    have HR1 := Hidden.mk (vread_yes HS7.out.a (by rw [HL1.out]; omega) 0 1664 (by rw [HL1.out]; omega))
    go_wp2_with fail
    refine HR1.out.mono ?_
    rintro e w8 ⟨g8, c8, rfl, hg8, hr8, hb8⟩
    have HS8 := Hidden.mk (HS7.out.below hb8)
    have HR8 := Hidden.mk hr8
    clear hg8 hr8 hb8 HS7 HR1
    have HR1 := Hidden.mk (vread_yes HS8.out.b (by rw [HL3.out]; omega) 0 1664 (by rw [HL3.out]; omega))
    go_wp2_with fail
    refine HR1.out.mono ?_
    rintro e w9 ⟨g9, c9, rfl, hg9, hr9, hb9⟩
    have HS9 := Hidden.mk (HS8.out.below hb9)
    have HR8 := Hidden.mk (HR8.out.below hb9 HR8.out.lt)
    have HR9 := Hidden.mk hr9
    clear hg9 hr9 hb9 HS8 HR1
    have HR1 := Hidden.mk (vread_yes HS9.out.a (by rw [HL1.out]; omega) a n (by rw [HL1.out]; exact HX.out.1))
    go_wp2_with fail
    refine HR1.out.mono ?_
    rintro e w10 ⟨g10, c10, rfl, hg10, hr10, hb10⟩
    have HS10 := Hidden.mk (HS9.out.below hb10)
    have HR8 := Hidden.mk (HR8.out.below hb10 HR8.out.lt)
    have HR9 := Hidden.mk (HR9.out.below hb10 HR9.out.lt)
    rw [HX.out.2] at hr10
    have HR10 := Hidden.mk hr10
    clear hg10 hr10 hb10 HS9 HR1
    have HR1 := Hidden.mk (vread_yes HS10.out.a (by rw [HL1.out]; omega) a k (by rw [HL1.out]; have := HX.out.1; omega))
    go_wp2_with fail
    refine HR1.out.mono ?_
    rintro e w11 ⟨g11, c11, rfl, hg11, hr11, hb11⟩
    have HS11 := Hidden.mk (HS10.out.below hb11)
    have HR8 := Hidden.mk (HR8.out.below hb11 HR8.out.lt)
    have HR9 := Hidden.mk (HR9.out.below hb11 HR9.out.lt)
    have HR10 := Hidden.mk (HR10.out.below hb11 HR10.out.lt)
    have hbk : (N3.drop a).take k = b.take k := by
      rw [← HX.out.2, List.take_take, Nat.min_eq_left hkn]
    rw [hbk] at hr11
    have HR11 := Hidden.mk hr11
    clear hg11 hr11 hb11 HS10 HR1 hbk
    have HR1 := Hidden.mk (vdirty_any HS11.out.a (Nat.le_trans (cntS_le _) (by omega)))
    go_wp2_with fail
    refine HR1.out.mono ?_
    rintro e w12 ⟨u12, L12, rfl, hk12, ho12, hb12⟩
    have HS12 := Hidden.mk (HS11.out.below hb12)
    have HR8 := Hidden.mk (HR8.out.below hb12 HR8.out.lt)
    have HR9 := Hidden.mk (HR9.out.below hb12 HR9.out.lt)
    have HR10 := Hidden.mk (HR10.out.below hb12 HR10.out.lt)
    have HR11 := Hidden.mk (HR11.out.below hb12 HR11.out.lt)
    have HK12 := Hidden.mk (And.intro hk12 ho12)
    clear hk12 ho12 hb12 HS11 HR1
    have HR1 := Hidden.mk (vdirty_any HS12.out.b (Nat.le_trans (cntS_le _) (by omega)))
    go_wp2_with fail
    refine HR1.out.mono ?_
    rintro e w13 ⟨u13, L13, rfl, hk13, ho13, hb13⟩
    have HS13 := Hidden.mk (HS12.out.below hb13)
    have HR8 := Hidden.mk (HR8.out.below hb13 HR8.out.lt)
    have HR9 := Hidden.mk (HR9.out.below hb13 HR9.out.lt)
    have HR10 := Hidden.mk (HR10.out.below hb13 HR10.out.lt)
    have HR11 := Hidden.mk (HR11.out.below hb13 HR11.out.lt)
    obtain rfl := keys_inj HK12.out.1 hk13
    have hL : L12.length ≤ 100000 := by
      refine Nat.le_trans (nodup_le 200 L12 (hk13.up.imp (fun h => Nat.ne_of_lt h)) (fun q hq => HS13.out.sa q ?_)) (by omega)
      have := (hk13.mem q).1 hq
      unfold setF at this
      by_cases hs : S3 q = true
      · exact hs
      · rw [if_neg hs] at this; cases this
    obtain ⟨A12, c12, rfl, -, hx12⟩ := own_ints (own_below HK12.out.2 hb13) rfl
    obtain ⟨A13, c13, rfl, -, hx13⟩ := own_ints ho13 rfl
    have HI := Hidden.mk (sameInts_eq A12 A13 c12 c13 L12.length L12 w13 rfl hL hx12 hx13)
    generalize L12.length = m12 at *
    clear hk13 ho13 hb13 HS12 HR1 hL HK12 hx12 hx13
    go_wp2_with fail
    refine HI.out.mono ?_
    rintro e w14 ⟨rfl, hb14⟩
    have HS14 := Hidden.mk (HS13.out.below hb14)
    have hr8 := HR8.out.below hb14 HR8.out.lt
    have hr9 := HR9.out.below hb14 HR9.out.lt
    have hr10 := HR10.out.below hb14 HR10.out.lt
    have hr11 := HR11.out.below hb14 HR11.out.lt
    have hb0 := HR.out.below HS14.out.bel
    have hbk := HTK.out.1.below HS14.out.bel
    have hl3 : ((N3.drop 0).take 1664).length = 1664 := by
      have := HL1.out
      simp; omega
    generalize (N3.drop 0).take 1664 = NN at *
    have v1 := fun nq => conv_text (w14.drewN nq) (some ⟨g8, 0, none⟩) 1664 c8 NN hl3 (hr8.rd.drewN nq)
    have v2 := fun nq => conv_text (w14.drewN nq) (some ⟨g9, 0, none⟩) 1664 c9 NN hl3 (hr9.rd.drewN nq)
    have v3 := fun nq => conv_text (w14.drewN nq) (some ⟨g10, 0, none⟩) n c10 b HN.out (hr10.rd.drewN nq)
    have v4 := fun nq => conv_text (w14.drewN nq) A n c b HN.out (hb0.drewN nq)
    have v5 := fun nq => conv_text (w14.drewN nq) (some ⟨g11, 0, none⟩) k c11 (b.take k) HTK.out.2 (hr11.rd.drewN nq)
    have v6 := fun nq => conv_text (w14.drewN nq) A k c (b.take k) HTK.out.2 (hbk.drewN nq)
    have hhd := fun W => run_headA A n c k (by omega) W
    generalize b.take k = bk at *
    clear hb14 HS13 hr8 hr9 hr10 hr11 hb0 hbk hl3 HR8 HR9 HR10 HR11 HI
    go_wp2_with fail
    go_quiet (fail)
    go_wp2_with fail
    go_ret
    exact ⟨rfl, below_drewN HS14.out.bel _⟩
  · subst h0
    rw [errV_pos (show 1 ≠ 0 by decide)]
    have t1 : decide (1664 - (a : Int) < (n : Int)) = true := by simp; omega
    have HER := Hidden.mk (err_some 1 1 w7 (HG.out.below HG.out.lt HS7.out.bel))
    rw [beq_self_eq_true] at HER
    clear h0' HO HP
    go_wp2_with fail
    refine HER.out.mono ?_
    rintro e w8 ⟨rfl, hb8⟩
    have HB8 := Hidden.mk (HS7.out.bel.trans (hb8.mono HS7.out.bel.size))
    clear hb8
    go_wp2_with fail
    go_ret
    exact ⟨rfl, HB8.out⟩
  · subst h0
    rw [errV_pos (show 4 ≠ 0 by decide)]
    have t1 : decide (1664 - (a : Int) < (n : Int)) = false := by simp; omega
    have t2 : decide (672 < (n : Int)) = true := by simp; omega
    have t3 : decide (672 < n) = true := by simpa using h0''
    have HER := Hidden.mk (err_some 4 4 w7 (HG.out.below HG.out.lt HS7.out.bel))
    rw [beq_self_eq_true] at HER
    clear h0' h0'' HO HP
    go_wp2_with fail
    refine HER.out.mono ?_
    rintro e w8 ⟨rfl, hb8⟩
    have HB8 := Hidden.mk (HS7.out.bel.trans (hb8.mono HS7.out.bel.size))
    clear hb8
    go_wp2_with fail
    go_ret
    exact ⟨rfl, HB8.out⟩
end Go.Proofs.YtmhlnbbnanehiaaDoor
