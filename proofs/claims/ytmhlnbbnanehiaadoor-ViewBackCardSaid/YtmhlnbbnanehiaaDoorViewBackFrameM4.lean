/- Contracts and plain laws, put together: View4, ViewPartsP, Rows2, SameN, View10, View11, View12, ViewBackP, ViewBack0, Told, Told2, Told3, Open3, Open6, Open5, Open7. -/
import Derived.Test.YtmhlnbbnanehiaaDoorViewBackFrameM3
import Derived.Test.YtmhlnbbnanehiaaDoorViewBackFrameM1
import Derived.Deep.LoopGhost
import Derived.Deep.RegionHeld3
import Derived.Deep.AppendLies
import Derived.StillTailTactics
import Derived.BigQuiet
import Derived.Test.YtmhlnbbnanehiaaDoorViewBackFrameM2
import Derived.LaidEql
import Derived.Stop.Asserts
import Derived.RowKitTokens
import Derived.Deep.Grids
/- Package view: Read. -/
namespace Go.Proofs.YtmhlnbbnanehiaaDoor
open Go.RowKit Go.Maps Go.ChangeMaps

section
variable {w : World} {G : Nat → Prop} {v p cnt : Nat} {K N : Bytes} {f : Nat → Option Value}
/-- what Read answers -/
def VrAns (w : World) (N : Bytes) (x n : Int) (e : Ending) (w' : World) : Prop :=
  if vhas N x n = true then ∃ g cap, e = .returned (.tuple #[.slice (some ⟨g, 0, none⟩) n.toNat cap, .nilIface]) ∧ w.heap.size ≤ g ∧ Row w' 5 g cap ((N.drop x.toNat).take n.toNat) ∧ Below w.heap.size w w'
  else e = .returned (.tuple #[.slice none 0 0, .iface 103 (.int .i64 1)]) ∧ w = w'
set_option maxRecDepth 100000 in
theorem vread_any (h : VwH w G v p K N f cnt) (hN : N.length ≤ 6400) (x n : Int) : Calls Tryd.prog 15 #[.pointer (some ⟨v, 0, none⟩), .int .i64 x, .int .i64 n] w (VrAns w N x n) := by
  have HH := Hidden.mk (vhas_any h hN x n)
  obtain ⟨gk, ck, gn, cn, bm, h0, -, hr, -⟩ := h
  obtain ⟨c0, c1, c2, c3⟩ := four h0
  clear h0
  have HR := Hidden.mk hr
  clear hr
  unfold VrAns
  cases hv : vhas N x n
  · simp only [Bool.false_eq_true, if_false]
    rw [hv] at HH
    clear hv
    go_enter Tryd.func15, Tryd.ntmps15
    go_wp2_with fail
    refine HH.out.mono ?_
    rintro e w' ⟨rfl, rfl⟩
    go_wp2_with fail
    go_ret2
    exact ⟨rfl, rfl⟩
  · simp only [if_true]
    rw [hv] at HH
    have hx := of_decide_eq_true (show decide (0 ≤ x ∧ 0 ≤ n ∧ x + n ≤ N.length) = true from hv)
    obtain ⟨a, rfl⟩ := Int.eq_ofNat_of_zero_le hx.1
    obtain ⟨m, rfl⟩ := Int.eq_ofNat_of_zero_le hx.2.1
    have hxm : a + m ≤ N.length := by have := hx.2.2; omega
    clear hv hx
    rw [Int.toNat_natCast, Int.toNat_natCast]
    have hcn : N.length ≤ cn := by obtain ⟨cur, -, q, -⟩ := HR.out; exact q
    have s1 : IntKind.i64.wrap ((a : Int) + m) = (a : Int) + m := IntWalk.i64_in _ (by omega)
    have hcut := fun W => run_cutA (some ⟨gn, 0, none⟩) N.length cn a (a + m) (by omega) (by omega) W
    have hrc := HR.out.rd.cutIf a m cn hxm hcn
    have hml : a + m - a = m := by omega
    rw [hml] at hcut
    have hsm : ∃ ad : Addr, (if cn = a then (some (⟨gn, 0, none⟩ : Addr)) else (some (⟨gn, 0, none⟩ : Addr)).map (·.add a)) = some ad := by
      by_cases h : cn = a
      · exact ⟨_, if_pos h⟩
      · exact ⟨_, if_neg h⟩
    obtain ⟨ad, had⟩ := hsm
    have hcut2 : ∀ W, (Instr.sliceAt 22 (.slice (some ⟨gn, 0, none⟩) N.length cn) (some (.int .i64 a)) (some (.int .i64 ((a : Int) + (m : Int)))) none).run Tryd.prog W = .ok (.slice (some ad) m (cn - a)) W := fun W => by rw [← had, show (a : Int) + (m : Int) = ((a + m : Nat) : Int) by omega]; exact hcut W
    rw [had] at hrc
    have HC := Hidden.mk (clone_some ad m (cn - a) ((N.drop a).take m) w (by simp; omega) (by omega) hrc)
    clear hcut hrc had hml
    go_enter Tryd.func15, Tryd.ntmps15
    go_wp2_with fail
    refine HH.out.mono ?_
    rintro e w' ⟨rfl, rfl⟩
    go_wp2_with fail
    refine HC.out.mono ?_
    rintro e w2 ⟨g, cap, rfl, hg, hr, hb⟩
    have HF := Hidden.mk (And.intro hg (And.intro hr hb))
    clear hg hr hb
    go_wp2_with fail
    go_ret2
    exact ⟨g, cap, rfl, HF.out⟩
end
end Go.Proofs.YtmhlnbbnanehiaaDoor
/- ViewParts: the plain law: written in parts is written at once. -/
namespace Go.Proofs.YtmhlnbbnanehiaaDoor
open Go.RowKit Go.Maps Go.ChangeMaps

theorem drtS_two (S : Nat → Bool) (x k n : Nat) (hk : 0 < k) (hkn : k < n) : drtS (drtS S x k) (x + k) (n - k) = drtS S x n := by
  funext q
  rw [Bool.eq_iff_iff, drtS_iff, drtS_iff, drtS_iff]
  have e : x + k + (n - k) - 1 = x + n - 1 := by omega
  rw [e]
  constructor
  · rintro ((h | h | h) | h | h)
    · exact .inl h
    · exact .inr (.inl (by omega))
    · exact .inr (.inr h)
    · exact .inr (.inl (by omega))
    · exact .inr (.inl (by omega))
  · rintro (h | h | h)
    · exact .inl (.inl h)
    · by_cases hq : q ≤ (x + k - 1) / 32
      · exact .inl (.inr (.inl (by omega)))
      · exact .inr (.inl (by omega))
    · exact .inl (.inr (.inr h))
theorem drtS_sub (S : Nat → Bool) (x k n : Nat) (hk : 0 < k) (hkn : k ≤ n) : ∀ q, drtS S x k q = true → drtS S x n q = true := fun q h => by
  rw [drtS_iff] at h ⊢
  rcases h with h | h | h
  · exact .inl h
  · exact .inr (.inl (by omega))
  · exact .inr (.inr h)
theorem vhas_mk {N : Bytes} {x n : Nat} (h : x + n ≤ N.length) : vhas N (x : Int) (n : Int) = true := decide_eq_true ⟨by omega, by omega, by omega⟩
/-- so many bytes touch no more pages than may be -/
theorem cntS_run (x n : Nat) (_h : x + n ≤ 6400) (hn : 0 < n) : cntS (drtS (fun _ => false) x n) ≤ (x + n - 1) / 32 - x / 32 + 1 := by
  unfold cntS
  have hsub : ((List.range 200).filter (drtS (fun _ => false) x n)).length ≤ ((List.range 200).filter (fun q => decide (q - x / 32 < (x + n - 1) / 32 - x / 32 + 1 ∧ x / 32 ≤ q))).length := by
    rw [← List.countP_eq_length_filter, ← List.countP_eq_length_filter]
    refine List.countP_mono_left fun q _ hq => ?_
    rw [drtS_iff] at hq
    rcases hq with hq | hq | hq
    · cases hq
    · simp; omega
    · simp; omega
  refine Nat.le_trans hsub ?_
  have hnd : (((List.range 200).filter (fun q => decide (q - x / 32 < (x + n - 1) / 32 - x / 32 + 1 ∧ x / 32 ≤ q))).map (fun q => q - x / 32)).Nodup := by
    refine List.pairwise_map.2 ((List.nodup_range.filter _).imp_of_mem fun {a b} ha hb hne e => hne ?_)
    have h1 := (List.mem_filter.1 ha).2
    have h2 := (List.mem_filter.1 hb).2
    simp at h1 h2
    omega
  have := nodup_le ((x + n - 1) / 32 - x / 32 + 1) _ hnd (fun y hy => by
    obtain ⟨q, hq, rfl⟩ := List.mem_map.1 hy
    have h1 := (List.mem_filter.1 hq).2
    simp at h1
    omega)
  rwa [List.length_map] at this
section
variable {N : Bytes} {x k : Nat} {b : Bytes}
/-- the first part, and the second -/
theorem parts_ok (hN : N.length = 1664) (hk : k ≤ b.length) (h : wrVE N (fun _ => false) x b = 0) :
    wrVE N (fun _ => false) x (b.take k) = 0 ∧ wrVE (wrVN N (fun _ => false) x (b.take k)) (wrVS N (fun _ => false) x (b.take k)) ((x : Int) + k) (b.drop k) = 0 ∧
    wrVN (wrVN N (fun _ => false) x (b.take k)) (wrVS N (fun _ => false) x (b.take k)) ((x : Int) + k) (b.drop k) = wrVN N (fun _ => false) x b ∧
    wrVS (wrVN N (fun _ => false) x (b.take k)) (wrVS N (fun _ => false) x (b.take k)) ((x : Int) + k) (b.drop k) = wrVS N (fun _ => false) x b ∧ x + b.length ≤ N.length ∧
    ((wrVN N (fun _ => false) x b).drop x).take b.length = b := by
  have hv : vhas N x b.length = true := by
    cases hv : vhas N x b.length with
    | true => rfl
    | false => unfold wrVE at h; rw [if_pos hv] at h; cases h
  have hx := (vhas_nat hv).2
  rw [Int.toNat_natCast] at hx
  have l1 : (b.take k).length = k := by simp; omega
  have l2 : (b.drop k).length = b.length - k := by simp
  have e0 : (x : Int) + k = ((x + k : Nat) : Int) := by omega
  rw [e0]
  have hv1 : vhas N (x : Int) ((b.take k).length : Int) = true := by rw [l1]; exact vhas_mk (by omega)
  have hrd : ((wrVN N (fun _ => false) x b).drop x).take b.length = b := by
    by_cases hb : b.length = 0
    · rw [hb, List.take_zero]; exact (List.eq_nil_of_length_eq_zero hb).symm
    · unfold wrVN
      rw [if_pos ⟨h, hb⟩, Int.toNat_natCast]
      exact layB_read hx
  by_cases hk0 : k = 0
  · subst hk0
    have h1 : wrVE N (fun _ => false) x (b.take 0) = 0 := by unfold wrVE; rw [if_neg (by rw [hv1]; decide), if_pos l1]
    have h2 : wrVN N (fun _ => false) x (b.take 0) = N := by unfold wrVN; rw [if_neg (fun h => h.2 l1)]
    have h3 : wrVS N (fun _ => false) x (b.take 0) = fun _ => false := by unfold wrVS; rw [if_neg (fun h => h.2 l1)]
    rw [h1, h2, h3, Nat.add_zero, List.drop_zero]
    exact ⟨rfl, h, rfl, rfl, hx, hrd⟩
  have hb0 : b.length ≠ 0 := by omega
  have hc : cntS (drtS (fun _ => false) x b.length) ≤ 23 := by
    unfold wrVE at h
    rw [if_neg (by rw [hv]; decide), if_neg hb0, Int.toNat_natCast] at h
    by_cases hc : 23 < cntS (drtS (fun _ => false) x b.length)
    · rw [if_pos hc] at h; cases h
    · omega
  have hc1 : cntS (drtS (fun _ => false) x k) ≤ 23 := Nat.le_trans (cntS_mono (drtS_sub _ x k b.length (by omega) hk)) hc
  have h1 : wrVE N (fun _ => false) x (b.take k) = 0 := by
    unfold wrVE
    rw [if_neg (by rw [hv1]; decide), if_neg (by rw [l1]; exact hk0), Int.toNat_natCast, l1, if_neg (by omega)]
  have h2 : wrVN N (fun _ => false) x (b.take k) = layB N x (b.take k) := by unfold wrVN; rw [if_pos ⟨h1, by rw [l1]; exact hk0⟩, Int.toNat_natCast]
  have h3 : wrVS N (fun _ => false) x (b.take k) = drtS (fun _ => false) x k := by unfold wrVS; rw [if_pos ⟨h1, by rw [l1]; exact hk0⟩, Int.toNat_natCast, l1]
  have h4 : wrVN N (fun _ => false) x b = layB N x b := by unfold wrVN; rw [if_pos ⟨h, hb0⟩, Int.toNat_natCast]
  have h5 : wrVS N (fun _ => false) x b = drtS (fun _ => false) x b.length := by unfold wrVS; rw [if_pos ⟨h, hb0⟩, Int.toNat_natCast]
  have hl : (layB N x (b.take k)).length = N.length := layB_len (by omega)
  have hv2 : vhas (layB N x (b.take k)) ((x + k : Nat) : Int) ((b.drop k).length : Int) = true := by rw [l2]; exact vhas_mk (by omega)
  rw [h1, h2, h3, h4, h5]
  rw [h4] at hrd
  by_cases hkb : k = b.length
  · have l3 : (b.drop k).length = 0 := by omega
    have h6 : wrVE (layB N x (b.take k)) (drtS (fun _ => false) x k) ((x + k : Nat) : Int) (b.drop k) = 0 := by unfold wrVE; rw [if_neg (by rw [hv2]; decide), if_pos l3]
    have h7 : wrVN (layB N x (b.take k)) (drtS (fun _ => false) x k) ((x + k : Nat) : Int) (b.drop k) = layB N x (b.take k) := by unfold wrVN; rw [if_neg (fun h => h.2 l3)]
    have h8 : wrVS (layB N x (b.take k)) (drtS (fun _ => false) x k) ((x + k : Nat) : Int) (b.drop k) = drtS (fun _ => false) x k := by unfold wrVS; rw [if_neg (fun h => h.2 l3)]
    rw [h6, h7, h8, hkb, List.take_length]
    exact ⟨rfl, rfl, rfl, rfl, hx, hrd⟩
  · have l3 : (b.drop k).length ≠ 0 := by omega
    have hd := drtS_two (fun _ => false) x k b.length (by omega) (by omega)
    have h6 : wrVE (layB N x (b.take k)) (drtS (fun _ => false) x k) ((x + k : Nat) : Int) (b.drop k) = 0 := by
      unfold wrVE
      rw [if_neg (by rw [hv2]; decide), if_neg l3, Int.toNat_natCast, l2, hd, if_neg (by omega)]
    have h7 : wrVN (layB N x (b.take k)) (drtS (fun _ => false) x k) ((x + k : Nat) : Int) (b.drop k) = layB N x b := by
      unfold wrVN
      rw [if_pos ⟨h6, l3⟩, Int.toNat_natCast]
      exact layB_two k hk hx
    have h8 : wrVS (layB N x (b.take k)) (drtS (fun _ => false) x k) ((x + k : Nat) : Int) (b.drop k) = drtS (fun _ => false) x b.length := by
      unfold wrVS
      rw [if_pos ⟨h6, l3⟩, Int.toNat_natCast, l2, hd]
    rw [h6, h7, h8]
    exact ⟨rfl, rfl, rfl, rfl, hx, hrd⟩
/-- what Write refuses -/
theorem wrVE_or (hN : N.length = 1664) (hx : x ≤ 1664) : wrVE N (fun _ => false) x b = 0 ∨ (wrVE N (fun _ => false) x b = 1 ∧ 1664 - x < b.length) ∨ (wrVE N (fun _ => false) x b = 4 ∧ b.length ≤ 1664 - x ∧ 672 < b.length) := by
  unfold wrVE
  cases hv : vhas N x b.length with
  | false =>
    refine .inr (.inl ⟨by rw [if_pos rfl], ?_⟩)
    have := of_decide_eq_false (show decide (0 ≤ (x : Int) ∧ 0 ≤ (b.length : Int) ∧ (x : Int) + b.length ≤ N.length) = false from hv)
    omega
  | true =>
    have h1 := (vhas_nat hv).2
    rw [Int.toNat_natCast] at h1
    rw [if_neg (by decide)]
    by_cases hb : b.length = 0
    · exact .inl (by rw [if_pos hb])
    · rw [if_neg hb, Int.toNat_natCast]
      by_cases hc : 23 < cntS (drtS (fun _ => false) x b.length)
      · refine .inr (.inr ⟨by rw [if_pos hc], by omega, ?_⟩)
        have := cntS_run x b.length (by omega) (by omega)
        omega
      · exact .inl (by rw [if_neg hc])
end
theorem vread_yes {w : World} {G : Nat → Prop} {v p cnt : Nat} {K N : Bytes} {f : Nat → Option Value} (h : VwH w G v p K N f cnt) (hN : N.length ≤ 6400) (x n : Nat) (hx : x + n ≤ N.length) :
    Calls Tryd.prog 15 #[.pointer (some ⟨v, 0, none⟩), .int .i64 (x : Int), .int .i64 (n : Int)] w fun e w' => ∃ g cap, e = .returned (.tuple #[.slice (some ⟨g, 0, none⟩) n cap, .nilIface]) ∧ w.heap.size ≤ g ∧ Row w' 5 g cap ((N.drop x).take n) ∧ Below w.heap.size w w' := by
  refine (vread_any h hN x n).mono ?_
  intro e w' hA
  unfold VrAns at hA
  rw [if_pos (vhas_mk hx), Int.toNat_natCast, Int.toNat_natCast] at hA
  exact hA
theorem vread_no {w : World} {G : Nat → Prop} {v p cnt : Nat} {K N : Bytes} {f : Nat → Option Value} (h : VwH w G v p K N f cnt) (hN : N.length ≤ 6400) (x n : Int) (hx : vhas N x n = false) :
    Calls Tryd.prog 15 #[.pointer (some ⟨v, 0, none⟩), .int .i64 x, .int .i64 n] w fun e w' => e = .returned (.tuple #[.slice none 0 0, .iface 103 (.int .i64 1)]) ∧ w = w' := by
  refine (vread_any h hN x n).mono ?_
  intro e w' hA
  unfold VrAns at hA
  rw [hx, if_neg (by decide)] at hA
  exact hA
theorem rd_lt {w : World} {A : Option Addr} {l : Bytes} (h : Rd w A l) (hl : 0 < l.length) : ∀ ad, A = some ad → ad.block < w.heap.size := fun ad e => by
  obtain ⟨q, off, e', hq⟩ := h.lt hl
  rw [e] at e'
  obtain rfl := Option.some.inj e'
  exact hq
theorem keys_inj {f : Nat → Option Value} {S T : List Nat} (h1 : KeysOf f S) (h2 : KeysOf f T) : S = T := by
  have hp : S.Perm T := (List.perm_ext_iff_of_nodup (h1.up.imp (fun h => Nat.ne_of_lt h)) (h2.up.imp (fun h => Nat.ne_of_lt h))).2 fun x => by rw [h1.mem, h2.mem]
  exact List.Perm.eq_of_pairwise (le := fun a b : Nat => a < b) (fun a b _ _ h1 h2 => by omega) h1.up h2.up hp
theorem setF_none : setF (fun _ => false) = fun _ => none := by funext k; rfl
theorem cntS_none : cntS (fun _ => false) = 0 := by unfold cntS; simp
end Go.Proofs.YtmhlnbbnanehiaaDoor
/- Slices of the call's own, element by element. -/
namespace Go.Proofs.YtmhlnbbnanehiaaDoor
open Go.RowKit

theorem flat_at {X : Type} (f : X → List Value) (C : Nat) (hC : ∀ x, (f x).length = C) : ∀ (L : List X) (i : Nat) (h : i < L.length) (q : Nat), q < C → (L.flatMap f)[i * C + q]? = (f L[i])[q]?
  | [], i, h, _, _ => absurd h (by simp)
  | x :: r, 0, _, q, hq => by
    rw [List.flatMap_cons, Nat.zero_mul, Nat.zero_add, List.getElem?_append_left (by rw [hC]; exact hq)]; rfl
  | x :: r, i + 1, h, q, hq => by
    have hx := hC x
    rw [List.flatMap_cons, List.getElem?_append_right (by rw [hx, Nat.succ_mul]; omega), hx, show (i + 1) * C + q - C = i * C + q by rw [Nat.succ_mul]; omega]
    exact flat_at f C hC r i (by simpa using h) q hq
section
variable {X : Type} {f : X → List Value} {C : Nat} {w : World} {base : Nat} {e : TypeId} {v : Value} {A : Option Addr} {n c : Nat} {L : List X}
theorem own_at (hC : ∀ x, (f x).length = C) (h : w.ownsRow base e C (.slice A n c) n (L.flatMap f)) (k : Nat) (hk : k < L.length) (h0 : 0 < n) :
    ∃ g off, A = some ⟨g, off, none⟩ ∧ base ≤ g ∧ g < w.heap.size ∧ ∀ q u, (f L[k])[q]? = some u → w.cell? ⟨g, off + k * C + q, none⟩ = some u := by
  rcases h.2 with ⟨he, hn0⟩ | ⟨g, cap, cur, he, hb, hh, _⟩
  · omega
  · injection he with he
    subst he
    refine ⟨g, 0, rfl, hb, (Array.getElem?_eq_some_iff.1 hh).1, fun q u hq => ?_⟩
    have hqC : q < C := by rw [← hC L[k]]; exact (List.getElem?_eq_some_iff.1 hq).1
    have := h.cells (g := g) rfl (k * C + q) u (by rw [flat_at f C hC L k hk q hqC]; exact hq)
    rw [Addr.add_lit] at this
    rw [Nat.add_assoc]
    exact this
theorem own_split (h : w.ownsRow base e C v n (L.flatMap f)) : ∃ A c, v = .slice A n c ∧ n ≤ c ∧ c ≤ maxLen := by
  rcases h.2 with ⟨rfl, rfl⟩ | ⟨g, cap, cur, rfl, _, hh, hc, hm, _⟩
  · exact ⟨none, 0, rfl, Nat.le_refl _, by simp [maxLen]⟩
  · exact ⟨_, cap, rfl, hc, hm⟩
theorem own_rdX3 (hC : ∀ x, (f x).length = C) (hn : L.length = n) (h : w.ownsRow base e C (.slice A n c) n (L.flatMap f)) : RdX f C w A L := fun i hi => by
  obtain ⟨g, off, hA, _, _, hc⟩ := own_at hC h i hi (by omega)
  exact ⟨g, off, hA, hc⟩
end
structure Bel (w0 w : World) : Prop where
  out : Below w0.heap.size w0 w
theorem Bel.below {w0 w w' : World} (h : Bel w0 w) (hb : Below w.heap.size w w') : Bel w0 w' := ⟨h.out.trans (hb.mono h.out.size)⟩
structure RowW (w : World) (e g cap : Nat) (l : Bytes) : Prop where
  row : Row w e g cap l
theorem RowW.below {w w' : World} {e g cap : Nat} {l : Bytes} (h : RowW w e g cap l) (hb : Below w.heap.size w w') : RowW w' e g cap l := ⟨h.row.below hb h.row.lt⟩
structure OwnR (w : World) (base e size : Nat) (v : Value) (n : Nat) (xs : List Value) : Prop where
  own : w.ownsRow base e size v n xs
theorem OwnR.below {w w' : World} {base e size : Nat} {v : Value} {n : Nat} {xs : List Value} (h : OwnR w base e size v n xs) (hb : Below w.heap.size w w') : OwnR w' base e size v n xs := ⟨own_below h.own hb⟩
end Go.Proofs.YtmhlnbbnanehiaaDoor
/- vaultsame.Ints of lists that are the same. -/
namespace Go.Proofs.YtmhlnbbnanehiaaDoor
open Go.RowKit

def ncell (i : Nat) : List Value := [.int .i64 (i : Int)]
set_option maxRecDepth 100000 in
theorem sameInts_eq (A B : Option Addr) (ca cb n : Nat) (L : List Nat) (w : World) (hn : L.length = n) (hl : n ≤ 100000) (hA : RdX ncell 1 w A L) (hB : RdX ncell 1 w B L) :
    Calls Tryd.prog 16 #[.slice A n ca, .slice B n cb] w fun e w' => e = .returned (.bool true) ∧ Below w.heap.size w w' := by
  have HA := Hidden.mk hA
  have HB := Hidden.mk hB
  have HN := Hidden.mk hn
  clear hA hB hn
  go_enter Tryd.func16, Tryd.ntmps16
  go_wp2_with fail
  go_loopg [5] n (fun m i wr => ∃ j : Nat, j ≤ n ∧ m = n - j ∧ i = .int .i64 (j : Int) ∧ Hidden (Below w.heap.size w wr))
  case atStart => exact ⟨0, by omega, rfl, rfl, ⟨Below.refl _ _⟩⟩
  case round =>
    obtain ⟨j, hj, rfl, rfl, hbel⟩ := hrel
    by_cases hlt : j < n
    · have hjl : j < L.length := by rw [HN.out]; exact hlt
      have hp' := (HA.out.below hbel.out) j hjl
      obtain ⟨p, off, rfl, hp'⟩ := hp'
      have hq' := (HB.out.below hbel.out) j hjl
      obtain ⟨q, oq, rfl, hq'⟩ := hq'
      have x0 := hp' 0 _ rfl
      have y0 := hq' 0 _ rfl
      rw [Nat.add_zero, Nat.mul_one] at x0 y0
      have k0 : (0 : Int) ≤ j := by omega
      have k1 : (j : Int) < n := by omega
      have s1 : IntKind.i64.wrap ((j : Int) + 1) = (j : Int) + 1 := IntWalk.i64_in _ (by omega)
      have hse : ((L[j] : Int) == (L[j] : Int)) = true := by simp
      generalize (L[j] : Int) = b0 at *
      clear hp' hq'
      go_wp2_with fail
      go_quiet (fail)
      clear x0 y0
      have hbn := Hidden.mk (below_drewN hbel.out nq)
      go_wp2_with fail
      go_roundg (n - (j + 1))
      case measure => omega
      case rel => exact ⟨j + 1, by omega, rfl, by go_num, hbn⟩
    · obtain rfl : j = n := by omega
      go_wp2_with fail
      go_ret
      exact ⟨rfl, hbel.out⟩
theorem own_ints {w : World} {base n : Nat} {v : Value} {L : List Nat} (h : w.ownsRow base 3 1 v n (L.map fun i : Nat => .int .i64 (i : Int))) (hn : L.length = n) : ∃ A c, v = .slice A n c ∧ n ≤ c ∧ RdX ncell 1 w A L := by
  have e : (L.map fun i : Nat => Value.int .i64 (i : Int)) = L.flatMap ncell := by
    rw [List.map_eq_flatMap]; rfl
  rw [e] at h
  obtain ⟨A, c, rfl, hc, -⟩ := own_split h
  exact ⟨A, c, rfl, hc, own_rdX3 (fun _ => rfl) hn h⟩
end Go.Proofs.YtmhlnbbnanehiaaDoor
/- Package view: Cut. -/
namespace Go.Proofs.YtmhlnbbnanehiaaDoor
open Go.RowKit Go.Maps Go.ChangeMaps

theorem VwH.lt {w : World} {G : Nat → Prop} {v p cnt : Nat} {K N : Bytes} {f : Nat → Option Value} (h : VwH w G v p K N f cnt) : ∀ q, G q → q < w.heap.size := by
  obtain ⟨gk, ck, gn, cn, bm, h0, h1, h2, h3, h4, h5⟩ := h
  intro q hq
  rcases (h5 q).1 hq with rfl | rfl | rfl | rfl
  · exact (Array.getElem?_eq_some_iff.1 h0).1
  · exact h1.lt
  · exact h2.lt
  · exact h4.lt
theorem page_info : (Tryd.prog.info? 69).map (fun i => (i.zero, i.size, i.bytes)) = some (some (.agg #[.int .i64 0, .slice none 0 0]), 2, 32) := by kernel_rfl
/-- pages cut out of bytes -/
def cutL (N : Bytes) (L : List Nat) : List (Int × Bytes) := L.map fun i : Nat => ((i : Int), (N.drop (i * 32)).take 32)
/-- pages that are the call's own -/
structure OwnPg (w0 w : World) (v : Value) (m : Nat) (X : List PgX) (l : List (Int × Bytes)) : Prop where
  len : X.length = m
  eq : pgs X = l
  own : w.ownsRow w0.heap.size 69 2 v m (X.flatMap pcells)
  body : ∀ x ∈ X, ∃ g, x.A = some ⟨g, 0, none⟩ ∧ w0.heap.size ≤ g ∧ Row w 5 g x.cap x.body ∧ v.ownBlock ≠ some g
  bel : Below w0.heap.size w0 w
set_option maxRecDepth 100000 in
theorem cut_ok (g n c : Nat) (N : Bytes) (B : Option Addr) (m cb : Nat) (L : List Nat) (w : World) (hN : N.length = n) (hn : n ≤ 6400) (hr : Row w 5 g c N) (hm : L.length = m) (hm2 : m ≤ 200) (hL : RdX ncell 1 w B L) (hin : ∀ i ∈ L, (i + 1) * 32 ≤ n) :
    Calls Tryd.prog 67 #[.slice (some ⟨g, 0, none⟩) n c, .slice B m cb] w fun e w' => ∃ v X, e = .returned v ∧ OwnPg w w' v m X (cutL N L) := by
  obtain ⟨i0, hi0, hz0, hz1, hz2⟩ := info_parts page_info
  have HR := Hidden.mk hr
  have HL := Hidden.mk hL
  have HM := Hidden.mk hm
  have HI := Hidden.mk hin
  have HNN := Hidden.mk hN
  have hcn := hr.le.1
  clear hr hL hm hin
  rw [hN] at hcn
  clear hN
  go_enter Tryd.func67, Tryd.ntmps67
  go_wp2_with fail
  go_loopg [4, 9] m (fun r v i wr => ∃ (k : Nat) (X : List PgX), k ≤ m ∧ r = m - k ∧ i = .int .i64 (k : Int) ∧ Hidden (OwnPg w wr v k X (cutL N (L.take k))))
  case atStart => exact ⟨0, [], by omega, rfl, rfl, ⟨rfl, rfl, World.ownsRow_nil _ _ _ _, (fun x hx => by cases hx), Below.refl _ _⟩⟩
  case round =>
    obtain ⟨k, X, hk, rfl, rfl, hst⟩ := hrel
    by_cases hlt : k < m
    · have hkl : k < L.length := by rw [HM.out]; exact hlt
      have k0 : (0 : Int) ≤ k := by omega
      have k1 : (k : Int) < m := by omega
      have s0 : IntKind.i64.wrap ((k : Int) + 1) = (k : Int) + 1 := IntWalk.i64_in _ (by omega)
      obtain ⟨pb, off, rfl, hc⟩ := HL.out k hkl
      have e0 := hc 0 _ rfl
      rw [Nat.add_zero, Nat.mul_one] at e0
      have c0 := (hst.out.bel.cell (p := ⟨pb, off + k, none⟩) (block_lt_of_cell e0)).trans e0
      have hin := HI.out L[k] (List.getElem_mem hkl)
      have HTK : Hidden (cutL N (L.take (k + 1)) = cutL N (L.take k) ++ [((L[k] : Int), (N.drop (L[k] * 32)).take 32)]) := ⟨by rw [List.take_succ_eq_append_getElem hkl]; unfold cutL; rw [List.map_append]; rfl⟩
      generalize L[k] = q at *
      have s1 : IntKind.i64.wrap ((q : Int) * 32) = (q : Int) * 32 := IntWalk.i64_in _ (by omega)
      have s2 : IntKind.i64.wrap ((q : Int) + 1) = (q : Int) + 1 := IntWalk.i64_in _ (by omega)
      have s3 : IntKind.i64.wrap (((q : Int) + 1) * 32) = ((q : Int) + 1) * 32 := IntWalk.i64_in _ (by omega)
      have hcut := fun W => run_cut g 0 n c (q * 32) ((q + 1) * 32) (by omega) (by omega) (by omega) W
      rw [show (((q * 32 : Nat)) : Int) = (q : Int) * 32 by omega, show ((((q + 1) * 32 : Nat)) : Int) = ((q : Int) + 1) * 32 by omega, show (q + 1) * 32 - q * 32 = 32 by omega, Nat.zero_add] at hcut
      have hrd := (HR.out.below hst.out.bel HR.out.lt).rd.cut (q * 32) 32 (by rw [HNN.out]; omega)
      rw [Option.map_some, Addr.add_lit, Nat.zero_add] at hrd
      have hbl : ((N.drop (q * 32)).take 32).length = 32 := by simp; have := HNN.out; omega
      have HC := Hidden.mk (clone_some ⟨g, q * 32, none⟩ 32 (c - q * 32) ((N.drop (q * 32)).take 32) wr hbl (by omega) hrd)
      have HS := Hidden.mk hst.out
      have HBL := Hidden.mk hbl
      generalize (N.drop (q * 32)).take 32 = bq at *
      clear hst e0 hc hin hrd hbl
      go_wp2_with fail
      refine HC.out.mono ?_
      rintro e w1 ⟨g1, cap1, rfl, hg1, hr1, hb1⟩
      have hown1 := own_below HS.out.own hb1
      have HB1 := Hidden.mk (HS.out.bel.trans (hb1.mono HS.out.bel.size))
      have HR1 := Hidden.mk (And.intro hg1 hr1)
      have hal := (Below.refl w1.heap.size w1).alloc (Nat.le_refl _) (.cells #[.int .i64 (q : Int), .slice (some ⟨g1, 0, none⟩) 32 cap1] 69)
      have hown2 := own_below hown1 hal
      have hsz : w.heap.size ≤ w1.heap.size + 1 := by have := HB1.out.size; omega
      have HX := Hidden.mk (And.intro hb1 hal)
      have HO1 := Hidden.mk hown1
      clear hg1 hr1 hb1 hal hown1 HC
      go_wp2_with (at_builtin; refine wpList_append_lies _ rfl (.tmp 13) (.tmp 24) _ rfl w.heap.size 69 i0 _ 2 32 Tryd.underlying64 hi0 hz0 hz1 hz2 rfl (by decide) u4 k (X.flatMap pcells) rfl hown2 ⟨w1.heap.size, 0, none⟩ 1 1 [.int .i64 (q : Int), .slice (some ⟨g1, 0, none⟩) 32 cap1] rfl rfl (World.news_of_block (cs := #[.int .i64 (q : Int), .slice (some ⟨g1, 0, none⟩) 32 cap1]) (t := 69) (fr := (0, 0)) (heap_alloc_new w1 _)) (by simp [Value.oneCell']) (by omega) (by simp only [maxLen]; omega) (by omega) (by simp; exact hsz) (w1.heap.size + 1) (by simp) ?_; intro g8 cap8 w8 hown8 hg8 hat8 hlt8)
      have HN : Hidden (OwnPg w w8 (.slice (some ⟨g8, 0, none⟩) (k + 1) cap8) (k + 1) (X ++ [⟨(q : Int), some ⟨g1, 0, none⟩, cap1, bq⟩]) (cutL N (L.take (k + 1)))) := ⟨by
        obtain ⟨hb1, hal⟩ := HX.out
        obtain ⟨hg1, hr1⟩ := HR1.out
        have hold : ∀ p, u4.ownBlock = some p → p < wr.heap.size := fun p hp => (HS.out.own.lt p hp).2
        have hne1 : u4.ownBlock ≠ some g1 := fun e => by have := hold _ e; omega
        have h8 : g8 < w1.heap.size → u4.ownBlock = some g8 := fun h => by
          rcases hat8 with h' | h'
          · exact h'
          · omega
        refine ⟨by rw [List.length_append, HS.out.len]; rfl, ?_, ?_, fun x hx => ?_, ?_⟩
        · rw [HTK.out, ← HS.out.eq]; unfold pgs; rw [List.map_append]; rfl
        · rw [List.flatMap_append]
          have : (([⟨(q : Int), some ⟨g1, 0, none⟩, cap1, bq⟩] : List PgX)).flatMap pcells = [.int .i64 (q : Int), .slice (some ⟨g1, 0, none⟩) 32 cap1] := by
            simp [pcells, HBL.out]
          rw [this]; exact hown8
        · rcases List.mem_append.1 hx with hx | hx
          · obtain ⟨g', e1, e2, e3, e4⟩ := HS.out.body x hx
            have l3 := e3.lt
            refine ⟨g', e1, e2, (((e3.below hb1 l3).below hal (Nat.lt_of_lt_of_le l3 hb1.size)).grown hg8 e4), fun e => ?_⟩
            obtain rfl : g8 = g' := by simpa [Value.ownBlock] using e
            have := hb1.size
            exact e4 (h8 (by omega))
          · obtain rfl := List.mem_singleton.1 hx
            refine ⟨g1, rfl, Nat.le_trans HS.out.bel.size hg1, (hr1.below hal hr1.lt).grown hg8 hne1, fun e => ?_⟩
            obtain rfl : g8 = g1 := by simpa [Value.ownBlock] using e
            exact hne1 (h8 hr1.lt)
        · refine (HB1.out.trans (hal.mono HB1.out.size)).grown hg8 (Nat.le_trans HB1.out.size hal.size) (fun p hp => (HS.out.own.lt p hp).1)⟩
      clear hown2 hsz hown8 hg8 hat8 hlt8 HX HO1 HS HR1 HB1
      go_roundg (m - (k + 1))
      case measure => omega
      case rel => exact ⟨k + 1, _, by omega, rfl, by go_num, HN⟩
    · obtain rfl : k = m := by omega
      have t5 : decide ((k : Int) < k) = false := by simp
      have HS := Hidden.mk hst.out
      clear hst
      go_wp2_with fail
      go_ret
      exact ⟨_, X, rfl, by have := HS.out; rwa [List.take_of_length_le (by rw [HM.out]; exact Nat.le_refl _)] at this⟩
end Go.Proofs.YtmhlnbbnanehiaaDoor
/- Package view: Abort. -/
namespace Go.Proofs.YtmhlnbbnanehiaaDoor
open Go.RowKit Go.Maps Go.ChangeMaps

section
variable {w : World} {G : Nat → Prop} {v p cnt : Nat} {K N : Bytes} {f : Nat → Option Value}
/-- one row of a view is laid over the other -/
theorem VwH.laidN {w : World} (h : VwH w G v p K N f cnt) (hl : K.length = N.length) {gk ck gn cn bm : Nat} (h0 : w.heap[v]? = some (.cells #[.pointer (some ⟨p, 0, none⟩), .slice (some ⟨gk, 0, none⟩) K.length ck, .slice (some ⟨gn, 0, none⟩) N.length cn, .map (some bm)] 114 (0, 0))) : 
    ∃ w1, (∀ ty, (Builtin.copy_ #[22, 22] ty #[.slice (some ⟨gn, 0, none⟩) N.length cn, .slice (some ⟨gk, 0, none⟩) K.length ck]).run Tryd.prog w = .ok (.int .i64 (N.length : Int)) w1) ∧ VwH w1 G v p K K f cnt ∧ Keep G w w1 := by
  obtain ⟨gk', ck', gn', cn', bm', h0', hrk, hrn, hne, him, hG⟩ := h
  have e := h0.symm.trans h0'
  simp only [Option.some.injEq, Obj.cells.injEq, Array.mk.injEq, List.cons.injEq, Value.slice.injEq, Value.map.injEq, Addr.mk.injEq, and_true, true_and] at e
  obtain ⟨⟨rfl, rfl⟩, ⟨rfl, rfl⟩, rfl⟩ := e
  obtain ⟨cur, hcur, hc1, hc2, hcs, -⟩ := id hrn
  have hcp := fun ty => run_copy_rd w gn 0 N.length cn K.length ck N.length (some ⟨gk, 0, none⟩) K cur _ hcur rfl hrk.rd (by rw [hl]; exact (Nat.min_self _).symm) (by omega) ty
  rw [List.take_of_length_le (by omega)] at hcp
  have hset := hrn.set_ 0 K (by omega) cur hcur
  have hsp : splice N 0 K = K := by unfold splice; rw [List.take_zero, List.nil_append, List.drop_eq_nil_of_le (by omega), List.append_nil]
  rw [hsp] at hset
  have hgs := grownBy_setRow w gn (setB cur 0 (K.map bv))
  have hoth : ∀ q, q ≠ gn → (w.setRow gn (setB cur 0 (K.map bv))).heap[q]? = w.heap[q]? := fun q hq => by
    simp [World.setRow, Array.getElem?_modify, hq.symm]
  have hvn : v ≠ gn := DevIs.ne_row h0 hrn (by decide)
  have hbn : bm ≠ gn := (DevIs.ne_map hcur him).symm
  refine ⟨_, hcp, ⟨gk, ck, gn, cn, bm, ?_, hrk.block (hoth _ hne), hset, hne, him.block (hoth _ hbn), hG⟩, ⟨hgs.os, hgs.tape, hgs.output, hgs.size, fun q hq hn => hoth q (fun e => hn (e ▸ (hG gn).2 (.inr (.inr (.inl rfl)))))⟩⟩
  rw [hoth v hvn, h0, hl]
theorem VwH.laidK {w : World} (h : VwH w G v p K N f cnt) (hl : K.length = N.length) {gk ck gn cn bm : Nat} (h0 : w.heap[v]? = some (.cells #[.pointer (some ⟨p, 0, none⟩), .slice (some ⟨gk, 0, none⟩) K.length ck, .slice (some ⟨gn, 0, none⟩) N.length cn, .map (some bm)] 114 (0, 0))) : 
    ∃ w1, (∀ ty, (Builtin.copy_ #[22, 22] ty #[.slice (some ⟨gk, 0, none⟩) K.length ck, .slice (some ⟨gn, 0, none⟩) N.length cn]).run Tryd.prog w = .ok (.int .i64 (K.length : Int)) w1) ∧ VwH w1 G v p N N f cnt ∧ Keep G w w1 := by
  obtain ⟨gk', ck', gn', cn', bm', h0', hrk, hrn, hne, him, hG⟩ := h
  have e := h0.symm.trans h0'
  simp only [Option.some.injEq, Obj.cells.injEq, Array.mk.injEq, List.cons.injEq, Value.slice.injEq, Value.map.injEq, Addr.mk.injEq, and_true, true_and] at e
  obtain ⟨⟨rfl, rfl⟩, ⟨rfl, rfl⟩, rfl⟩ := e
  obtain ⟨cur, hcur, hc1, hc2, hcs, -⟩ := id hrk
  have hcp := fun ty => run_copy_rd w gk 0 K.length ck N.length cn K.length (some ⟨gn, 0, none⟩) N cur _ hcur rfl hrn.rd (by rw [hl]; exact (Nat.min_self _).symm) (by omega) ty
  rw [List.take_of_length_le (by omega)] at hcp
  have hset := hrk.set_ 0 N (by omega) cur hcur
  have hsp : splice K 0 N = N := by unfold splice; rw [List.take_zero, List.nil_append, List.drop_eq_nil_of_le (by omega), List.append_nil]
  rw [hsp] at hset
  have hgs := grownBy_setRow w gk (setB cur 0 (N.map bv))
  have hoth : ∀ q, q ≠ gk → (w.setRow gk (setB cur 0 (N.map bv))).heap[q]? = w.heap[q]? := fun q hq => by
    simp [World.setRow, Array.getElem?_modify, hq.symm]
  have hvn : v ≠ gk := DevIs.ne_row h0 hrk (by decide)
  have hbn : bm ≠ gk := (DevIs.ne_map hcur him).symm
  refine ⟨_, hcp, ⟨gk, ck, gn, cn, bm, ?_, hset, hrn.block (hoth _ hne.symm), hne, him.block (hoth _ hbn), hG⟩, ⟨hgs.os, hgs.tape, hgs.output, hgs.size, fun q hq hn => hoth q (fun e => hn (e ▸ (hG gk).2 (.inr (.inl rfl))))⟩⟩
  rw [hoth v hvn, h0, hl]
theorem VwH.cleared {w : World} (h : VwH w G v p K N f cnt) {gk ck gn cn bm : Nat} (h0 : w.heap[v]? = some (.cells #[.pointer (some ⟨p, 0, none⟩), .slice (some ⟨gk, 0, none⟩) K.length ck, .slice (some ⟨gn, 0, none⟩) N.length cn, .map (some bm)] 114 (0, 0))) :
    ∃ w1, (Builtin.clear_ #[112] 0 #[.map (some bm)]).run Tryd.prog w = .ok (.tuple #[]) w1 ∧ VwH w1 G v p K N (fun _ => none) 0 ∧ Keep G w w1 := by
  obtain ⟨gk', ck', gn', cn', bm', h0', hrk, hrn, hne, him, hG⟩ := h
  have e := h0.symm.trans h0'
  simp only [Option.some.injEq, Obj.cells.injEq, Array.mk.injEq, List.cons.injEq, Value.slice.injEq, Value.map.injEq, Addr.mk.injEq, and_true, true_and] at e
  obtain ⟨⟨rfl, rfl⟩, ⟨rfl, rfl⟩, rfl⟩ := e
  obtain ⟨w1, hrun, him1, hg1, hs1⟩ := him.clear_ (T := 112) Tryd.underlying112 0
  have hb : ∀ q, q ≠ bm → q < w.heap.size → w1.heap[q]? = w.heap[q]? := fun q hq hl => hg1.block q hl (fun e => hq (Option.some.inj e))
  obtain ⟨curk, hck, -⟩ := id hrk
  obtain ⟨curn, hcn, -⟩ := id hrn
  refine ⟨w1, hrun, ⟨gk, ck, gn, cn, bm, ?_, hrk.block (hb _ (DevIs.ne_map hck him) hrk.lt), hrn.block (hb _ (DevIs.ne_map hcn him) hrn.lt), hne, him1, hG⟩, ⟨hg1.os, hg1.tape, hg1.output, hg1.size, fun q hq hn => hb q (fun e => hn (e ▸ (hG bm).2 (.inr (.inr (.inr rfl))))) hq⟩⟩
  rw [hb v (DevIs.ne_map h0 him) (Array.getElem?_eq_some_iff.1 h0).1]
  exact h0
theorem VwH.drew (h : VwH w G v p K N f cnt) (n : Nat) : VwH (w.drewN n) G v p K N f cnt := h
set_option maxRecDepth 100000 in
theorem vabort_any (h : VwH w G v p K N f cnt) (hl : K.length = N.length) : Calls Tryd.prog 20 #[.pointer (some ⟨v, 0, none⟩)] w fun e w' => e = .returned (.tuple #[]) ∧ VwH w' G v p K K (fun _ => none) 0 ∧ Keep G w w' := by
  have HV := Hidden.mk h
  obtain ⟨gk, ck, gn, cn, bm, h0, hrk, hrn, hne, him, hG⟩ := h
  obtain ⟨c0, c1, c2, c3⟩ := four h0
  have H0 := Hidden.mk h0
  have HL := Hidden.mk hl
  clear h0 hrk hrn hne him hG hl
  go_enter Tryd.func20, Tryd.ntmps20
  go_upto_region 0 with (fail)
  go_still_tail 8, (by kernel_rfl)
  have hkd : Keep G w w.drew := Keep.of_below ((Below.refl _ w).drew)
  have hvd : VwH w.drew G v p K N f cnt := HV.out
  have h0d := show w.drew.heap[v]? = _ from H0.out
  obtain ⟨w1, hcp, hv1, hk1⟩ := hvd.laidN HL.out h0d
  have h01 : ∃ gk ck gn cn bm, w1.heap[v]? = some (.cells #[.pointer (some ⟨p, 0, none⟩), .slice (some ⟨gk, 0, none⟩) K.length ck, .slice (some ⟨gn, 0, none⟩) K.length cn, .map (some bm)] 114 (0, 0)) := by
    obtain ⟨gk, ck, gn, cn, bm, h0, -⟩ := hv1
    exact ⟨gk, ck, gn, cn, bm, h0⟩
  obtain ⟨gk1, ck1, gn1, cn1, bm1, h01⟩ := h01
  obtain ⟨y0, y1, y2, y3⟩ := four h01
  obtain ⟨w2, hclr, hv2, hk2⟩ := hv1.cleared h01
  have HF := Hidden.mk (And.intro hv2 ((hkd.trans hk1 (fun _ h => .inl h)).trans hk2 (fun _ h => .inl h)))
  change wpList _ _ _ _ _ w.drew
  clear hkd hvd h0d hv1 hk1 h01 hv2 hk2 c0 c1 c2 c3 HV H0 HL
  generalize w.drew = wd at *
  go_wp2_with fail
  go_end0
  exact ⟨rfl, HF.out⟩
end
end Go.Proofs.YtmhlnbbnanehiaaDoor
/- Package view: Commit. -/
namespace Go.Proofs.YtmhlnbbnanehiaaDoor
open Go.RowKit Go.Maps Go.ChangeMaps

section
variable {w0 w : World} {F G : Nat → Prop} {v p d st n : Nat} {D : Dv} {K N : Bytes} {S : Nat → Bool}
theorem setF_some {S : Nat → Bool} {k : Nat} : (setF S k).isSome = true ↔ S k = true := by
  unfold setF
  by_cases hk : S k = true
  · rw [if_pos hk]; simp [hk]
  · rw [if_neg hk]; simp [hk]
/-- what Commit leaves -/
structure VcM (w0 w w' : World) (F F' G : Nat → Prop) (v p d st n : Nat) (D : Dv) (K N : Bytes) (f : Nat → Option Value) (cnt : Nat) : Prop where
  dev : DevB w0 w' F' d D
  pg : PgH w' F' p d st n
  vw : VwH w' G v p K N f cnt
  kp : Keep (fun q => (F q ∨ q = p) ∨ G q) w w'
  sub : ∀ q, F' q → F q ∨ w.heap.size ≤ q
def VcAns (w0 w : World) (F G : Nat → Prop) (v p d st n : Nat) (D : Dv) (K N : Bytes) (S : Nat → Bool) (e : Ending) (w' : World) : Prop :=
  ∃ L, KeysOf (setF S) L ∧ e = .returned (errV (commitP st n (cutL N L) D).2) ∧ ∃ F',
    ((commitP st n (cutL N L) D).2 ≠ 0 → VcM w0 w w' F F' G v p d st n (commitP st n (cutL N L) D).1 K N (setF S) (cntS S)) ∧
    ((commitP st n (cutL N L) D).2 = 0 → VcM w0 w w' F F' G v p d (if L.length ≠ 0 then st + 1 else st) n (commitP st n (cutL N L) D).1 N N (fun _ => none) 0)
theorem OwnPg.pgsR {w1 w2 : World} {A : Option Addr} {m c : Nat} {X : List PgX} {l : List (Int × Bytes)} (h : OwnPg w1 w2 (.slice A m c) m X l) (hF : ∀ q, F q → q < w1.heap.size) : PgsR w2 F A X where
  rd := own_rdX3 (f := pcells) (fun _ => rfl) h.len h.own
  na := fun hl ad e hf => by
    obtain ⟨g, off, hA, hb, -⟩ := own_at (f := pcells) (fun _ => rfl) h.own 0 hl (by have := h.len; omega)
    rw [e] at hA
    obtain rfl := Option.some.inj hA
    have := hF _ hf
    dsimp only at this
    omega
  body := fun x hx => by
    obtain ⟨g, e, hb, hr, -⟩ := h.body x hx
    rw [e]; exact hr.rd
  nb := fun x hx _ ad e hf => by
    obtain ⟨g, e', hb, hr, -⟩ := h.body x hx
    rw [e] at e'
    obtain rfl := Option.some.inj e'
    have := hF _ hf
    dsimp only at this
    omega
theorem keysS_in {L : List Nat} (hk : KeysOf (setF S) L) (hS : ∀ k, S k = true → k < n) : (∀ i ∈ L, i < n) ∧ L.length ≤ n := by
  have h1 : ∀ i ∈ L, i < n := fun i hi => hS i (setF_some.1 ((hk.mem i).1 hi))
  exact ⟨h1, nodup_le n L (hk.up.imp (fun h => Nat.ne_of_lt h)) h1⟩
set_option maxRecDepth 100000 in
set_option maxHeartbeats 1000000 in
theorem vcommit_any (h : DevB w0 w F d D) (hp : PgH w F p d st n) (hn : n ≤ 200) (hst : st ≤ 4294967295) (h0 : w0.heap.size ≤ p) (hv : VwH w G v p K N (setF S) (cntS S)) (hGF : ∀ q, G q → ¬ F q) (hGn : ∀ q, G q → w0.heap.size ≤ q) (hN : N.length = 32 * n) (hK : K.length = N.length) (hS : ∀ k, S k = true → k < n) :
    Calls Tryd.prog 19 #[.pointer (some ⟨v, 0, none⟩)] w (VcAns w0 w F G v p d st n D K N S) := by
  have HD := Hidden.mk h
  have HP := Hidden.mk hp
  have HV := Hidden.mk hv
  have HGF := Hidden.mk hGF
  have HGN := Hidden.mk hGn
  have HK := Hidden.mk hK
  have HNL := Hidden.mk hN
  have HS := Hidden.mk hS
  have H0 := Hidden.mk h0
  have hGp : ∀ q, G q → q ≠ p := by
    obtain ⟨gk, ck, gn, cn, bm, a0, a1, a2, a3, a4, a5⟩ := hv
    intro q hq
    rcases (a5 q).1 hq with rfl | rfl | rfl | rfl
    · exact DevIs.ne_cells a0 hp.1 (by decide)
    · exact (DevIs.ne_row hp.1 a1 (by decide)).symm
    · exact (DevIs.ne_row hp.1 a2 (by decide)).symm
    · exact (DevIs.ne_map hp.1 a4).symm
  have HGP := Hidden.mk hGp
  obtain ⟨gk, ck, gn, cn, bm, hv0, hrk, hrn, hne, him, hG⟩ := hv
  obtain ⟨c0, c1, c2, c3⟩ := four hv0
  have HRN := Hidden.mk hrn
  have HDR := Hidden.mk (vdirty_any (w := w.drew) (G := G) (v := v) (p := p) (K := K) (N := N) HV.out (Nat.le_trans (cntS_le S) (by omega)))
  have KC := Hidden.mk (And.intro c0 c2)
  have hlen := hN
  rw [hlen] at c2 KC
  clear h hp hGF hGn hK hN hS h0 hGp hv0 hrk hrn hne him hG c1 c3 hlen
  have HST := Hidden.mk hst
  have HVL := Hidden.mk (show v < w.heap.size from block_lt_of_cell c0)
  have HVF := Hidden.mk (show ¬ (F v ∨ v = p) by
    have hv : G v := by obtain ⟨_, _, _, _, _, _, _, _, _, _, hG⟩ := HV.out; exact (hG v).2 (.inl rfl)
    rintro (h | h)
    · exact HGF.out v hv h
    · exact HGP.out v hv h)
  have KB : Hidden (∀ W, Below w.heap.size w W → W.cell? ⟨v, 0, none⟩ = some (.pointer (some ⟨p, 0, none⟩)) ∧ W.cell? ⟨v, 2, none⟩ = some (.slice (some ⟨gn, 0, none⟩) (32 * n) cn)) := ⟨fun W hW => ⟨(hW.cell (p := ⟨v, 0, none⟩) HVL.out).trans c0, (hW.cell (p := ⟨v, 2, none⟩) HVL.out).trans c2⟩⟩
  have KE : Hidden (∀ W W' : World, Below w.heap.size w W → Keep (fun q => F q ∨ q = p) W W' → W'.cell? ⟨v, 0, none⟩ = some (.pointer (some ⟨p, 0, none⟩)) ∧ W'.cell? ⟨v, 2, none⟩ = some (.slice (some ⟨gn, 0, none⟩) (32 * n) cn)) := ⟨fun W W' hW hk => by
    have e := hk.block v (Nat.lt_of_lt_of_le HVL.out hW.size) HVF.out
    obtain ⟨a, b⟩ := KB.out W hW
    exact ⟨(World.cell?_of_block (w := W) (a := ⟨v, 0, none⟩) e).trans a, (World.cell?_of_block (w := W) (a := ⟨v, 2, none⟩) e).trans b⟩⟩
  clear c0 c2 hst
  go_enter Tryd.func19, Tryd.ntmps19
  go_upto_region 1 with (fail)
  go_region_held3 (fun W => W.cell? ⟨v, 0, none⟩ = some (.pointer (some ⟨p, 0, none⟩)) ∧ W.cell? ⟨v, 2, none⟩ = some (.slice (some ⟨gn, 0, none⟩) (32 * n) cn)) (first | exact KC.out | exact KE.out _ _ hB2 hm3.kp | exact KB.out _ hB2 | exact KB.out _ hB1)
    (first
      | (go_at_call 17; refine HDR.out.mono ?_; rintro e w1 ⟨u, L, rfl, hk, hown, hb1⟩; obtain ⟨A1, c1, rfl, hAc1, hx1⟩ := own_ints hown rfl; have hB1 : Below w.heap.size w w1 := ((Below.refl _ w).drew).trans hb1)
      | (go_at_call 67; refine (cut_ok gn (32 * n) cn N A1 L.length c1 L w1 HNL.out (by omega) (HRN.out.below hB1 HRN.out.lt) rfl (Nat.le_trans (keysS_in hk HS.out).2 hn) hx1 (fun i hi => by have := (keysS_in hk HS.out).1 i hi; omega)).mono ?_; rintro e w2 ⟨u2, X, rfl, hX⟩; obtain ⟨A2, c2, rfl, hAc2, -⟩ := own_split hX.own; have hB2 : Below w.heap.size w w2 := hB1.trans (hX.bel.mono hB1.size))
      | (go_at_call 37; refine (pcommit_any (HD.out.below hB2) (HP.out.below hB2) hn HST.out H0.out A2 L.length c2 X hX.len hAc2 (hX.pgsR (fun q hq => Nat.lt_of_lt_of_le (HD.out.flt q hq) hB1.size))).mono ?_; rintro e w3 ⟨rfl, F3, hm3⟩))
  all_goals
    rename_i hheld
    clear hheld
    rw [hX.eq] at hm3
    rw [hX.eq]
  have hvw := (HV.out.below hB2).keep hm3.kp (fun q hq hf => hf.elim (HGF.out q hq) (HGP.out q hq))
  have hkp := (Keep.of_below (F := fun q => F q ∨ q = p) hB2).trans hm3.kp (fun _ h => .inl h)
  have hsub : ∀ q, F3 q → F q ∨ w.heap.size ≤ q := fun q hq => by
    rcases hm3.sub q hq with h | h
    · exact .inl h
    · have := hB2.size; exact .inr (by omega)
  rw [hX.len] at hm3
  have HKS := Hidden.mk hk
  have HM := Hidden.mk (And.intro hm3.dev (And.intro hm3.pg (And.intro hvw (And.intro hkp hsub))))
  obtain ⟨r, hr⟩ : ∃ r, commitP st n (cutL N L) D = r := ⟨_, rfl⟩
  rw [hr] at HM
  rw [hr]
  have HQ := Hidden.mk hr
  clear hvw hkp hsub hm3 hk hr hX hB2 hB1 hb1 hown hx1 hAc1 hAc2 KB KE KC HDR
  by_cases hr0 : r.2 = 0
  · have HR0 := Hidden.mk hr0
    rw [hr0, errV0]
    rw [hr0] at HM
    clear hr0
    obtain ⟨gk1, ck1, gn1, cn1, bm1, z0, -⟩ := HM.out.2.2.1
    obtain ⟨y0, y1, y2, y3⟩ := four z0
    have z0d := show w3.drew.heap[v]? = _ from z0
    have hvd : VwH w3.drew G v p K N (setF S) (cntS S) := HM.out.2.2.1
    obtain ⟨w4, hcp, hv4, hk4⟩ := hvd.laidK HK.out z0d
    have h04 : ∃ gk ck gn cn bm, w4.heap[v]? = some (.cells #[.pointer (some ⟨p, 0, none⟩), .slice (some ⟨gk, 0, none⟩) N.length ck, .slice (some ⟨gn, 0, none⟩) N.length cn, .map (some bm)] 114 (0, 0)) := by
      obtain ⟨gk, ck, gn, cn, bm, h0, -⟩ := hv4
      exact ⟨gk, ck, gn, cn, bm, h0⟩
    obtain ⟨gk2, ck2, gn2, cn2, bm2, h04⟩ := h04
    obtain ⟨x0, x1, x2, x3⟩ := four h04
    obtain ⟨w5, hclr, hv5, hk5⟩ := hv4.cleared h04
    have hk35 : Keep G w3 w5 := ((Keep.of_below ((Below.refl _ w3).drew)).trans hk4 (fun _ h => .inl h)).trans hk5 (fun _ h => .inl h)
    have HF : Hidden (VcM w0 w w5 F F3 G v p d (if L.length ≠ 0 then st + 1 else st) n r.1 N N (fun _ => none) 0) := ⟨by
      obtain ⟨a1, a2, a3, a4, a5⟩ := HM.out
      have hlt := a1.flt
      have e : (if (0 : Nat) = 0 ∧ L.length ≠ 0 then st + 1 else st) = (if L.length ≠ 0 then st + 1 else st) := by
        by_cases h : L.length ≠ 0
        · rw [if_pos ⟨rfl, h⟩, if_pos h]
        · rw [if_neg (fun x => h x.2), if_neg h]
      rw [e] at a2
      refine ⟨?_, ?_, hv5, (a4.wide (fun q hq => .inl hq)).trans (hk35.wide (fun q hq => .inr hq)) (fun q hq => .inl hq), a5⟩
      · exact a1.keep hk35 (fun q hq hg => by
          rcases a5 q hq with h | h
          · exact HGF.out q hg h
          · have := HV.out.lt q hg; omega) HGN.out
      · exact ⟨(hk35.block p a2.lt (fun hg => HGP.out p hg rfl)).trans a2.1, a2.2⟩⟩
    clear z0 z0d hvd hv4 hk4 h04 hv5 hk5 hk35
    go_upto_region 4 with (fail)
    go_still_tail 8, (by kernel_rfl)
    change wpList _ _ _ _ _ w3.drew
    clear y0 y1 y2 y3
    generalize w3.drew = wd at *
    go_wp2_with fail
    go_ret
    exact ⟨L, HKS.out, by rw [HQ.out, HR0.out]; rfl, F3, fun h => absurd (by rw [HQ.out]; exact HR0.out) h, fun _ => by rw [HQ.out]; exact HF.out⟩
  · have HR0 := Hidden.mk hr0
    rw [errV_pos hr0]
    clear hr0
    go_wp2_with fail
    go_ret
    refine ⟨L, HKS.out, by rw [HQ.out, errV_pos HR0.out]; rfl, F3, fun _ => ?_, fun h => absurd (by rw [HQ.out] at h; exact h) HR0.out⟩
    rw [HQ.out]
    obtain ⟨a1, a2, a3, a4, a5⟩ := HM.out
    rw [if_neg (fun x => HR0.out x.1)] at a2
    exact ⟨a1, a2, a3, a4.wide (fun q hq => .inl hq), a5⟩
end
end Go.Proofs.YtmhlnbbnanehiaaDoor
/- ViewBack: the plain law: pages of bytes, written, committed, opened. No program in sight. -/
namespace Go.Proofs.YtmhlnbbnanehiaaDoor
open Go.RowKit Go.Maps Go.ChangeMaps

/-- a page of bytes -/
def pgB (N : Bytes) (k : Nat) : Bytes := (N.drop (k * 32)).take 32
theorem pgB_at {N : Bytes} {k j : Nat} (hj : j < 32) : (pgB N k)[j]? = N[k * 32 + j]? := by
  unfold pgB
  rw [List.getElem?_take, if_pos hj, List.getElem?_drop]
theorem pgB_len {N : Bytes} {n k : Nat} (h : N.length = 32 * n) (hk : k < n) : (pgB N k).length = 32 := by
  unfold pgB
  simp
  omega
theorem pgB_ext {a b : Bytes} {k : Nat} (h : ∀ j, j < 32 → a[k * 32 + j]? = b[k * 32 + j]?) : pgB a k = pgB b k := by
  apply List.ext_getElem?
  intro j
  by_cases hj : j < 32
  · rw [pgB_at hj, pgB_at hj, h j hj]
  · unfold pgB
    rw [List.getElem?_take, List.getElem?_take, if_neg hj, if_neg hj]
theorem eq_of_pages {a b : Bytes} {n : Nat} (ha : a.length = 32 * n) (hb : b.length = 32 * n) (h : ∀ k, k < n → pgB a k = pgB b k) : a = b := by
  apply List.ext_getElem?
  intro i
  by_cases hi : i < 32 * n
  · have h1 := congrArg (fun l => l[i % 32]?) (h (i / 32) (by omega))
    rw [pgB_at (by omega), pgB_at (by omega), show i / 32 * 32 + i % 32 = i by omega] at h1
    exact h1
  · rw [List.getElem?_eq_none (by omega), List.getElem?_eq_none (by omega)]
theorem allB_page {D : Dv} : ∀ (n k : Nat), (∀ i, i < n → (readD D (48 + i)).length = 32) → k < n → pgB (allB D n) k = readD D (48 + k)
  | 0, k, _, hk => by omega
  | n + 1, k, h, hk => by
    have hl := allB_len (D := D) n (fun i hi => h i (by omega))
    rw [allB_succ]
    by_cases hkn : k < n
    · rw [← allB_page n k (fun i hi => h i (by omega)) hkn]
      refine pgB_ext fun j hj => ?_
      rw [List.getElem?_append_left (by omega)]
    · obtain rfl : k = n := by omega
      have h32 := h k (by omega)
      unfold pgB
      rw [List.drop_append, List.drop_eq_nil_of_le (by omega), List.nil_append, hl, show k * 32 - 32 * k = 0 by omega, List.drop_zero, List.take_of_length_le (by omega)]
theorem layB_at {N b : Bytes} {x i : Nat} (h : x + b.length ≤ N.length) (hi : i < x ∨ x + b.length ≤ i) : (layB N x b)[i]? = N[i]? := by
  have hs : layB N x b = splice N x b := by unfold splice layB; rw [List.append_assoc]
  rw [hs, splice_rd _ _ _ _ h, if_neg (by omega)]
/-- a page that was not touched -/
theorem layB_page {N b : Bytes} {S : Nat → Bool} {x k : Nat} (h : x + b.length ≤ N.length) (_hb : 0 < b.length) (hd : drtS S x b.length k = false) : pgB (layB N x b) k = pgB N k := by
  refine pgB_ext fun j hj => layB_at h ?_
  have : ¬ (x / 32 ≤ k ∧ k ≤ (x + b.length - 1) / 32) := fun hc => by
    have : drtS S x b.length k = true := drtS_iff.2 (.inr (.inl (by omega)))
    rw [hd] at this
    cases this
  omega
theorem wr_page {N b : Bytes} {S : Nat → Bool} {x : Int} {k : Nat} (hd : wrVS N S x b k = false) : S k = false ∧ pgB (wrVN N S x b) k = pgB N k := by
  unfold wrVS at hd
  unfold wrVN
  by_cases h : wrVE N S x b = 0 ∧ b.length ≠ 0
  · rw [if_pos h] at hd
    rw [if_pos h]
    have hv : vhas N x b.length = true := by
      cases hv : vhas N x b.length with
      | true => rfl
      | false => have h1 := h.1; unfold wrVE at h1; rw [if_pos hv] at h1; cases h1
    refine ⟨?_, layB_page (S := S) (vhas_nat hv).2 (by omega) hd⟩
    cases hs : S k with
    | false => rfl
    | true => rw [drtS_iff.2 (.inl hs)] at hd; cases hd
  · rw [if_neg h] at hd
    rw [if_neg h]
    exact ⟨hd, rfl⟩
theorem wrVS_cnt {N b : Bytes} {S : Nat → Bool} {x : Int} (hS : cntS S ≤ 23) : cntS (wrVS N S x b) ≤ 23 := by
  unfold wrVS
  by_cases h : wrVE N S x b = 0 ∧ b.length ≠ 0
  · rw [if_pos h]
    have h1 := h.1
    unfold wrVE at h1
    cases hv : vhas N x b.length with
    | false => rw [hv, if_pos rfl] at h1; cases h1
    | true =>
      rw [hv, if_neg (by decide), if_neg h.2] at h1
      by_cases hc : 23 < cntS (drtS S x.toNat b.length)
      · rw [if_pos hc] at h1; cases h1
      · omega
  · rw [if_neg h]; exact hS
theorem wrVS_lt {N b : Bytes} {S : Nat → Bool} {x : Int} {n : Nat} (hN : N.length = 32 * n) (hS : ∀ k, S k = true → k < n) : ∀ k, wrVS N S x b k = true → k < n := by
  intro k
  unfold wrVS
  by_cases h : wrVE N S x b = 0 ∧ b.length ≠ 0
  · rw [if_pos h]
    have hv : vhas N x b.length = true := by
      cases hv : vhas N x b.length with
      | true => rfl
      | false => have h1 := h.1; unfold wrVE at h1; rw [if_pos hv] at h1; cases h1
    have h2 := (vhas_nat hv).2
    intro hk
    rcases drtS_iff.1 hk with hk | hk | hk
    · exact hS k hk
    · omega
    · omega
  · rw [if_neg h]; exact hS k
theorem keysS_cnt {S : Nat → Bool} {L : List Nat} (hk : KeysOf (setF S) L) (hS : ∀ k, S k = true → k < 200) : L.length = cntS S := by
  unfold cntS
  refine len_eq_of_mem (hk.up.imp (fun h => Nat.ne_of_lt h)) (List.nodup_range.filter S) fun x => ?_
  rw [hk.mem, setF_some, List.mem_filter, List.mem_range]
  exact ⟨fun h => ⟨hS x h, h⟩, fun h => h.2⟩
theorem cutL_ok {N : Bytes} {n : Nat} {L : List Nat} (hN : N.length = 32 * n) (hL : ∀ i ∈ L, i < n) (hn : L.Nodup) (hc : L.length ≤ 23) : ChkOk n (cutL N L) where
  len := by unfold cutL; rw [List.length_map]; exact hc
  each := fun x hx => by
    obtain ⟨i, hi, rfl⟩ := List.mem_map.1 hx
    have := hL i hi
    refine ⟨by simp, by simp; omega, pgB_len hN this⟩
  nd := by
    unfold cutL
    rw [List.map_map]
    refine List.pairwise_map.2 (hn.imp fun {a b} hab e => hab ?_)
    simp only [Function.comp] at e
    omega
theorem fold_cut {N : Bytes} {k : Nat} : ∀ (L : List Nat) (d : Bytes), (cutL N L).foldl (fun d x => if x.1 = (k : Int) then x.2 else d) d = if k ∈ L then pgB N k else d
  | [], d => by simp [cutL]
  | i :: r, d => by
    show (cutL N r).foldl _ (if (i : Int) = (k : Int) then (N.drop (i * 32)).take 32 else d) = _
    rw [fold_cut r]
    by_cases hr : k ∈ r
    · rw [if_pos hr, if_pos (List.mem_cons_of_mem _ hr)]
    · rw [if_neg hr]
      by_cases hik : i = k
      · subst hik
        rw [if_pos rfl, if_pos List.mem_cons_self]
        rfl
      · rw [if_neg (by omega), if_neg (fun h => (List.mem_cons.1 h).elim (fun e => hik e.symm) hr)]
theorem updPg_cut {N : Bytes} {pg : Nat → Bytes} {L : List Nat} (k : Nat) : updPg pg (cutL N L) k = if k ∈ L then pgB N k else pg k := fold_cut L (pg k)
/-- what a commit of the dirty pages makes -/
theorem commit_view {nn n st : Nat} {D : Dv} {pg : Nat → Bytes} {N K : Bytes} {S : Nat → Bool} {L : List Nat} (h : SfP nn n D st pg) (hst : st < 4294967295) (hn1 : 1 ≤ n) (hN : N.length = 32 * n) (hK : K = allB D n) (hag : ∀ k, k < n → S k = false → pgB N k = pgB K k) (hS : ∀ k, S k = true → k < n) (hc : cntS S ≤ 23) (hk : KeysOf (setF S) L) (hn2 : n ≤ 200) :
    (commitP st n (cutL N L) D).2 = 0 ∧ (∃ pg', SfP nn n (commitP st n (cutL N L) D).1 (if L.length ≠ 0 then st + 1 else st) pg') ∧ allB (commitP st n (cutL N L) D).1 n = N := by
  have hlen : L.length ≤ 23 := by rw [keysS_cnt hk (fun k h => by have := hS k h; omega)]; exact hc
  have hLn : ∀ i ∈ L, i < n := fun i hi => hS i (setF_some.1 ((hk.mem i).1 hi))
  have hok := cutL_ok hN hLn (hk.up.imp (fun h => Nat.ne_of_lt h)) hlen
  have hn0 := h.n0
  have hz := commit_zero h.up st n (cutL N L) (by have := h.len; unfold nP at hn0; omega) hok hst
  obtain ⟨h2, -⟩ := h.commit2 (cutL N L)
  have hcl : (cutL N L).length = L.length := by unfold cutL; rw [List.length_map]
  rw [if_pos hz, hcl] at h2
  have e : (if (commitP st n (cutL N L) D).2 = 0 ∧ L.length ≠ 0 then st + 1 else st) = if L.length ≠ 0 then st + 1 else st := by
    by_cases h : L.length ≠ 0
    · rw [if_pos ⟨hz, h⟩, if_pos h]
    · rw [if_neg (fun x => h x.2), if_neg h]
  rw [e] at h2
  have hp : ∀ i, i < n → (readD (commitP st n (cutL N L) D).1 (48 + i)).length = 32 := fun i hi => by
    rw [(h2.page i hi).1]; exact (h2.page i hi).2
  refine ⟨hz, ⟨_, h2⟩, eq_of_pages (allB_len n hp) hN fun k hk' => ?_⟩
  rw [allB_page n k hp hk', (h2.page k hk').1, updPg_cut]
  by_cases hkL : k ∈ L
  · rw [if_pos hkL]
  · rw [if_neg hkL]
    have hSk : S k = false := by
      cases hs : S k with
      | false => rfl
      | true => exact absurd ((hk.mem k).2 (setF_some.2 hs)) hkL
    rw [hag k hk' hSk, hK, allB_page n k (fun i hi => by rw [(h.page i hi).1]; exact (h.page i hi).2) hk', (h.page k hk').1]
/-- what Write says, and leaves, in few words -/
theorem wr_ok {N b : Bytes} {S : Nat → Bool} {x : Int} (h : wrVE N S x b = 0) : 0 ≤ x ∧ x + b.length ≤ N.length ∧ wrVN N S x b = splice N x.toNat b := by
  have hv : vhas N x b.length = true := by
    cases hv : vhas N x b.length with
    | true => rfl
    | false => unfold wrVE at h; rw [if_pos hv] at h; cases h
  obtain ⟨h1, h2⟩ := vhas_nat hv
  have hs : layB N x.toNat b = splice N x.toNat b := by unfold splice layB; rw [List.append_assoc]
  refine ⟨h1, by omega, ?_⟩
  unfold wrVN
  by_cases hb : b.length = 0
  · rw [if_neg (fun q => q.2 hb), ← hs]
    have : b = [] := List.eq_nil_of_length_eq_zero hb
    rw [this, layB_nil]
  · rw [if_pos ⟨h, hb⟩, hs]
theorem wr_bad {N b : Bytes} {S : Nat → Bool} {x : Int} (h : wrVE N S x b ≠ 0) : wrVN N S x b = N := by
  unfold wrVN
  rw [if_neg (fun q => h q.1)]
end Go.Proofs.YtmhlnbbnanehiaaDoor
/- ViewBack: what the law keeps at hand. -/
namespace Go.Proofs.YtmhlnbbnanehiaaDoor
open Go.RowKit Go.Maps Go.ChangeMaps

structure VbSt (w0 w : World) (F G : Nat → Prop) (d p v gx cx gy cy nn n st : Nat) (D : Dv) (M R N K : Bytes) (S : Nat → Bool) : Prop where
  dev : DevB w0 w F d D
  pg : PgH w F p d st n
  sf : ∃ pg, SfP nn n D st pg
  vw : VwH w G v p K N (setF S) (cntS S)
  gf : ∀ q, G q → ¬ F q
  gn : ∀ q, G q → w0.heap.size ≤ q
  pn : w0.heap.size ≤ p
  now : Row w 5 gx cx M
  kep : Row w 5 gy cy R
  xn : w0.heap.size ≤ gx
  yn : w0.heap.size ≤ gy
  xf : ¬ F gx ∧ ¬ G gx
  yf : ¬ F gy ∧ ¬ G gy
  xy : gx ≠ gy
  ln : N.length = 32 * n
  lk : K.length = 32 * n
  kb : K = allB D n
  ag : ∀ k, k < n → S k = false → pgB N k = pgB K k
  sn : ∀ k, S k = true → k < n
  s23 : cntS S ≤ 23
section
variable {w0 w w' : World} {F F' G G' : Nat → Prop} {d p v gx cx gy cy nn n st : Nat} {D : Dv} {M R N K : Bytes} {S : Nat → Bool}
theorem VbSt.gp (h : VbSt w0 w F G d p v gx cx gy cy nn n st D M R N K S) : ∀ q, G q → q ≠ p := by
  obtain ⟨gk, ck, gn, cn, bm, a0, a1, a2, a3, a4, a5⟩ := h.vw
  intro q hq
  rcases (a5 q).1 hq with rfl | rfl | rfl | rfl
  · exact DevIs.ne_cells a0 h.pg.1 (by decide)
  · exact (DevIs.ne_row h.pg.1 a1 (by decide)).symm
  · exact (DevIs.ne_row h.pg.1 a2 (by decide)).symm
  · exact (DevIs.ne_map h.pg.1 a4).symm
theorem VbSt.below (h : VbSt w0 w F G d p v gx cx gy cy nn n st D M R N K S) (hb : Below w.heap.size w w') : VbSt w0 w' F G d p v gx cx gy cy nn n st D M R N K S :=
  { h with dev := h.dev.below hb, pg := h.pg.below hb, vw := h.vw.below hb, now := h.now.below hb h.now.lt, kep := h.kep.below hb h.kep.lt }
theorem VbSt.write (h : VbSt w0 w F G d p v gx cx gy cy nn n st D M R N K S) {x : Int} {b : Bytes} (hv : VwH w' G' v p K (wrVN N S x b) (setF (wrVS N S x b)) (cntS (wrVS N S x b))) (hk : Keep G w w') (hG : ∀ q, G' q → G q ∨ w.heap.size ≤ q) (hl : (wrVN N S x b).length = N.length) :
    VbSt w0 w' F G' d p v gx cx gy cy nn n st D M R (wrVN N S x b) K (wrVS N S x b) where
  dev := h.dev.keep hk (fun q hq hg => h.gf q hg hq) h.gn
  pg := ⟨(hk.block p h.pg.lt (fun hg => h.gp p hg rfl)).trans h.pg.1, h.pg.2⟩
  sf := h.sf
  vw := hv
  gf := fun q hq hf => by
    rcases hG q hq with h' | h'
    · exact h.gf q h' hf
    · have := h.dev.flt q hf; omega
  gn := fun q hq => by
    rcases hG q hq with h' | h'
    · exact h.gn q h'
    · exact Nat.le_trans h.dev.bel.size h'
  pn := h.pn
  now := hk.row h.now h.xf.2
  kep := hk.row h.kep h.yf.2
  xn := h.xn
  yn := h.yn
  xf := ⟨h.xf.1, fun hg => by
    rcases hG _ hg with h' | h'
    · exact h.xf.2 h'
    · have := h.now.lt; omega⟩
  yf := ⟨h.yf.1, fun hg => by
    rcases hG _ hg with h' | h'
    · exact h.yf.2 h'
    · have := h.kep.lt; omega⟩
  xy := h.xy
  ln := hl.trans h.ln
  lk := h.lk
  kb := h.kb
  ag := fun k hk' hs => by
    obtain ⟨h1, h2⟩ := wr_page hs
    rw [h2]; exact h.ag k hk' h1
  sn := wrVS_lt h.ln h.sn
  s23 := wrVS_cnt h.s23
/-- a byte is put into the row of what is now -/
theorem VbSt.put (h : VbSt w0 w F G d p v gx cx gy cy nn n st D M R N K S) (i : Nat) (hi : i < M.length) (x : UInt8) : VbSt w0 (w.setCell ⟨gx, i, none⟩ (bv x)) F G d p v gx cx gy cy nn n st D (M.set i x) R N K S := by
  have hk : Keep (fun q => q = gx) w (w.setCell ⟨gx, i, none⟩ (bv x)) := Keep.setCell (F := fun q => q = gx) (Keep.refl _ _) (p := ⟨gx, i, none⟩) (.inl rfl) _
  obtain ⟨cur, hcur, -⟩ := id h.now
  exact { h with dev := h.dev.keep hk (fun q hq e => h.xf.1 (e ▸ hq)) (fun q e => e ▸ h.xn), pg := ⟨(hk.block p h.pg.lt (DevIs.ne_row h.pg.1 h.now (by decide))).trans h.pg.1, h.pg.2⟩, vw := h.vw.keep hk (fun q hq e => h.xf.2 (e ▸ hq)), now := h.now.store i hi x, kep := hk.row h.kep (fun e => h.xy e.symm) }
theorem VbSt.commit (h : VbSt w0 w F G d p v gx cx gy cy nn n st D M R N K S) (hst : st < 4294967295) (hn1 : 1 ≤ n) (hn2 : n ≤ 200) {L : List Nat} (hk : KeysOf (setF S) L) (hm : VcM w0 w w' F F' G v p d (if L.length ≠ 0 then st + 1 else st) n (commitP st n (cutL N L) D).1 N N (fun _ => none) 0) :
    VbSt w0 w' F' G d p v gx cx gy cy nn n (if L.length ≠ 0 then st + 1 else st) (commitP st n (cutL N L) D).1 M R N N (fun _ => false) := by
  obtain ⟨pg, hsf⟩ := h.sf
  obtain ⟨c1, c2, c3⟩ := commit_view hsf hst hn1 h.ln h.kb h.ag h.sn h.s23 hk hn2
  have hnew : ∀ q, F' q → q < w.heap.size → F q := fun q hq hl => by
    rcases hm.sub q hq with h' | h'
    · exact h'
    · omega
  have hro : ∀ {g c : Nat} {l : Bytes}, Row w 5 g c l → ¬ F g → ¬ G g → Row w' 5 g c l := fun {g c l} hr hf hg => hm.kp.row hr (fun hx => by
    rcases hx with (hx | hx) | hx
    · exact hf hx
    · exact DevIs.ne_row h.pg.1 hr (by decide) hx.symm
    · exact hg hx)
  have hvw := hm.vw
  exact { dev := hm.dev, pg := hm.pg, sf := c2, vw := (by rw [setF_none, cntS_none]; exact hvw), gf := fun q hq hf => h.gf q hq (hnew q hf (h.vw.lt q hq)), gn := h.gn, pn := h.pn, now := hro h.now h.xf.1 h.xf.2, kep := hro h.kep h.yf.1 h.yf.2, xn := h.xn, yn := h.yn, xf := ⟨fun hf => h.xf.1 (hnew _ hf h.now.lt), h.xf.2⟩, yf := ⟨fun hf => h.yf.1 (hnew _ hf h.kep.lt), h.yf.2⟩, xy := h.xy, ln := h.ln, lk := h.ln, kb := c3.symm, ag := (fun k _ _ => rfl), sn := (fun k hk => by cases hk), s23 := (by rw [cntS_none]; omega) }
theorem VbSt.abort (h : VbSt w0 w F G d p v gx cx gy cy nn n st D M R N K S) (hv : VwH w' G v p K K (fun _ => none) 0) (hk : Keep G w w') : VbSt w0 w' F G d p v gx cx gy cy nn n st D M R K K (fun _ => false) :=
  { h with dev := h.dev.keep hk (fun q hq hg => h.gf q hg hq) h.gn, pg := ⟨(hk.block p h.pg.lt (fun hg => h.gp p hg rfl)).trans h.pg.1, h.pg.2⟩, vw := (by rw [setF_none, cntS_none]; exact hv), now := hk.row h.now h.xf.2, kep := hk.row h.kep h.yf.2, ln := h.lk, ag := (fun k _ _ => rfl), sn := (fun k hk => by cases hk), s23 := (by rw [cntS_none]; omega) }
theorem VbSt.newX (h : VbSt w0 w F G d p v gx cx gy cy nn n st D M R N K S) (hb : Below w.heap.size w w') {g c : Nat} {M' : Bytes} (hg : w.heap.size ≤ g) (hr : Row w' 5 g c M') : VbSt w0 w' F G d p v g c gy cy nn n st D M' R N K S :=
  { h.below hb with now := hr, xn := Nat.le_trans h.dev.bel.size hg, xf := ⟨fun hf => by have := h.dev.flt _ hf; omega, fun hf => by have := h.vw.lt _ hf; omega⟩, xy := fun e => by have := h.kep.lt; omega }
theorem VbSt.newY (h : VbSt w0 w F G d p v gx cx gy cy nn n st D M R N K S) (hb : Below w.heap.size w w') {g c : Nat} {M' : Bytes} (hg : w.heap.size ≤ g) (hr : Row w' 5 g c M') : VbSt w0 w' F G d p v gx cx g c nn n st D M M' N K S :=
  { h.below hb with kep := hr, yn := Nat.le_trans h.dev.bel.size hg, yf := ⟨fun hf => by have := h.dev.flt _ hf; omega, fun hf => by have := h.vw.lt _ hf; omega⟩, xy := fun e => by have := h.now.lt; omega }
/-- opened again -/
theorem opened_view {nn n st : Nat} {D : Dv} (h : ∃ pg, SfP nn n D st pg) : (openP D).2 = 0 ∧ (∃ pg, SfP nn n (openP D).1 st pg) ∧ (openMk D).1 = st ∧ allB (openP D).1 n = allB D n ∧ (allB D n).length = 32 * n ∧ (openP D).1.down = false ∧ ∀ i, i < n → (readD (openP D).1 (48 + i)).length = 32 := by
  obtain ⟨pg, h⟩ := h
  obtain ⟨l, hl⟩ := h.full
  obtain ⟨a, b, _, c, e, f⟩ := open_up hl.hold h.wf h.up
  have h2 : SfP nn n (openP D).1 st pg := ⟨⟨l, b⟩, e, c, f.trans h.len, by rw [show nP (openP D).1 = nP D from by unfold nP; rw [f]]; exact h.n0⟩
  have p1 : ∀ i, i < n → (readD D (48 + i)).length = 32 := fun i hi => by rw [(h.page i hi).1]; exact (h.page i hi).2
  have p2 : ∀ i, i < n → (readD (openP D).1 (48 + i)).length = 32 := fun i hi => by rw [(h2.page i hi).1]; exact (h2.page i hi).2
  refine ⟨a, ⟨pg, h2⟩, by rw [hl.hold.opened], ?_, allB_len n p1, c.2, p2⟩
  refine eq_of_pages (allB_len n p2) (allB_len n p1) fun k hk => ?_
  rw [allB_page n k p2 hk, allB_page n k p1 hk, (h2.page k hk).1, (h.page k hk).1]
/-- append([]byte{}, row..) -/
theorem own_empty (w : World) : (w.alloc (.cells #[] 5)).ownsRow w.heap.size 5 1 (.slice (some ⟨w.heap.size, 0, none⟩) 0 0) 0 [] :=
  ⟨rfl, .inr ⟨w.heap.size, 0, #[], rfl, Nat.le_refl _, heap_alloc_new w _, Nat.le_refl _, by simp, rfl, rfl⟩⟩
theorem src_row {w : World} {g c q : Nat} {l : Bytes} (h : Row w 5 g c l) (hl : l.length = q) : Src (w.alloc (.cells #[] 5)) 1 (some ⟨g, 0, none⟩) q (l.map bv) := by
  have := Src.of_rd (h.below ((Below.refl _ w).alloc (Nat.le_refl _) (.cells #[] 5)) h.lt).rd
  rwa [hl] at this
theorem app_done {w w8 : World} {q : Nat} {l : Bytes} {v8 : Value} (hl : l.length = q) (hq : 0 < q) (hown : w8.ownsRow w.heap.size 5 1 v8 (0 + q) ([] ++ l.map bv)) (hg : (w.alloc (.cells #[] 5)).grownBy w8 (Value.slice (some ⟨w.heap.size, 0, none⟩) 0 0).ownBlock) :
    ∃ g cap, v8 = .slice (some ⟨g, 0, none⟩) q cap ∧ w.heap.size ≤ g ∧ Row w8 5 g cap l ∧ Below w.heap.size w w8 := by
  rw [Nat.zero_add, List.nil_append] at hown
  obtain ⟨g, cap, rfl, hb, hr⟩ := row_of_owns hown hl hq
  refine ⟨g, cap, rfl, hb, hr, ?_⟩
  have h1 := (Below.refl w.heap.size w).alloc (Nat.le_refl _) (.cells #[] 5)
  exact h1.grown hg h1.size (fun k hk => by
    have : w.heap.size = k := by simpa [Value.ownBlock] using hk
    omega)
/-- the list of what was dirty, beside all else -/
structure DlSt (w : World) (F G : Nat → Prop) (p : Nat) (A : Option Addr) (L : List Nat) : Prop where
  rd : RdX ncell 1 w A L
  nb : 0 < L.length → ∀ ad, A = some ad → ¬ ((F ad.block ∨ ad.block = p) ∨ G ad.block) ∧ ad.block < w.heap.size
theorem DlSt.below {A : Option Addr} {L : List Nat} (h : DlSt w F G p A L) (hb : Below w.heap.size w w') : DlSt w' F G p A L := ⟨h.rd.below hb, fun h0 ad e => ⟨(h.nb h0 ad e).1, Nat.lt_of_lt_of_le (h.nb h0 ad e).2 hb.size⟩⟩
theorem DlSt.keep {A : Option Addr} {L : List Nat} (h : DlSt w F G p A L) (hk : Keep (fun q => (F q ∨ q = p) ∨ G q) w w') (hF : ∀ q, F' q → F q ∨ w.heap.size ≤ q) : DlSt w' F' G p A L := by
  refine ⟨fun i hi => ?_, fun h0 ad e => ⟨fun hx => ?_, Nat.lt_of_lt_of_le (h.nb h0 ad e).2 hk.size⟩⟩
  · obtain ⟨b, off, rfl, hc⟩ := h.rd i hi
    exact ⟨b, off, rfl, fun q u hq => (World.cell?_of_block (w := w) (hk.block b (block_lt_of_cell (hc q u hq)) (h.nb (by omega) _ rfl).1)).trans (hc q u hq)⟩
  · obtain ⟨h1, h2⟩ := h.nb h0 ad e
    rcases hx with (hx | hx) | hx
    · rcases hF _ hx with h' | h'
      · exact h1 (.inl (.inl h'))
      · omega
    · exact h1 (.inl (.inr hx))
    · exact h1 (.inr hx)
theorem DlSt.mk' {A : Option Addr} {L : List Nat} {c base : Nat} (h : w.ownsRow base 3 1 (.slice A L.length c) L.length (L.map fun i : Nat => .int .i64 (i : Int))) (hr : RdX ncell 1 w A L) (hF : ∀ q, F q → q < base) (hG : ∀ q, G q → q < base) (hp : p < base) : DlSt w F G p A L := by
  refine ⟨hr, fun h0 ad e => ?_⟩
  obtain ⟨g, off, e', hb, hlt, -⟩ := own_at (f := ncell) (fun _ => rfl) (by rw [List.map_eq_flatMap] at h; exact h) 0 h0 (by omega)
  rw [e] at e'
  obtain rfl := Option.some.inj e'
  refine ⟨fun hx => ?_, hlt⟩
  rcases hx with (hx | hx) | hx
  · have := hF _ hx; dsimp only at this; omega
  · dsimp only at hx; omega
  · have := hG _ hx; dsimp only at this; omega
theorem keys_none {L : List Nat} (h : KeysOf (fun _ => none) L) : L = [] := by
  cases L with
  | nil => rfl
  | cons x r => have := (h.mem x).1 List.mem_cons_self; cases this
end
end Go.Proofs.YtmhlnbbnanehiaaDoor
/- The contracts of errors.As at a target that points to an api.Errno, of plain.Told and of vaultsame.Error. After the guide's worked example on errors.As at a concrete target. -/
namespace Go.Proofs.YtmhlnbbnanehiaaDoor
open Go.RowKit Go.Extern.Stop Go.Stop Go.Extern

/-- errors.As(nil, target) -/
theorem as_nil (t : Value) (w : World) :
    Calls Tryd.prog 88 #[.nilIface, t] w fun e w' => e = .returned (.bool false) ∧ w' = w := by
  go_enter Tryd.func88, Tryd.ntmps88
  go_wp2
  go_ret
  exact ⟨rfl, rfl⟩

theorem rl_valueOfP (t : Addr) (w : World) : (ReflectliteValue.unpack (.iface 146 (.pointer (some t)))).run Tryd.prog w
    = .ok (.agg #[.pointer (some ⟨1, 146, none⟩), .pointer (some ⟨w.heap.size, 0, none⟩), .int .u64 150]) (w.alloc (.cells #[.pointer (some t)] 146)) := by kernel_rfl
theorem rl_typeP (a : Addr) (w : World) : (ReflectliteValue.methodAny (ReflectliteValue.valueError "reflectlite.Value.Type" 0) (fun t _ _ _ => ReflectliteType.toType t) #[.agg #[.pointer (some ⟨1, 146, none⟩), .pointer (some a), .int .u64 150]]).run Tryd.prog w
    = .ok (.iface 173 (.agg #[.pointer (some ⟨1, 146, none⟩)])) w := by kernel_rfl
theorem rl_kindP (w : World) : ((ReflectliteType.abiMethod fun t => (fun a : Nat => Value.int IntKind.u8 (a : Int)) <$> Rtype.kind t) #[.pointer (some ⟨1, 146, none⟩)]).run Tryd.prog w = .ok (.int .u8 22) w := by kernel_rfl
theorem rl_kindE (w : World) : ((ReflectliteType.abiMethod fun t => (fun a : Nat => Value.int IntKind.u8 (a : Int)) <$> Rtype.kind t) #[.pointer (some ⟨1, 103, none⟩)]).run Tryd.prog w = .ok (.int .u8 2) w := by kernel_rfl
theorem rl_m (z : Sem Value) (f : TypeId → Addr → Nat → Nat → Sem Value) (v : Value) :
    ReflectliteValue.method z f #[v] = (do match ← ReflectliteValue.parts v with | none => z | some (t, a, fl) => f t a fl (fl % 32)) := rfl
theorem rl_partsP (a : Addr) (w : World) : (ReflectliteValue.parts (.agg #[.pointer (some ⟨1, 146, none⟩), .pointer (some a), .int .u64 150])).run Tryd.prog w = .ok (some (146, a, 150)) w := by kernel_rfl
theorem rl_isNilP (a p : Addr) (W : World) (ha : W.cell? a = some (.pointer (some p))) :
    (ReflectliteValue.method (ReflectliteValue.valueError "reflectlite.Value.IsNil" 0) ReflectliteValue.isNil #[.agg #[.pointer (some ⟨1, 146, none⟩), .pointer (some a), .int .u64 150]]).run Tryd.prog W = .ok (.bool false) W := by
  rw [rl_m]
  simp only [Sem.run_bind, rl_partsP, Result.andThen]
  simp [ReflectliteValue.isNil, loadVar, isAgg, underlying, Tryd.underlying146, ha, Result.andThen]
theorem rl_elemP (w : World) : (ReflectliteType.method ReflectliteType.elem #[.agg #[.pointer (some ⟨1, 146, none⟩)]]).run Tryd.prog w = .ok (.iface 173 (.agg #[.pointer (some ⟨1, 103, none⟩)])) w := by kernel_rfl
theorem rl_implE (w : World) : (ReflectliteType.relation "Implements" ReflectliteType.implements_ #[.agg #[.pointer (some ⟨1, 103, none⟩)], .iface 173 (.agg #[.pointer (some ⟨1, 25, none⟩)])]).run Tryd.prog w = .ok (.bool true) w := by kernel_rfl
theorem rl_typeOfE (v : Value) (w : World) : (ReflectliteType.typeOf #[.iface 103 v]).run Tryd.prog w = .ok (.iface 173 (.agg #[.pointer (some ⟨1, 103, none⟩)])) w := by kernel_rfl
theorem rl_assignE (w : World) : (ReflectliteType.relation "AssignableTo" ReflectliteType.assignableTo #[.agg #[.pointer (some ⟨1, 103, none⟩)], .iface 173 (.agg #[.pointer (some ⟨1, 103, none⟩)])]).run Tryd.prog w = .ok (.bool true) w := by kernel_rfl
theorem rl_valueOfE (k : Int) (w : World) : (ReflectliteValue.unpack (.iface 103 (.int .i64 k))).run Tryd.prog w
    = .ok (.agg #[.pointer (some ⟨1, 103, none⟩), .pointer (some ⟨w.heap.size, 0, none⟩), .int .u64 130]) (w.alloc (.cells #[.int .i64 k] 103)) := by kernel_rfl
theorem rl_elemOfP (w : World) : (Rtype.elem? 146).run Tryd.prog w = .ok (some 103) w := by kernel_rfl
theorem rl_mkE (p : Addr) (w : World) : (ReflectliteValue.mk 103 p ReflectliteValue.flagAddr).run Tryd.prog w = .ok (.agg #[.pointer (some ⟨1, 103, none⟩), .pointer (some p), .int .u64 386]) w := by kernel_rfl
theorem rl_elemVP (a p : Addr) (W : World) (ha : W.cell? a = some (.pointer (some p))) :
    (ReflectliteValue.method (ReflectliteValue.valueError "reflectlite.Value.Elem" 0) ReflectliteValue.elem #[.agg #[.pointer (some ⟨1, 146, none⟩), .pointer (some a), .int .u64 150]]).run Tryd.prog W
      = .ok (.agg #[.pointer (some ⟨1, 103, none⟩), .pointer (some p), .int .u64 386]) W := by
  rw [rl_m]
  simp only [Sem.run_bind, rl_partsP, Result.andThen]
  simp [ReflectliteValue.elem, loadVar, isAgg, underlying, Tryd.underlying146, ha, Result.andThen, rl_elemOfP, rl_mkE]
theorem rl_s (v x : Value) : ReflectliteValue.set #[v, x] = (do
    let (some (dst, a, fl), some (src, b, _)) := (← ReflectliteValue.parts v, ← ReflectliteValue.parts x)
      | unsupported (.noEntry "extern/(internal/reflectlite.Value).Set.zeroValue")
    if fl / ReflectliteValue.flagAddr % 2 == 0 then unsupported (.noEntry "extern/(internal/reflectlite.Value).Set.unaddressable")
    let val ← loadVar src b
    if ← Rtype.directlyAssignable dst src then storeVar dst a val
    else if ← Rtype.implements dst src then
      if (← Rtype.kind src) == 20 then
        match val with
        | .nilIface => unsupported (.noEntry "extern/reflectlite: a nil value of one interface type handed on as a value of another")
        | _ => storeVar dst a val
      else storeVar dst a (.iface src val)
    else panicString ("reflectlite.Set: value of type " ++ (← Rtype.spelt src) ++ " is not assignable to type " ++ (← Rtype.spelt dst))
    pure (.tuple #[])) := rfl
theorem rl_partsEa (a : Addr) (w : World) : (ReflectliteValue.parts (.agg #[.pointer (some ⟨1, 103, none⟩), .pointer (some a), .int .u64 386])).run Tryd.prog w = .ok (some (103, a, 386)) w := by kernel_rfl
theorem rl_partsE (a : Addr) (w : World) : (ReflectliteValue.parts (.agg #[.pointer (some ⟨1, 103, none⟩), .pointer (some a), .int .u64 130])).run Tryd.prog w = .ok (some (103, a, 130)) w := by kernel_rfl
theorem rl_directE (w : World) : (Rtype.directlyAssignable 103 103).run Tryd.prog w = .ok true w := by kernel_rfl
theorem rl_setE (ta b : Addr) (k : Int) (old : Value) (W : World) (hb : W.cell? b = some (.int .i64 k)) (ht : W.cell? ta = some old) (hf : W.frozen? ta = false) :
    (ReflectliteValue.set #[.agg #[.pointer (some ⟨1, 103, none⟩), .pointer (some ta), .int .u64 386], .agg #[.pointer (some ⟨1, 103, none⟩), .pointer (some b), .int .u64 130]]).run Tryd.prog W
      = .ok (.tuple #[]) (W.setCell ta (.int .i64 k)) := by
  rw [rl_s]
  simp only [Sem.run_bind, rl_partsEa, rl_partsE, Result.andThen]
  simp [ReflectliteValue.flagAddr, loadVar, isAgg, underlying, Tryd.underlying103, hb, Result.andThen, rl_directE, storeVar, Value.cells, storeCells, Addr.add]
  rw [run_store Tryd.prog W ta _ _ (by rfl)]
  simp [ht, hf]

/-- what the row's condition gives: the variable errors.errorType -/
def HasType (w : World) : Prop := w.cell? ⟨0, 0, none⟩ = some (.iface 173 (.agg #[.pointer (some ⟨1, 25, none⟩)]))
theorem HasType.below {B : Nat} {w w' : World} (h : HasType w) (hB : 0 < B) (hb : Below B w w') : HasType w' := (hb.cell (p := ⟨0, 0, none⟩) hB).trans h
theorem HasType.lt {w : World} (h : HasType w) : 0 < w.heap.size := block_lt_of_cell h
end Go.Proofs.YtmhlnbbnanehiaaDoor
/- The contracts of errors.As at a target that points to an api.Errno, of plain.Told and of vaultsame.Error. -/
namespace Go.Proofs.YtmhlnbbnanehiaaDoor
open Go.RowKit Go.Extern.Stop Go.Stop Go.Extern

theorem rl_methKind (n : Nat) (h : Value) (w : World) : (Go.method (n + 1) 173 (.agg #[h]) "Kind").run Tryd.prog w = .ok (155, h) w := by kernel_rfl
theorem rl_methElem (n : Nat) (h : Value) (w : World) : (Go.method (n + 1) 173 (.agg #[h]) "Elem").run Tryd.prog w = .ok (165, .agg #[h]) w := by kernel_rfl
theorem rl_methImpl (n : Nat) (h : Value) (w : World) : (Go.method (n + 1) 173 (.agg #[h]) "Implements").run Tryd.prog w = .ok (166, .agg #[h]) w := by kernel_rfl
theorem rl_methAssign (n : Nat) (h : Value) (w : World) : (Go.method (n + 1) 173 (.agg #[h]) "AssignableTo").run Tryd.prog w = .ok (163, .agg #[h]) w := by kernel_rfl

set_option maxRecDepth 100000 in
set_option maxHeartbeats 4000000 in
theorem as_errno (k : Int) (t : Addr) (old : Value) (w : World) (hg : HasType w) (ht0 : w.cell? t = some old) (hf0 : w.frozen? t = false) :
    Calls Tryd.prog 88 #[.iface 103 (.int .i64 k), .iface 146 (.pointer (some t))] w fun ev w' => ev = .returned (.bool true) ∧ w' = ((((w.alloc (.cells #[.pointer (some t)] 146)).alloc (.cells #[.pointer (some ⟨1, 146, none⟩), .pointer (some ⟨w.heap.size, 0, none⟩), .int .u64 150] 158)).alloc (.cells #[.pointer (some ⟨1, 146, none⟩), .pointer (some ⟨w.heap.size, 0, none⟩), .int .u64 150] 158)).alloc (.cells #[.int .i64 k] 103)).setCell t (.int .i64 k) := by
  have h6 := @run_callFunc_extern Tryd.prog 99 _ (fun args => ReflectliteValue.unpack (args.getD 0 (.tuple #[]))) Tryd.func99 (by kernel_rfl) (by kernel_rfl) (by kernel_rfl) (by kernel_rfl)
  have h7 := @run_callFunc_extern Tryd.prog 100 _ (ReflectliteValue.methodAny (ReflectliteValue.valueError "reflectlite.Value.Type" 0) (fun t _ _ _ => ReflectliteType.toType t)) Tryd.func100 (by kernel_rfl) (by kernel_rfl) (by kernel_rfl) (by kernel_rfl)
  have h8 := @run_callFunc_extern Tryd.prog 101 _ (ReflectliteValue.method (ReflectliteValue.valueError "reflectlite.Value.IsNil" 0) ReflectliteValue.isNil) Tryd.func101 (by kernel_rfl) (by kernel_rfl) (by kernel_rfl) (by kernel_rfl)
  have h27 := @run_callFunc_extern Tryd.prog 155 _ (ReflectliteType.abiMethod fun t => do pure (.int .u8 (← Rtype.kind t))) Tryd.func155 (by kernel_rfl) (by kernel_rfl) (by kernel_rfl) (by kernel_rfl)
  have h37 := @run_callFunc_extern Tryd.prog 165 _ (ReflectliteType.method ReflectliteType.elem) Tryd.func165 (by kernel_rfl) (by kernel_rfl) (by kernel_rfl) (by kernel_rfl)
  have h38 := @run_callFunc_extern Tryd.prog 166 _ (ReflectliteType.relation "Implements" ReflectliteType.implements_) Tryd.func166 (by kernel_rfl) (by kernel_rfl) (by kernel_rfl) (by kernel_rfl)
  have h10 := @run_callFunc_extern Tryd.prog 109 _ ReflectliteType.typeOf Tryd.func109 (by kernel_rfl) (by kernel_rfl) (by kernel_rfl) (by kernel_rfl)
  have h35 := @run_callFunc_extern Tryd.prog 163 _ (ReflectliteType.relation "AssignableTo" ReflectliteType.assignableTo) Tryd.func163 (by kernel_rfl) (by kernel_rfl) (by kernel_rfl) (by kernel_rfl)
  have h11 := @run_callFunc_extern Tryd.prog 110 _ (ReflectliteValue.method (ReflectliteValue.valueError "reflectlite.Value.Elem" 0) ReflectliteValue.elem) Tryd.func110 (by kernel_rfl) (by kernel_rfl) (by kernel_rfl) (by kernel_rfl)
  have h12 := @run_callFunc_extern Tryd.prog 111 _ ReflectliteValue.set Tryd.func111 (by kernel_rfl) (by kernel_rfl) (by kernel_rfl) (by kernel_rfl)
  have tO := rl_typeOfE
  have aE := rl_assignE
  have vE := rl_valueOfE
  have f6 := rl_valueOfP
  have f7 := rl_typeP
  have mK := rl_methKind
  have mE := rl_methElem
  have mI := rl_methImpl
  have mA := rl_methAssign
  have kP := rl_kindP
  have kE := rl_kindE
  have eP := rl_elemP
  have iE := rl_implE
  have n8 := rl_isNilP ⟨w.heap.size, 0, none⟩ t ((w.alloc (.cells #[.pointer (some t)] 146)).alloc (.cells #[.pointer (some ⟨1, 146, none⟩), .pointer (some ⟨w.heap.size, 0, none⟩), .int .u64 150] 158)) (by simp)
  have hlt : 0 < w.heap.size := hg.lt
  unfold HasType at hg
  have hg2 : ((w.alloc (.cells #[.pointer (some t)] 146)).alloc (.cells #[.pointer (some ⟨1, 146, none⟩), .pointer (some ⟨w.heap.size, 0, none⟩), .int .u64 150] 158)).cell? ⟨0, 0, none⟩ = some (.iface 173 (.agg #[.pointer (some ⟨1, 25, none⟩)])) := by
    rw [World.cell?_alloc_lt _ _ ⟨0, 0, none⟩ (by simp), World.cell?_alloc_lt _ _ ⟨0, 0, none⟩ hlt]; exact hg
  have htl : t.block < w.heap.size := by
    rcases Nat.lt_or_ge t.block w.heap.size with h | h
    · exact h
    · simp [World.cell?, Array.getElem?_eq_none h] at ht0
  have el := rl_elemVP ⟨w.heap.size, 0, none⟩ t (((w.alloc (.cells #[.pointer (some t)] 146)).alloc (.cells #[.pointer (some ⟨1, 146, none⟩), .pointer (some ⟨w.heap.size, 0, none⟩), .int .u64 150] 158)).alloc (.cells #[.pointer (some ⟨1, 146, none⟩), .pointer (some ⟨w.heap.size, 0, none⟩), .int .u64 150] 158)) (by rw [World.cell?_alloc_lt _ _ ⟨w.heap.size, 0, none⟩ (by simp; omega)]; simp)
  have st := rl_setE t ⟨w.heap.size + 1 + 1 + 1, 0, none⟩ k old ((((w.alloc (.cells #[.pointer (some t)] 146)).alloc (.cells #[.pointer (some ⟨1, 146, none⟩), .pointer (some ⟨w.heap.size, 0, none⟩), .int .u64 150] 158)).alloc (.cells #[.pointer (some ⟨1, 146, none⟩), .pointer (some ⟨w.heap.size, 0, none⟩), .int .u64 150] 158)).alloc (.cells #[.int .i64 k] 103))
    (by rw [World.cell?_alloc_at _ _ _ _ (by simp)]; rfl)
    (by rw [World.cell?_alloc_lt _ _ t (by simp; omega), World.cell?_alloc_lt _ _ t (by simp; omega), World.cell?_alloc_lt _ _ t (by simp; omega), World.cell?_alloc_lt _ _ t htl]; exact ht0)
    (by rw [World.frozen?_alloc_old _ _ t (by simp; omega), World.frozen?_alloc_old _ _ t (by simp; omega), World.frozen?_alloc_old _ _ t (by simp; omega), World.frozen?_alloc_old _ _ t (Nat.ne_of_lt htl)]; exact hf0)
  go_enter Tryd.func88, Tryd.ntmps88
  go_wp2
  refine wp_loop_rounds 1 ?_
  rw [rounds_succ]
  go_wp2
  go_ret
  exact ⟨rfl, rfl⟩
end Go.Proofs.YtmhlnbbnanehiaaDoor
/- The contracts of plain.Told and of vaultsame.Error. -/
namespace Go.Proofs.YtmhlnbbnanehiaaDoor
open Go.RowKit

theorem told_nil (w : World) : Calls Tryd.prog 64 #[.nilIface] w fun e w' => e = .returned (.int .i64 0) ∧ w = w' := by
  go_enter Tryd.func64, Tryd.ntmps64
  go_wp2_with fail
  go_ret
  exact ⟨rfl, rfl⟩
theorem told_errno (k : Int) (w : World) (hg : HasType w) : Calls Tryd.prog 64 #[.iface 103 (.int .i64 k)] w fun e w' => e = .returned (.int .i64 k) ∧ Below w.heap.size w w' := by
  have hW : Below w.heap.size w (w.alloc (.cells #[.int .i64 0] 103)) := (Below.refl _ _).alloc (Nat.le_refl _) _
  have hg1 := hg.below hg.lt hW
  have HC := Hidden.mk (as_errno k ⟨w.heap.size, 0, none⟩ (.int .i64 0) _ hg1 (by simp) (by simp))
  clear hg1
  go_enter Tryd.func64, Tryd.ntmps64
  go_wp2_with fail
  refine HC.out.mono ?_
  rintro e w' ⟨rfl, hw'⟩
  have hB : Below w.heap.size w w' := by
    rw [hw']
    exact ((((hW.alloc hW.size _).alloc (by simp; omega) _).alloc (by simp; omega) _).alloc (by simp; omega) _).setCell (p := ⟨w.heap.size, 0, none⟩) (Nat.le_refl _) _
  have hc : w'.cell? ⟨w.heap.size, 0, none⟩ = some (.int .i64 k) := by
    rw [hw']
    refine World.cell?_setCell_same' _ _ _ ?_
    rw [(((((Below.refl _ (w.alloc (.cells #[.int .i64 0] 103))).alloc (Nat.le_refl _) _).alloc (by simp) _).alloc (by simp) _).alloc (by simp) _).cell (p := ⟨w.heap.size, 0, none⟩) (by simp)]
    simp
  clear hw' HC hW
  go_wp2_with fail
  go_ret
  exact ⟨rfl, hB⟩
theorem err_nil (x : Int) (w : World) : Calls Tryd.prog 14 #[.nilIface, .int .i64 x] w fun e w' => e = .returned (.bool ((0 : Int) == x)) ∧ Below w.heap.size w w' := by
  go_enter Tryd.func14, Tryd.ntmps14
  go_wp2_with fail
  refine (told_nil _).mono ?_
  rintro e w' ⟨rfl, rfl⟩
  go_wp2_with fail
  go_ret
  exact ⟨rfl, Below.refl _ _⟩
theorem err_some (k x : Int) (w : World) (hg : HasType w) : Calls Tryd.prog 14 #[.iface 103 (.int .i64 k), .int .i64 x] w fun e w' => e = .returned (.bool (k == x)) ∧ Below w.heap.size w w' := by
  go_enter Tryd.func14, Tryd.ntmps14
  go_wp2_with fail
  refine (told_errno k _ hg).mono ?_
  rintro e w' ⟨rfl, hb⟩
  go_wp2_with fail
  go_ret
  exact ⟨rfl, hb⟩
/-- .. of an error that is nil or a number -/
theorem err_any (n : Nat) (x : Int) (w : World) (hg : HasType w) : Calls Tryd.prog 14 #[errV n, .int .i64 x] w fun e w' => e = .returned (.bool ((n : Int) == x)) ∧ Below w.heap.size w w' := by
  unfold errV
  by_cases h : n = 0
  · rw [if_pos h, h]; exact err_nil x w
  · rw [if_neg h]; exact err_some n x w hg
end Go.Proofs.YtmhlnbbnanehiaaDoor
/- What comes in: the program's own slices, opened. -/
namespace Go.Proofs.YtmhlnbbnanehiaaDoor
open Go.RowKit Go.ChangeShapes Go.WideShapes Go.ChangeAt

section
variable {H : Type} {enc : TypeId × Value → H} {w : World} {v : Value} {d : DataW H} {ps : List MemPlace} {base : Nat} {r : Reach}
set_option maxRecDepth 20000 in
theorem open_pages (hv : Value.okWide Tryd.prog w r base 64 v) (h : DataW.Trod enc Tryd.prog w 0 (fun _ => true) true 64 v d ps) (hz : (d.weights Tryd.prog 64).all (· ≤ reachBytes) = true) :
    ∃ (A : Option Addr) (c : Nat) (L : List PgX), v = .slice A L.length c ∧ L.length ≤ c ∧ c ≤ 140737488351232 ∧ (∀ x ∈ L, PgOk w x) ∧ RdX pcells 2 w A L := by
  have hb : decide (1 ≤ Tryd.prog.bytesOf 69) = true := by kernel_rfl
  have hC : Tryd.prog.cellsOf 69 = 2 := by kernel_rfl
  refine open_seq (P := Tryd.prog) pcells 2 PgOk Tryd.underlying64 hC (by omega) (of_decide_eq_true hb) (fun n cs x hl ht hz => ?_) hv h hz
  obtain ⟨v0, v1, y0, y1, m, rfl, t0, t1, z0, z1⟩ := open_two Tryd.underlying69 ⟨rfl, by kernel_rfl⟩ ⟨rfl, by kernel_rfl⟩ hl ht hz
  obtain ⟨a, ha, -, wa⟩ := DataW.trod_int Tryd.underlying3 t0
  obtain ⟨A, c, l, hb, hc, hm, hr⟩ := open_bytes_in Tryd.underlying22 Tryd.underlying5 (by kernel_rfl) (by kernel_rfl) t1 z1
  simp only [List.cons.injEq, and_true] at ha
  have hw := wf_i64' wa
  exact ⟨⟨a, A, c, l⟩, by rw [ha, hb]; rfl, hw.1, hw.2, hc, hm, hr⟩
set_option maxRecDepth 20000 in
/-- booleans that came in -/
theorem open_bools (hv : Value.okWide Tryd.prog w r base 47 v) (h : DataW.Trod enc Tryd.prog w 0 (fun _ => true) true 47 v d ps) (hz : (d.weights Tryd.prog 47).all (· ≤ reachBytes) = true) :
    ∃ (A : Option Addr) (c : Nat) (L : List Bool), v = .slice A L.length c ∧ L.length ≤ c ∧ c ≤ 140737488351232 ∧ (∀ x ∈ L, True) ∧ RdX (fun b => [.bool b]) 1 w A L := by
  have hb : decide (1 ≤ Tryd.prog.bytesOf 4) = true := by kernel_rfl
  have hC : Tryd.prog.cellsOf 4 = 1 := by kernel_rfl
  refine open_seq (P := Tryd.prog) (fun b => [.bool b]) 1 (fun _ _ => True) Tryd.underlying47 hC (by omega) (of_decide_eq_true hb) (fun n cs x hl ht hz => ?_) hv h hz
  match cs, hl with
  | [c0], _ =>
    obtain ⟨b, hb, _⟩ := DataW.trod_bool Tryd.underlying4 ht
    exact ⟨b, by simpa using hb, trivial⟩
end
end Go.Proofs.YtmhlnbbnanehiaaDoor
/- What comes in: slices of slices of pages, of numbers, of bytes. -/
namespace Go.Proofs.YtmhlnbbnanehiaaDoor
open Go.RowKit Go.ChangeShapes Go.WideShapes Go.ChangeAt

section
variable {H : Type} {enc : TypeId × Value → H} {P : Program} {w : World}
/-- a slice within something else -/
theorem open_seq_in {X : Type} [Inhabited X] (cells : X → List Value) (C : Nat) (ok : World → X → Prop) {t e : TypeId} {cs : List Value} {d : DataW H × List MemPlace} {n0 : Nat} (ht : P.underlying t = some (.slice e)) (hC : P.cellsOf e = C) (hC0 : 0 < C) (hb : 1 ≤ P.bytesOf e)
    (hel : ∀ n cs x, cs.length = C → DataW.trod enc P w 0 (fun _ => true) true n e cs = some x → (x.1.weights P e).all (· ≤ reachBytes) = true → ∃ y : X, cs = cells y ∧ ok w y)
    (hf : DataW.trod enc P w 0 (fun _ => true) true n0 t cs = some d) (hz : (d.1.weights P t).all (· ≤ reachBytes) = true) :
    ∃ (A : Option Addr) (c : Nat) (L : List X), cs = [.slice A L.length c] ∧ L.length ≤ c ∧ c ≤ 140737488351232 ∧ (∀ x ∈ L, ok w x) ∧ RdX cells C w A L := by
  rcases Go.Deep.open_slice ht hf with ⟨hcs, _⟩ | ⟨a, len0, m, m2, n, D, Pl, hcs, _, hl, hm, hmm, hx, hi⟩
  · exact ⟨none, 0, [], by simpa using hcs, by simp, by omega, fun x hx => by simp at hx, fun i hi => by simp at hi⟩
  · simp only [if_true] at hmm
    subst hmm
    rw [hx] at hz
    rw [DataW.weights, ht] at hz
    simp only [List.all_cons, List.all_append, Bool.and_eq_true, decide_eq_true_eq, List.length_map, List.length_range] at hz
    have hreach : m2 ≤ 140737488351232 := by
      have h3 : reachBytes = 140737488351232 := by decide
      have h4 := hz.1
      rw [h3] at h4
      have h5 : (len0 + (m2 - len0)) * 1 ≤ (len0 + (m2 - len0)) * P.bytesOf e := Nat.mul_le_mul_left _ hb
      omega
    have hex : ∀ i, i < len0 → ∃ y : X, ok w y ∧ w.cells? 0 (a.add (i * C)) C = some (cells y) := fun i hil => by
      obtain ⟨cs', h1, h2⟩ := hi i (by omega)
      obtain ⟨y, hy, hok⟩ := hel n cs' _ (by rw [← hC]; exact (World.cells?_some h1).2.1) h2 (weights_all _ _ hz.2.1 _ (List.mem_map.2 ⟨i, List.mem_range.2 hil, rfl⟩))
      refine ⟨y, hok, ?_⟩
      rw [← hy, ← hC]; exact h1
    obtain ⟨Y, hY⟩ := Go.Deep.choose_lt (α := X) (p := fun i y => ok w y ∧ w.cells? 0 (a.add (i * C)) C = some (cells y)) hex
    have hlen : ((List.range len0).map Y).length = len0 := by simp
    refine ⟨some a, m2, (List.range len0).map Y, by rw [hlen]; simpa using hcs, by rw [hlen]; exact hl, hreach, fun x hx => ?_, fun i hil => ?_⟩
    · obtain ⟨i, hi', rfl⟩ := List.mem_map.1 hx
      exact (hY i (List.mem_range.1 hi')).1
    · rw [hlen] at hil
      obtain ⟨_, h2⟩ := hY i hil
      obtain ⟨_, hcl, hat⟩ := World.cells?_some h2
      have hYi : ((List.range len0).map Y)[i]'(by rw [hlen]; exact hil) = Y i := by simp
      rw [hYi]
      obtain ⟨b, off, spot⟩ := a
      have hcell : ∀ q u, (cells (Y i))[q]? = some u → w.cell? ((⟨b, off, spot⟩ : Addr).add (i * C + q)) = some u := fun q u hq => by
        have hql : q < C := by have := (List.getElem?_eq_some_iff.1 hq).1; omega
        rw [← Go.Deep.add_add, hat q hql, hq]
      have hs : spot = none := by
        obtain ⟨_, h20⟩ := hY 0 (by omega)
        obtain ⟨_, hcl0, hat0⟩ := World.cells?_some h20
        have h0 := hat0 0 hC0
        rw [List.getElem?_eq_getElem (by omega), Nat.zero_mul] at h0
        simpa [Addr.add] using World.cell?_spot h0
      subst hs
      refine ⟨b, off, rfl, fun q u hq => ?_⟩
      have := hcell q u hq
      rw [Addr.add_lit, ← Nat.add_assoc] at this
      exact this
end
/-- a list of lists -/
structure SubX (X : Type) where
  A : Option Addr
  cap : Nat
  L : List X
  deriving Inhabited
def scells {X : Type} (x : SubX X) : List Value := [.slice x.A x.L.length x.cap]
structure SubOk {X : Type} (cells : X → List Value) (C : Nat) (ok : World → X → Prop) (w : World) (x : SubX X) : Prop where
  cap : x.L.length ≤ x.cap
  le : x.cap ≤ 140737488351232
  ok : ∀ y ∈ x.L, ok w y
  rd : RdX cells C w x.A x.L
section
variable {H : Type} {enc : TypeId × Value → H} {w : World} {v : Value} {d : DataW H} {ps : List MemPlace} {base : Nat} {r : Reach}
end
end Go.Proofs.YtmhlnbbnanehiaaDoor
/- What comes in: slices of ints. -/
namespace Go.Proofs.YtmhlnbbnanehiaaDoor
open Go.RowKit Go.ChangeShapes Go.WideShapes Go.ChangeAt

def icell (x : Int) : List Value := [.int .i64 x]
section
variable {H : Type} {enc : TypeId × Value → H} {w : World} {v : Value} {d : DataW H} {ps : List MemPlace} {base : Nat} {r : Reach}
set_option maxRecDepth 20000 in
theorem open_ints (hv : Value.okWide Tryd.prog w r base 40 v) (h : DataW.Trod enc Tryd.prog w 0 (fun _ => true) true 40 v d ps) (hz : (d.weights Tryd.prog 40).all (· ≤ reachBytes) = true) :
    ∃ (A : Option Addr) (c : Nat) (L : List Int), v = .slice A L.length c ∧ L.length ≤ c ∧ c ≤ 140737488351232 ∧ (∀ x ∈ L, -9223372036854775808 ≤ x ∧ x ≤ 9223372036854775807) ∧ RdX icell 1 w A L := by
  have hb : decide (1 ≤ Tryd.prog.bytesOf 3) = true := by kernel_rfl
  have hC : Tryd.prog.cellsOf 3 = 1 := by kernel_rfl
  refine open_seq (P := Tryd.prog) icell 1 (fun _ x => -9223372036854775808 ≤ x ∧ x ≤ 9223372036854775807) Tryd.underlying40 hC (by omega) (of_decide_eq_true hb) (fun n cs x hl ht hz => ?_) hv h hz
  match cs, hl with
  | [c0], _ =>
    obtain ⟨a, ha, -, wa⟩ := DataW.trod_int Tryd.underlying3 ht
    obtain ⟨lo, hi⟩ := wf_i64' wa
    exact ⟨a, by simpa [icell] using ha, lo, hi⟩
end
end Go.Proofs.YtmhlnbbnanehiaaDoor
/- What comes in: slices of slices of bytes, of numbers. -/
namespace Go.Proofs.YtmhlnbbnanehiaaDoor
open Go.RowKit Go.ChangeShapes Go.WideShapes Go.ChangeAt

/-- a list of bytes as it came in -/
structure BX where
  A : Option Addr
  cap : Nat
  body : Bytes
  deriving Inhabited
def bcells (x : BX) : List Value := [.slice x.A x.body.length x.cap]
structure BOk (w : World) (x : BX) : Prop where
  cap : x.body.length ≤ x.cap
  le : x.cap ≤ 140737488351232
  rd : Rd w x.A x.body
section
variable {H : Type} {enc : TypeId × Value → H} {w : World} {v : Value} {d : DataW H} {ps : List MemPlace} {base : Nat} {r : Reach}
set_option maxRecDepth 20000 in
theorem open_rows (hv : Value.okWide Tryd.prog w r base 43 v) (h : DataW.Trod enc Tryd.prog w 0 (fun _ => true) true 43 v d ps) (hz : (d.weights Tryd.prog 43).all (· ≤ reachBytes) = true) :
    ∃ (A : Option Addr) (c : Nat) (L : List BX), v = .slice A L.length c ∧ L.length ≤ c ∧ c ≤ 140737488351232 ∧ (∀ x ∈ L, BOk w x) ∧ RdX bcells 1 w A L := by
  have hb2 : decide (1 ≤ Tryd.prog.bytesOf 22) = true := by kernel_rfl
  have hC2 : Tryd.prog.cellsOf 22 = 1 := by kernel_rfl
  refine open_seq (P := Tryd.prog) bcells 1 BOk Tryd.underlying43 hC2 (by omega) (of_decide_eq_true hb2) (fun n cs x hl ht hz => ?_) hv h hz
  match cs, hl with
  | [c0], _ =>
    obtain ⟨A, c, l, hb, hc, hm, hr⟩ := open_bytes_in Tryd.underlying22 Tryd.underlying5 (by kernel_rfl) (by kernel_rfl) ht hz
    exact ⟨⟨A, c, l⟩, by rw [hb]; rfl, hc, hm, hr⟩
set_option maxRecDepth 20000 in
theorem open_introws (hv : Value.okWide Tryd.prog w r base 46 v) (h : DataW.Trod enc Tryd.prog w 0 (fun _ => true) true 46 v d ps) (hz : (d.weights Tryd.prog 46).all (· ≤ reachBytes) = true) :
    ∃ (A : Option Addr) (c : Nat) (L : List (SubX Int)), v = .slice A L.length c ∧ L.length ≤ c ∧ c ≤ 140737488351232 ∧ (∀ x ∈ L, SubOk icell 1 (fun _ y => -9223372036854775808 ≤ y ∧ y ≤ 9223372036854775807) w x) ∧ RdX scells 1 w A L := by
  have hb : decide (1 ≤ Tryd.prog.bytesOf 3) = true := by kernel_rfl
  have hb2 : decide (1 ≤ Tryd.prog.bytesOf 40) = true := by kernel_rfl
  have hC : Tryd.prog.cellsOf 3 = 1 := by kernel_rfl
  have hC2 : Tryd.prog.cellsOf 40 = 1 := by kernel_rfl
  refine open_seq (P := Tryd.prog) scells 1 (SubOk icell 1 (fun _ y => -9223372036854775808 ≤ y ∧ y ≤ 9223372036854775807)) Tryd.underlying46 hC2 (by omega) (of_decide_eq_true hb2) (fun n cs x hl ht hz => ?_) hv h hz
  obtain ⟨A, c, L, e, h1, h2, h3, h4⟩ := open_seq_in (P := Tryd.prog) icell 1 (fun _ y => -9223372036854775808 ≤ y ∧ y ≤ 9223372036854775807) Tryd.underlying40 hC (by omega) (of_decide_eq_true hb) (fun n cs x hl ht hz => by
    match cs, hl with
    | [c0], _ =>
      obtain ⟨a, ha, -, wa⟩ := DataW.trod_int Tryd.underlying3 ht
      obtain ⟨lo, hi⟩ := wf_i64' wa
      exact ⟨a, by simpa [icell] using ha, lo, hi⟩) ht hz
  exact ⟨⟨A, c, L⟩, e, h1, h2, h3, h4⟩
end
end Go.Proofs.YtmhlnbbnanehiaaDoor
