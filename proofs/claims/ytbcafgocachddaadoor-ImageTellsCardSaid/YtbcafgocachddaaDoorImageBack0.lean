/- ImageBack: what the walk leans on. -/
import Derived.Test.YtbcafgocachddaaDoorImg6
import Derived.Test.YtbcafgocachddaaDoorTold3
import Derived.Test.YtbcafgocachddaaDoorOpen3
import Derived.Test.YtbcafgocachddaaDoorImageApart0
import Derived.Deep.DeepCutAuto
import Derived.Deep.CutBlock
namespace Go.Proofs.YtbcafgocachddaaDoor
open Go.RowKit

theorem iget_t (A : Option Addr) (n c : Nat) (l : Bytes) (k : Nat) (w : World) (hn : l.length = n) (hr : rightB n = true) (hnc : n ≤ c) (hrd : Rd w A l) (hk : k < 40) (hE : hasE (rawE l k) = true) :
    Calls Tryd.prog 25 #[.slice A n c, .int .i64 ((k : Int) + 1)] w fun e w' => e = .returned (.tuple #[.agg #[.int .i64 ((k : Int) + 1), .int .i64 (rAt (rawE l k)), .int .i64 (rLen (rawE l k)), .int .i64 (rTag (rawE l k))], .nilIface]) ∧ Below w.heap.size w w' :=
  (iget_ok A n c l k w hn hr hnc hrd hk).mono fun _ _ h => ⟨h.1 hE, h.2.2⟩
theorem iget_f (A : Option Addr) (n c : Nat) (l : Bytes) (k : Nat) (w : World) (hn : l.length = n) (hr : rightB n = true) (hnc : n ≤ c) (hrd : Rd w A l) (hk : k < 40) (hE : hasE (rawE l k) = false) :
    Calls Tryd.prog 25 #[.slice A n c, .int .i64 ((k : Int) + 1)] w fun e w' => e = .returned (.tuple #[.agg #[.int .i64 0, .int .i64 0, .int .i64 0, .int .i64 0], .iface 132 (.int .i64 5)]) ∧ Below w.heap.size w w' :=
  (iget_ok A n c l k w hn hr hnc hrd hk).mono fun _ _ h => ⟨h.2.1 hE, h.2.2⟩
theorem below_four {w w' : World} {a b c d : Value} {t : TypeId} (hb : Below (w.alloc (.cells #[a, b, c, d] t)).heap.size (w.alloc (.cells #[a, b, c, d] t)) w') :
    w'.cell? ⟨w.heap.size, 0, none⟩ = some a ∧ w'.cell? ⟨w.heap.size, 1, none⟩ = some b ∧ w'.cell? ⟨w.heap.size, 2, none⟩ = some c ∧ w'.cell? ⟨w.heap.size, 3, none⟩ = some d := by
  have h := (hb.block w.heap.size (by simp)).trans (heap_alloc_new w (.cells #[a, b, c, d] t))
  refine ⟨?_, ?_, ?_, ?_⟩ <;> simp [World.cell?, h]
/-- the image that the law has come to -/
structure ImB (w wr : World) (n gb cap : Nat) (lb : Bytes) (i : Nat) : Prop where
  row : Row wr 5 gb cap lb
  len : lb.length = n
  no : NoRoots lb i
  bel : Below w.heap.size w wr
theorem ImB.below {w wr w' : World} {n gb cap i : Nat} {lb : Bytes} (h : ImB w wr n gb cap lb i) (hb : Below wr.heap.size wr w') : ImB w w' n gb cap lb i :=
  ⟨h.row.below hb h.row.lt, h.len, h.no, h.bel.trans (hb.mono h.bel.size)⟩
theorem ImB.up {w wr : World} {n gb cap i : Nat} {lb : Bytes} (h : ImB w wr n gb cap lb i) : ImB w wr n gb cap lb (i + 1) :=
  ⟨h.row, h.len, fun j h1 h2 => h.no j (by omega) h2, h.bel⟩
theorem noRoots_new (n : Nat) (hn : 288 ≤ n) : NoRoots (List.replicate n 0) 0 := fun j _ hj => by
  unfold rawR
  rw [List.drop_replicate, List.take_replicate]
  congr 1; omega
theorem ent_back (l : Bytes) (kk : Nat) (a b t : Int) (hk : kk < 40) (hl : 200 ≤ l.length) (ha : 0 ≤ a ∧ a < 65536) (hb : 0 ≤ b ∧ b < 65536) (ht : 0 ≤ t ∧ t ≤ 15) :
    putEnt l ((kk : Int) + 1) a b t = splice l (5 * kk) (entB a.toNat b.toNat t.toNat) ∧ hasE (rawE (putEnt l ((kk : Int) + 1) a b t) kk) = true ∧ (rAt (rawE (putEnt l ((kk : Int) + 1) a b t) kk) : Int) = a ∧ (rLen (rawE (putEnt l ((kk : Int) + 1) a b t) kk) : Int) = b ∧ rTag (rawE (putEnt l ((kk : Int) + 1) a b t) kk) = t := by
  have hp : putEnt l ((kk : Int) + 1) a b t = splice l (5 * kk) (entB a.toNat b.toNat t.toNat) := by unfold putEnt; rw [entO_k]
  have hr : rawE (putEnt l ((kk : Int) + 1) a b t) kk = entB a.toNat b.toNat t.toNat := by rw [hp, rawE_splice _ _ _ _ (entB_len _ _ _) hk hk hl, if_pos rfl]
  obtain ⟨h1, h2, h3, h4⟩ := entB_rd a.toNat b.toNat t.toNat (by omega) (by omega) (by omega)
  rw [hr]
  exact ⟨hp, h1, by rw [h2]; omega, by rw [h3]; omega, by rw [h4]; omega⟩
theorem rootB_zero (s : Bytes) (h : Int) (hh : handleB h = true) : zeroE (rootB s h) = false := by
  have hb := handleB_true.1 hh
  have hd : (UInt8.ofNat h.toNat).toNat = h.toNat := by rw [UInt8.toNat_ofNat', Nat.mod_eq_of_lt (by omega)]
  unfold zeroE
  rw [Bool.not_eq_false', List.any_eq_true]
  refine ⟨UInt8.ofNat h.toNat, by simp [rootB], ?_⟩
  unfold nonZero
  rw [bne_iff_ne]
  intro e
  rw [e] at hd
  simp at hd
  omega
theorem rootB_P (s : Bytes) (h : Int) (hh : handleB h = true) (hnm : isName s = true) : rootP (rootB s h) = (s, h.toNat) := by
  have hb := handleB_true.1 hh
  have hd : (UInt8.ofNat h.toNat).toNat = h.toNat := by rw [UInt8.toNat_ofNat', Nat.mod_eq_of_lt (by omega)]
  have h8 := nameB_len s hnm
  obtain ⟨h1, h2⟩ := nameB_back s hnm
  have ht : (rootB s h).take 8 = nameB s := by unfold rootB; rw [List.take_append_of_le_length (by omega), List.take_of_length_le (by omega)]
  have h3 : nmR (rootB s h) = s := by unfold nmR; rw [ht]; exact h2
  unfold rootP
  rw [ht, if_pos h1, h3]
  congr 1
  unfold rootB
  rw [List.getD_eq_getElem?_getD, List.getElem?_append_right (by omega), h8]
  exact hd
theorem rootB_len (s : Bytes) (h : Int) (hnm : isName s = true) : (rootB s h).length = 11 := by unfold rootB; simp [nameB_len s hnm]
theorem root_back (gb n c : Nat) (l : Bytes) (i : Nat) (s : Bytes) (h : Int) (w : World) (hs : s.length ≤ 140737488351232) (hn : l.length = n) (hnc : n ≤ c) (hrd : Rd w (some ⟨gb, 0, none⟩) l) (hr : rightB n = true) (hi : i < 8) (hz : NoRoots l i) :
    Calls Tryd.prog 21 #[.slice (some ⟨gb, 0, none⟩) n c, .int .i64 (i : Int), rootV s h] w fun e w' => (∃ x, e = .returned (.tuple #[.slice none 0 0, .iface 132 (.int .i64 x)]) ∧ Below w.heap.size w w') ∨
      (∃ g cp lc, e = .returned (.tuple #[.slice (some ⟨g, 0, none⟩) n cp, .nilIface]) ∧ n ≤ cp ∧ Row w' 5 g cp lc ∧ lc.length = n ∧ NoRoots lc (i + 1) ∧ Below w.heap.size w w' ∧
        ((s.isEmpty = true ∧ rootsL lc = rootsL l) ∨ (s.isEmpty = false ∧ rootsL lc = rootsL l ++ [(s, h.toNat)] ∧ (h.toNat : Int) = h))) := by
  have hnb := rightB_true.1 hr
  have hsp : ∀ X : Bytes, X.length = 11 → (splice l (rootO (i : Int)) X).length = n := fun X hX => by rw [rootO_k, splice_len _ _ _ (by omega)]; exact hn
  by_cases h0 : s = [] ∧ h = 0
  · obtain ⟨rfl, rfl⟩ := h0
    refine (root_zero (some ⟨gb, 0, none⟩) n c l i w hn hnc hrd hr (by omega) (by omega)).mono ?_
    rintro e w' ⟨g, cap, he, hg, hrow, hb⟩
    have h1 := roots_put l (List.replicate 11 0) i (by simp) hi (by omega) hz
    have h2 := hsp (List.replicate 11 0) (by simp)
    rw [zeros_zero, if_pos rfl, List.append_nil] at h1
    rw [rootO_k] at hrow h2
    exact .inr ⟨g, cap, _, he, by have := hrow.le.1; omega, hrow, h2, h1.2, hb, .inl ⟨rfl, h1.1⟩⟩
  cases hh : handleB h with
  | false => exact (root_e1h _ n c i s h w hr (by omega) (by omega) h0 hh).mono fun e w' he => .inl ⟨1, he⟩
  | true =>
    cases hnm : isName s with
    | false => exact (root_e2 _ n c i s h w hs hr (by omega) (by omega) hh hnm).mono fun e w' he => .inl ⟨2, he⟩
    | true =>
      refine (root_ok _ n c l i s h w hn hrd hr (by omega) (by omega) hh hnm).mono ?_
      rintro e w' ⟨g, cap, he, hg, hrow, hb⟩
      have hb' := handleB_true.1 hh
      have h11 := rootB_len s h hnm
      have h1 := roots_put l (rootB s h) i h11 hi (by omega) hz
      have h2 := hsp (rootB s h) h11
      rw [rootB_zero s h hh, rootB_P s h hh hnm, if_neg (by simp)] at h1
      rw [rootO_k] at hrow h2
      have hse : s.isEmpty = false := by
        cases s with
        | nil => cases hnm
        | cons x r => rfl
      exact .inr ⟨g, cap, _, he, by have := hrow.le.1; omega, hrow, h2, h1.2, hb, .inr ⟨hse, h1.1, by omega⟩⟩
theorem flatMap_at {X : Type} (f : X → List Value) (C : Nat) (hC : ∀ x, (f x).length = C) : ∀ (L : List X) (i : Nat) (h : i < L.length) (q : Nat), q < C → (L.flatMap f)[i * C + q]? = (f L[i])[q]?
  | [], i, h, _, _ => absurd h (by simp)
  | x :: r, 0, _, q, hq => by
    rw [List.flatMap_cons, Nat.zero_mul, Nat.zero_add, List.getElem?_append_left (by rw [hC]; exact hq)]; rfl
  | x :: r, i + 1, h, q, hq => by
    have hx := hC x
    rw [List.flatMap_cons, List.getElem?_append_right (by rw [hx, Nat.succ_mul]; omega), hx, show (i + 1) * C + q - C = i * C + q by rw [Nat.succ_mul]; omega]
    exact flatMap_at f C hC r i (by simpa using h) q hq
theorem own_rdX {X : Type} {f : X → List Value} {C : Nat} {w : World} {base : Nat} {e : TypeId} {v : Value} {L : List X} (hC : ∀ x, (f x).length = C) (h : w.ownsRow base e C v L.length (L.flatMap f)) : ∃ A c, v = .slice A L.length c ∧ L.length ≤ c ∧ RdX f C w A L := by
  rcases h.2 with ⟨rfl, h0⟩ | ⟨g, cap, cur, rfl, _, hh, hc, hm, hz, ht⟩
  · exact ⟨none, 0, by rw [h0], by omega, fun i hi => by omega⟩
  · refine ⟨_, cap, rfl, hc, fun i hi => ⟨g, 0, rfl, fun q u hq => ?_⟩⟩
    have hqC : q < C := by rw [← hC L[i]]; exact (List.getElem?_eq_some_iff.1 hq).1
    have := h.cells (g := g) rfl (i * C + q) u (by rw [flatMap_at f C hC L i hi q hqC]; exact hq)
    rw [Addr.add_lit] at this
    rw [Nat.add_assoc]
    exact this
theorem rcells_len (x : Bytes × Nat) : (rcells x).length = 2 := rfl
end Go.Proofs.YtbcafgocachddaaDoor
