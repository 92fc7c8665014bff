/- The contract of check.handles. -/
import Derived.Test.YtbcafgocachddaaDoorChk1
import Derived.Deep.AppendLies
namespace Go.Proofs.YtbcafgocachddaaDoor
open Go.RowKit

def entsL (p : Nat → Bool) (R : Nat → Bytes) (m : Nat) : List (Int × Bytes) := ((List.range m).filter p).map fun (k : Nat) => (((k : Int) + 1), R k)
def rightL (n : Nat) (R : Nat → Bytes) (m : Nat) : List (Int × Bytes) := entsL (fun k => kindH n R k == 6) R m
def wholeL (n : Nat) (R : Nat → Bytes) (m : Nat) : List (Int × Bytes) := entsL (fun k => wholeE n (R k)) R m
theorem entsL_succ (p : Nat → Bool) (R : Nat → Bytes) (m : Nat) : entsL p R (m + 1) = entsL p R m ++ (if p m = true then [(((m : Int) + 1), R m)] else []) := by
  unfold entsL
  rw [List.range_succ, List.filter_append, List.map_append]
  congr 1
  cases h : p m <;> simp [h]
theorem entsL_len (p : Nat → Bool) (R : Nat → Bytes) (m : Nat) : (entsL p R m).length ≤ m := by
  unfold entsL
  rw [List.length_map]
  have := List.length_filter_le p (List.range m)
  rwa [List.length_range] at this
theorem wholeL_any (n : Nat) (R : Nat → Bytes) (m : Nat) (r : Bytes) : (wholeL n R m).any (fun x => overE r x.2) = (List.range m).any fun j => wholeE n (R j) && overE r (R j) := by
  unfold wholeL entsL
  rw [List.any_map, List.any_filter]
  rfl
def ecells (x : Int × Bytes) : List Value := [.int .i64 x.1, .int .i64 (rAt x.2), .int .i64 (rLen x.2), .int .i64 (rTag x.2)]
def fcells (f : Flt) : List Value := [.int .i64 f.what, .int .i64 f.which]
theorem ecells_at (L : List (Int × Bytes)) (q : Nat) (hq : q < 4) : ∀ i (h : i < L.length), (L.flatMap ecells)[i * 4 + q]? = (ecells L[i])[q]? := by
  induction L with
  | nil => intro i h; simp at h
  | cons x L ih =>
    intro i h
    rw [List.flatMap_cons]
    have hl : (ecells x).length = 4 := rfl
    cases i with
    | zero => rw [List.getElem?_append_left (by omega)]; simp
    | succ i =>
      rw [List.getElem?_append_right (by omega), hl, show (i + 1) * 4 + q - 4 = i * 4 + q from by omega, ih i (by simpa using h)]
      simp
theorem own_rdEs {w : World} {base : Nat} {v : Value} {L : List (Int × Bytes)} (h : w.ownsRow base 26 4 v L.length (L.flatMap ecells)) : ∃ A c, v = .slice A L.length c ∧ L.length ≤ c ∧ RdEs w A L := by
  rcases h.2 with ⟨rfl, h0⟩ | ⟨g, cap, cur, rfl, _, hh, hc, hm, hz, ht⟩
  · exact ⟨none, 0, by rw [h0], by omega, fun i hi => by omega⟩
  · refine ⟨_, cap, rfl, hc, fun i hi => ?_⟩
    have hcell : ∀ q u, q < 4 → (ecells L[i])[q]? = some u → w.cell? ⟨g, 0 + (i * 4 + q), none⟩ = some u := fun q u hq hu => by
      have := h.cells (g := g) rfl (i * 4 + q) u (by rw [ecells_at L q hq i hi]; exact hu)
      rw [Addr.add_lit] at this
      exact this
    refine ⟨g, 0, rfl, ?_, ?_, ?_, ?_⟩
    · exact hcell 0 _ (by omega) rfl
    · exact (Nat.add_assoc 0 (i * 4) 1) ▸ hcell 1 _ (by omega) rfl
    · exact (Nat.add_assoc 0 (i * 4) 2) ▸ hcell 2 _ (by omega) rfl
    · exact (Nat.add_assoc 0 (i * 4) 3) ▸ hcell 3 _ (by omega) rfl
theorem own_apart {w : World} {base e e' size size' n n' : Nat} {v v' : Value} {xs xs' : List Value} (h : w.ownsRow base e size v n xs) (h' : w.ownsRow base e' size' v' n' xs') (hne : e ≠ e') : v.ownBlock = none ∨ v.ownBlock ≠ v'.ownBlock := by
  rcases h.2 with ⟨rfl, _⟩ | ⟨g, cap, cur, rfl, _, hh, _⟩
  · exact .inl rfl
  · right
    intro he
    rcases h'.2 with ⟨rfl, _⟩ | ⟨g', cap', cur', rfl, _, hh', _⟩
    · simp [Value.ownBlock] at he
    · obtain rfl : g = g' := by simpa [Value.ownBlock] using he
      rw [hh] at hh'
      injection hh' with hh'
      injection hh' with _ ht
      exact hne ht
/-- three slices of the call's own: faults, right ones, whole ones -/
structure HSt (w : World) (base : Nat) (vf vr vw : Value) (F : List Flt) (R W : List (Int × Bytes)) : Prop where
  f : w.ownsRow base 151 2 vf F.length (F.flatMap fcells)
  r : w.ownsRow base 26 4 vr R.length (R.flatMap ecells)
  o : w.ownsRow base 26 4 vw W.length (W.flatMap ecells)
  ne : ∀ b, vr.ownBlock = some b → vw.ownBlock ≠ some b
section
variable {w w' : World} {base : Nat} {vf vr vw vf' : Value} {F : List Flt} {R W : List (Int × Bytes)}
theorem HSt.below (h : HSt w base vf vr vw F R W) (hb : Below w.heap.size w w') : HSt w' base vf vr vw F R W := ⟨own_below h.f hb, own_below h.r hb, own_below h.o hb, h.ne⟩
theorem HSt.addF (h : HSt w base vf vr vw F R W) {x : Flt} (hg : w.grownBy w' vf.ownBlock) (h' : w'.ownsRow base 151 2 vf' (F.length + 1) (F.flatMap fcells ++ fcells x)) : HSt w' base vf' vr vw (F ++ [x]) R W :=
  ⟨by simpa using h', h.r.kept hg (own_apart h.r h.f (by decide)), h.o.kept hg (own_apart h.o h.f (by decide)), h.ne⟩
theorem HSt.addR (h : HSt w base vf vr vw F R W) {x : Int × Bytes} {g cap n : Nat} (hg : w.grownBy w' vr.ownBlock) (hn : n = R.length + 1) (h' : w'.ownsRow base 26 4 (.slice (some ⟨g, 0, none⟩) n cap) n (R.flatMap ecells ++ ecells x)) (hat : vr.ownBlock = some g ∨ w.heap.size ≤ g) :
    HSt w' base vf (.slice (some ⟨g, 0, none⟩) n cap) vw F (R ++ [x]) W := by
  subst hn
  refine ⟨h.f.kept hg (own_apart h.f h.r (by decide)), by simpa using h', h.o.kept hg ?_, fun b hb hw => ?_⟩
  · cases hv : vw.ownBlock with
    | none => exact .inl rfl
    | some b => exact .inr fun e => h.ne b e.symm hv
  · obtain rfl : g = b := by simpa [Value.ownBlock] using hb
    rcases hat with ha | ha
    · exact h.ne g ha hw
    · have := (h.o.lt _ hw).2; omega
theorem HSt.addW (h : HSt w base vf vr vw F R W) {x : Int × Bytes} {g cap n : Nat} (hg : w.grownBy w' vw.ownBlock) (hn : n = W.length + 1) (h' : w'.ownsRow base 26 4 (.slice (some ⟨g, 0, none⟩) n cap) n (W.flatMap ecells ++ ecells x)) (hat : vw.ownBlock = some g ∨ w.heap.size ≤ g) :
    HSt w' base vf vr (.slice (some ⟨g, 0, none⟩) n cap) F R (W ++ [x]) := by
  subst hn
  refine ⟨h.f.kept hg (own_apart h.f h.o (by decide)), h.r.kept hg ?_, by simpa using h', fun b hb hw => ?_⟩
  · cases hv : vr.ownBlock with
    | none => exact .inl rfl
    | some b => exact .inr fun e => h.ne b hv e.symm
  · obtain rfl : g = b := by simpa [Value.ownBlock] using hw
    rcases hat with ha | ha
    · exact h.ne g hb ha
    · have := (h.r.lt _ hb).2; omega
end
theorem fault_info : (Tryd.prog.info? 151).map (fun i => (i.zero, i.size, i.bytes)) = some (some (.agg #[.int .i64 0, .int .i64 0]), 2, 16) := by kernel_rfl
theorem entry_info : (Tryd.prog.info? 26).map (fun i => (i.zero, i.size, i.bytes)) = some (some (.agg #[.int .i64 0, .int .i64 0, .int .i64 0, .int .i64 0]), 4, 32) := by kernel_rfl
theorem rAt_le (r : Bytes) : rAt r ≤ 65535 := by
  have h := ofB_lt ((r.drop 1).take 2)
  have h2 : 2 ^ (8 * ((r.drop 1).take 2).length) ≤ 2 ^ 16 := Nat.pow_le_pow_right (by omega) (by simp; omega)
  unfold rAt; omega
theorem rLen_le (r : Bytes) : rLen r ≤ 65535 := by
  have h := ofB_lt ((r.drop 3).take 2)
  have h2 : 2 ^ (8 * ((r.drop 3).take 2).length) ≤ 2 ^ 16 := Nat.pow_le_pow_right (by omega) (by simp; omega)
  unfold rLen; omega
theorem overE_eq (r s : Bytes) : overB (rAt r) (rLen r) (rAt s) (rLen s) = overE r s := by
  unfold overB overE
  congr 1 <;> (rw [decide_eq_decide]; omega)
/-- the closure of handles -/
theorem over1_any (r : Bytes) (Bx : Nat) (x : Int × Bytes) (W : World) (h1 : W.cell? ⟨Bx, 1, none⟩ = some (.int .i64 (rAt r))) (h2 : W.cell? ⟨Bx, 2, none⟩ = some (.int .i64 (rLen r))) :
    Calls Tryd.prog 123 #[entR x.1 x.2, .pointer (some ⟨Bx, 0, none⟩)] W fun e w' => e = .returned (.bool (overE r x.2)) ∧ Below W.heap.size W w' := by
  have hlt := block_lt_of_cell h1
  have hW : Below W.heap.size W (W.alloc (.cells #[.int .i64 x.1, .int .i64 (rAt x.2), .int .i64 (rLen x.2), .int .i64 (rTag x.2)] 26)) := (Below.refl _ _).alloc (Nat.le_refl _) _
  have b1 := rAt_le r
  have b2 := rLen_le r
  have b3 := rAt_le x.2
  have b4 := rLen_le x.2
  have HO := Hidden.mk (overE_eq r x.2)
  obtain ⟨xh, xr⟩ := x
  unfold entR
  dsimp only at *
  generalize rAt xr = c1 at *
  generalize rLen xr = c2 at *
  generalize rTag xr = c3 at *
  generalize rAt r = d1 at *
  generalize rLen r = d2 at *
  go_enter Tryd.func123, Tryd.ntmps123
  go_wp2_with fail
  refine (over_any d1 d2 c1 c2 _ (by omega) (by omega) (by omega) (by omega) (by omega) (by omega) (by omega) (by omega)).mono ?_
  rintro e w' ⟨rfl, hb⟩
  have hB := hW.trans (hb.mono hW.size)
  rw [HO.out]
  go_wp2_with fail
  go_ret
  exact ⟨rfl, hB⟩
end Go.Proofs.YtbcafgocachddaaDoor
