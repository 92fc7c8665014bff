/- What comes in: arguments opened to the words of the text Base. No program in sight. -/
import Derived.Test.YtibogmoemohngaaBase
import Derived.ProofKit
import Derived.OpenShut
import Derived.ShutString
import Derived.ChangeOld
import Derived.SizedLaws
import Derived.Lib.SmallJoins
namespace Go.Proofs.Ytibogmoemohngaa
open Go.RowKit Go.ChangeShapes Go.WideShapes Go.ChangeAt
open Go.ChangeMaps (open_string shut_string)

section
variable {H : Type} {enc : TypeId × Value → H} {P : Program} {w : World}
theorem wf_u8 {n : Int} (h : (Lit.int .u8 n).wf = true) : 0 ≤ n ∧ n ≤ 255 := by
  simpa [Lit.wf, IntKind.min, IntKind.max, IntKind.bits, IntKind.signed] using h
theorem wf_i64' {n : Int} (h : (Lit.int .i64 n).wf = true) : -9223372036854775808 ≤ n ∧ n ≤ 9223372036854775807 := by
  simpa [Lit.wf, IntKind.min, IntKind.max, IntKind.bits, IntKind.signed] using h

def toBytes (zs : List Int) : Bytes := zs.map fun z => UInt8.ofNat z.toNat
theorem toBytes_at {zs : List Int} (hz : ∀ n ∈ zs, (Lit.int .u8 n).wf = true) (j : Nat) (hj : j < zs.length) : .int .u8 (zs.getD j 0) = bv ((toBytes zs)[j]'(by simpa [toBytes] using hj)) := by
  have h1 : zs.getD j 0 = zs[j] := by simp [hj]
  have h2 := wf_u8 (hz _ (List.getElem_mem hj))
  have h3 : (zs[j].toNat % 256 : Nat) = zs[j].toNat := Nat.mod_eq_of_lt (by omega)
  rw [h1]
  simp only [toBytes, List.getElem_map, bv]
  congr 1
  rw [UInt8.toNat_ofNat', show 2 ^ 8 = 256 from rfl, h3]
  omega

/-- a slice of bytes that came in -/
theorem open_bytes {t e : TypeId} {v : Value} {d : DataW H} {ps : List MemPlace} {base : Nat} {r : Reach} (ht : P.underlying t = some (.slice e)) (he : P.underlying e = some (.int .u8)) (hc : P.cellsOf e = 1) (hb : P.bytesOf e = 1)
    (hv : Value.okWide P w r base t v) (h : DataW.Trod enc P w 0 (fun _ => true) true t v d ps) (hz : (d.weights P t).all (· ≤ reachBytes) = true) :
    ∃ (A : Option Addr) (c : Nat) (l : Bytes), v = .slice A l.length c ∧ l.length ≤ c ∧ c ≤ 140737488351232 ∧ Rd w A l := by
  obtain ⟨a0, len0, cap0, rfl⟩ := okWide_slice ht hv
  obtain ⟨fuel, hf⟩ := h
  rcases open_ints ht he hc hf with ⟨hcs, _⟩ | ⟨x, l, c, zs, hcs, _, hl, hm, hlen, hx, hcell, hwz⟩
  · simp [Value.cells] at hcs
    obtain ⟨rfl, rfl, rfl⟩ := hcs
    exact ⟨none, 0, [], rfl, by simp, by omega, Rd.nil_⟩
  · simp [Value.cells] at hcs
    obtain ⟨rfl, rfl, rfl⟩ := hcs
    simp only [Prod.mk.injEq] at hx
    obtain ⟨rfl, rfl⟩ := hx
    have hlen' : zs.length = cap0 := by simpa using hlen
    have hreach : cap0 ≤ 140737488351232 := by
      have := List.all_eq_true.1 hz ((zs.take len0).length * 1 + (zs.drop len0).length * 1) (by
        simp [DataW.weights, ht, hb, lits, Nat.mul_one, hlen'])
      have h2 := of_decide_eq_true this
      simp [hlen'] at h2
      have h3 : reachBytes = 140737488351232 := by decide
      omega
    have hlt : len0 ≤ zs.length := by omega
    refine ⟨some x, cap0, (toBytes zs).take len0, ?_, ?_, hreach, ?_⟩
    · simp [toBytes]; omega
    · simp [toBytes]; omega
    · intro j hj
      have hj' : j < len0 := by simp [toBytes] at hj; omega
      have hc0 := hcell j (by omega)
      obtain ⟨b, off, spot⟩ := x
      have hs : spot = none := by
        have hc1 := hcell 0 (by omega)
        simpa [Addr.add] using World.cell?_spot hc1
      subst hs
      refine ⟨b, off, rfl, ?_⟩
      rw [Addr.add_lit] at hc0
      rw [hc0, toBytes_at hwz j (by omega)]
      simp
/-- a text that came in -/
theorem open_str {t : TypeId} {v : Value} {d : DataW H} {ps : List MemPlace} {base : Nat} {r : Reach} (ht : P.underlying t = some .string)
    (hv : Value.okWide P w r base t v) (h : DataW.Trod enc P w 0 (fun _ => true) true t v d ps) (hz : (d.weights P t).all (· ≤ reachBytes) = true) :
    ∃ (s : Bytes), v = sv s ∧ s.length ≤ 140737488351232 := by
  obtain ⟨s, rfl, rfl, rfl, hs⟩ := open_string ht hv h
  refine ⟨s.data.toList, rfl, ?_⟩
  have h2 := of_decide_eq_true (List.all_eq_true.1 hz s.data.toList.length (by simp [DataW.weights]))
  have h3 : reachBytes = 140737488351232 := by decide
  omega
/-- a struct of four whole numbers that came in, the two in the middle a struct of their own -/
theorem open_entry {t : TypeId} {f0 f1 f2 g0 g1 : Field} {v : Value} {d : DataW H} {ps : List MemPlace} {base : Nat} {r : Reach} (hs : P.underlying t = some (.struct #[f0, f1, f2])) (hs1 : P.underlying f1.type = some (.struct #[g0, g1])) (hC : P.cellsOf t = 4)
    (o0 : f0.offset = 0 ∧ P.cellsOf f0.type = 1) (o1 : f1.offset = 1 ∧ P.cellsOf f1.type = 2) (o2 : f2.offset = 3 ∧ P.cellsOf f2.type = 1) (p0 : g0.offset = 0 ∧ P.cellsOf g0.type = 1) (p1 : g1.offset = 1 ∧ P.cellsOf g1.type = 1)
    (i0 : P.underlying f0.type = some (.int .i64)) (i1 : P.underlying g0.type = some (.int .i64)) (i2 : P.underlying g1.type = some (.int .i64)) (i3 : P.underlying f2.type = some (.int .i64))
    (hv : Value.okWide P w r base t v) (h : DataW.Trod enc P w 0 (fun _ => true) true t v d ps) :
    ∃ a b c e : Int, v = .agg #[.int .i64 a, .int .i64 b, .int .i64 c, .int .i64 e] ∧ (-9223372036854775808 ≤ a ∧ a ≤ 9223372036854775807) ∧ (-9223372036854775808 ≤ b ∧ b ≤ 9223372036854775807) ∧ (-9223372036854775808 ≤ c ∧ c ≤ 9223372036854775807) ∧ (-9223372036854775808 ≤ e ∧ e ≤ 9223372036854775807) := by
  obtain ⟨cs, rfl, hsz⟩ := okWide_struct hs hv
  obtain ⟨l⟩ := cs
  match l, hsz.trans hC with
  | [c0, c1, c2, c3], _ =>
    obtain ⟨fuel, hf⟩ := h
    obtain ⟨xs, n, _, hx, _, hlen, hg⟩ := DataW.trod_struct hs hf
    match xs, hlen with
    | [y0, y1, y2], _ =>
      have t0 : DataW.trod enc P w 0 (fun _ => true) true n f0.type [c0] = some y0 := by simpa [Value.cells, o0.1, o0.2] using hg 0 f0 rfl
      have t1 : DataW.trod enc P w 0 (fun _ => true) true n f1.type [c1, c2] = some y1 := by simpa [Value.cells, o1.1, o1.2] using hg 1 f1 rfl
      have t2 : DataW.trod enc P w 0 (fun _ => true) true n f2.type [c3] = some y2 := by simpa [Value.cells, o2.1, o2.2] using hg 2 f2 rfl
      obtain ⟨ys, n', _, hx', _, hlen', hg'⟩ := DataW.trod_struct hs1 t1
      match ys, hlen' with
      | [z0, z1], _ =>
        have u0 : DataW.trod enc P w 0 (fun _ => true) true n' g0.type [c1] = some z0 := by simpa [Value.cells, p0.1, p0.2] using hg' 0 g0 rfl
        have u1 : DataW.trod enc P w 0 (fun _ => true) true n' g1.type [c2] = some z1 := by simpa [Value.cells, p1.1, p1.2] using hg' 1 g1 rfl
        obtain ⟨a, ha, -, wa⟩ := DataW.trod_int i0 t0
        obtain ⟨b, hb, -, wb⟩ := DataW.trod_int i1 u0
        obtain ⟨c, hc, -, wc⟩ := DataW.trod_int i2 u1
        obtain ⟨e, he, -, we⟩ := DataW.trod_int i3 t2
        simp only [List.cons.injEq, and_true] at ha hb hc he
        subst ha hb hc he
        exact ⟨a, b, c, e, rfl, wf_i64' wa, wf_i64' wb, wf_i64' wc, wf_i64' we⟩
/-- a struct of a string and a whole number that came in -/
theorem open_root {t : TypeId} {f0 f1 : Field} {v : Value} {d : DataW H} {ps : List MemPlace} {base : Nat} {r : Reach} (hs : P.underlying t = some (.struct #[f0, f1])) (hone : Go.Deep.oneCellFields P #[f0, f1] = true) (hC : P.cellsOf t = 2)
    (i0 : P.underlying f0.type = some .string) (i1 : P.underlying f1.type = some (.int .i64))
    (hv : Value.okWide P w r base t v) (h : DataW.Trod enc P w 0 (fun _ => true) true t v d ps) (hz : (d.weights P t).all (· ≤ reachBytes) = true) :
    ∃ (s : Bytes) (b : Int), v = .agg #[sv s, .int .i64 b] ∧ s.length ≤ 140737488351232 ∧ (-9223372036854775808 ≤ b ∧ b ≤ 9223372036854775807) := by
  obtain ⟨v0, v1, y0, y1, n, rfl, rfl, -, t0, t1⟩ := Go.Joins.open_agg2 hs hone hC hv h
  obtain ⟨s, ha, hy, -⟩ := DataW.trod_string i0 t0
  obtain ⟨b, hb, -, wb⟩ := DataW.trod_int i1 t1
  simp only [List.cons.injEq, and_true] at ha hb
  subst ha hb hy
  have h2 := of_decide_eq_true (List.all_eq_true.1 hz s.data.toList.length (by simp [DataW.weights, hs, DataW.weightsEach]))
  have h3 : reachBytes = 140737488351232 := by decide
  exact ⟨s.data.toList, b, rfl, by omega, wf_i64' wb⟩
end
end Go.Proofs.Ytibogmoemohngaa
