/- What comes in: slices of extents. -/
import Derived.Test.YtibogmoemohngaaOpen2
import Derived.Test.YtibogmoemohngaaExt1
namespace Go.Proofs.Ytibogmoemohngaa
open Go.RowKit Go.ChangeShapes Go.WideShapes Go.ChangeAt

section
variable {H : Type} {enc : TypeId × Value → H} {w : World} {v : Value} {d : DataW H} {ps : List MemPlace} {base : Nat} {r : Reach}
set_option maxRecDepth 20000 in
theorem open_extents (hv : Value.okWide Try.prog w r base 34 v) (h : DataW.Trod enc Try.prog w 0 (fun _ => true) true 34 v d ps) (hz : (d.weights Try.prog 34).all (· ≤ reachBytes) = true) :
    ∃ (A : Option Addr) (c : Nat) (L : List Ext), v = .slice A L.length c ∧ L.length ≤ c ∧ c ≤ 140737488351232 ∧ (∀ x ∈ L, True) ∧ RdX tcells 2 w A L := by
  have hb : decide (1 ≤ Try.prog.bytesOf 38) = true := by kernel_rfl
  have hC : Try.prog.cellsOf 38 = 2 := by kernel_rfl
  refine open_seq (P := Try.prog) tcells 2 (fun _ _ => True) Try.underlying34 hC (by omega) (of_decide_eq_true hb) (fun n cs x hl ht hz => ?_) hv h hz
  obtain ⟨v0, v1, y0, y1, m, rfl, t0, t1, z0, z1⟩ := open_two Try.underlying38 ⟨rfl, by kernel_rfl⟩ ⟨rfl, by kernel_rfl⟩ hl ht hz
  obtain ⟨a, ha, -, wa⟩ := DataW.trod_int Try.underlying3 t0
  obtain ⟨b, hb', -, wb⟩ := DataW.trod_int Try.underlying3 t1
  simp only [List.cons.injEq, and_true] at ha hb'
  subst ha hb'
  exact ⟨(a, b), rfl, trivial⟩
end
end Go.Proofs.Ytibogmoemohngaa
