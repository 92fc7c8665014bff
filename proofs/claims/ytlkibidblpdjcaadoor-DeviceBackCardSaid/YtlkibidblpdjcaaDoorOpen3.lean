/- What comes in: the program's own slices, opened. -/
import Derived.Test.YtlkibidblpdjcaaDoorOpen2
import Derived.Test.YtlkibidblpdjcaaDoorNum1
import Derived.Deep.Grids
namespace Go.Proofs.YtlkibidblpdjcaaDoor
open Go.RowKit Go.ChangeShapes Go.WideShapes Go.ChangeAt

section
variable {H : Type} {enc : TypeId × Value → H} {w : World} {v : Value} {d : DataW H} {ps : List MemPlace} {base : Nat} {r : Reach}
set_option maxRecDepth 20000 in
theorem open_pages (hv : Value.okWide Tryd.prog w r base 22 v) (h : DataW.Trod enc Tryd.prog w 0 (fun _ => true) true 22 v d ps) (hz : (d.weights Tryd.prog 22).all (· ≤ reachBytes) = true) :
    ∃ (A : Option Addr) (c : Nat) (L : List PgX), v = .slice A L.length c ∧ L.length ≤ c ∧ c ≤ 140737488351232 ∧ (∀ x ∈ L, PgOk w x) ∧ RdX pcells 2 w A L := by
  have hb : decide (1 ≤ Tryd.prog.bytesOf 36) = true := by kernel_rfl
  have hC : Tryd.prog.cellsOf 36 = 2 := by kernel_rfl
  refine open_seq (P := Tryd.prog) pcells 2 PgOk Tryd.underlying22 hC (by omega) (of_decide_eq_true hb) (fun n cs x hl ht hz => ?_) hv h hz
  obtain ⟨v0, v1, y0, y1, m, rfl, t0, t1, z0, z1⟩ := open_two Tryd.underlying36 ⟨rfl, by kernel_rfl⟩ ⟨rfl, by kernel_rfl⟩ hl ht hz
  obtain ⟨a, ha, -, wa⟩ := DataW.trod_int Tryd.underlying3 t0
  obtain ⟨A, c, l, hb, hc, hm, hr⟩ := open_bytes_in Tryd.underlying29 Tryd.underlying5 (by kernel_rfl) (by kernel_rfl) t1 z1
  simp only [List.cons.injEq, and_true] at ha
  have hw := wf_i64' wa
  exact ⟨⟨a, A, c, l⟩, by rw [ha, hb]; rfl, hw.1, hw.2, hc, hm, hr⟩
set_option maxRecDepth 20000 in
/-- booleans that came in -/
theorem open_bools (hv : Value.okWide Tryd.prog w r base 23 v) (h : DataW.Trod enc Tryd.prog w 0 (fun _ => true) true 23 v d ps) (hz : (d.weights Tryd.prog 23).all (· ≤ reachBytes) = true) :
    ∃ (A : Option Addr) (c : Nat) (L : List Bool), v = .slice A L.length c ∧ L.length ≤ c ∧ c ≤ 140737488351232 ∧ (∀ x ∈ L, True) ∧ RdX (fun b => [.bool b]) 1 w A L := by
  have hb : decide (1 ≤ Tryd.prog.bytesOf 4) = true := by kernel_rfl
  have hC : Tryd.prog.cellsOf 4 = 1 := by kernel_rfl
  refine open_seq (P := Tryd.prog) (fun b => [.bool b]) 1 (fun _ _ => True) Tryd.underlying23 hC (by omega) (of_decide_eq_true hb) (fun n cs x hl ht hz => ?_) hv h hz
  match cs, hl with
  | [c0], _ =>
    obtain ⟨b, hb, _⟩ := DataW.trod_bool Tryd.underlying4 ht
    exact ⟨b, by simpa using hb, trivial⟩
end
end Go.Proofs.YtlkibidblpdjcaaDoor
