/- Contracts and plain laws, put together: Told, Told2, Told3, Open3, Diff0, Diff1, Diff2, ImageApart0, ImageBack0, Heap4, RowSet, Stamp2, RefS, RefN, RefP, RefM, RefNm, RefI1, RefI2, RefI3, RefI4, RefI5, Img8, Heap5. -/
import Derived.Test.YthlflklamgdkfaaDoorHeapFullFrameM1
import Derived.LaidEql
import Derived.Stop.Asserts
import Derived.RowKitTokens
import Derived.Test.YthlflklamgdkfaaDoorHeapFullFrameM2
import Derived.Deep.Grids
import Derived.Deep.RegionHeld3
import Derived.Deep.AppendLies
import Derived.Deep.DeepCutAuto
import Derived.Deep.CutBlock
import Derived.StillTailTactics
/- The contracts of errors.As at a target that points to an api.Errno, of plain.Told and of vaultsame.Error. After the guide's worked example on errors.As at a concrete target. -/
namespace Go.Proofs.YthlflklamgdkfaaDoor
open Go.RowKit Go.Extern.Stop Go.Stop Go.Extern

/-- errors.As(nil, target) -/
theorem as_nil (t : Value) (w : World) :
    Calls Tryd.prog 143 #[.nilIface, t] w fun e w' => e = .returned (.bool false) ∧ w' = w := by
  go_enter Tryd.func143, Tryd.ntmps143
  go_wp2
  go_ret
  exact ⟨rfl, rfl⟩

theorem rl_valueOfP (t : Addr) (w : World) : (ReflectliteValue.unpack (.iface 213 (.pointer (some t)))).run Tryd.prog w
    = .ok (.agg #[.pointer (some ⟨1, 213, none⟩), .pointer (some ⟨w.heap.size, 0, none⟩), .int .u64 150]) (w.alloc (.cells #[.pointer (some t)] 213)) := by kernel_rfl
theorem rl_typeP (a : Addr) (w : World) : (ReflectliteValue.methodAny (ReflectliteValue.valueError "reflectlite.Value.Type" 0) (fun t _ _ _ => ReflectliteType.toType t) #[.agg #[.pointer (some ⟨1, 213, none⟩), .pointer (some a), .int .u64 150]]).run Tryd.prog w
    = .ok (.iface 255 (.agg #[.pointer (some ⟨1, 213, none⟩)])) w := by kernel_rfl
theorem rl_kindP (w : World) : ((ReflectliteType.abiMethod fun t => (fun a : Nat => Value.int IntKind.u8 (a : Int)) <$> Rtype.kind t) #[.pointer (some ⟨1, 213, none⟩)]).run Tryd.prog w = .ok (.int .u8 22) w := by kernel_rfl
theorem rl_kindE (w : World) : ((ReflectliteType.abiMethod fun t => (fun a : Nat => Value.int IntKind.u8 (a : Int)) <$> Rtype.kind t) #[.pointer (some ⟨1, 149, none⟩)]).run Tryd.prog w = .ok (.int .u8 2) w := by kernel_rfl
theorem rl_m (z : Sem Value) (f : TypeId → Addr → Nat → Nat → Sem Value) (v : Value) :
    ReflectliteValue.method z f #[v] = (do match ← ReflectliteValue.parts v with | none => z | some (t, a, fl) => f t a fl (fl % 32)) := rfl
theorem rl_partsP (a : Addr) (w : World) : (ReflectliteValue.parts (.agg #[.pointer (some ⟨1, 213, none⟩), .pointer (some a), .int .u64 150])).run Tryd.prog w = .ok (some (213, a, 150)) w := by kernel_rfl
theorem rl_isNilP (a p : Addr) (W : World) (ha : W.cell? a = some (.pointer (some p))) :
    (ReflectliteValue.method (ReflectliteValue.valueError "reflectlite.Value.IsNil" 0) ReflectliteValue.isNil #[.agg #[.pointer (some ⟨1, 213, none⟩), .pointer (some a), .int .u64 150]]).run Tryd.prog W = .ok (.bool false) W := by
  rw [rl_m]
  simp only [Sem.run_bind, rl_partsP, Result.andThen]
  simp [ReflectliteValue.isNil, loadVar, isAgg, underlying, Tryd.underlying213, ha, Result.andThen]
theorem rl_elemP (w : World) : (ReflectliteType.method ReflectliteType.elem #[.agg #[.pointer (some ⟨1, 213, none⟩)]]).run Tryd.prog w = .ok (.iface 255 (.agg #[.pointer (some ⟨1, 149, none⟩)])) w := by kernel_rfl
theorem rl_implE (w : World) : (ReflectliteType.relation "Implements" ReflectliteType.implements_ #[.agg #[.pointer (some ⟨1, 149, none⟩)], .iface 255 (.agg #[.pointer (some ⟨1, 28, none⟩)])]).run Tryd.prog w = .ok (.bool true) w := by kernel_rfl
theorem rl_typeOfE (v : Value) (w : World) : (ReflectliteType.typeOf #[.iface 149 v]).run Tryd.prog w = .ok (.iface 255 (.agg #[.pointer (some ⟨1, 149, none⟩)])) w := by kernel_rfl
theorem rl_assignE (w : World) : (ReflectliteType.relation "AssignableTo" ReflectliteType.assignableTo #[.agg #[.pointer (some ⟨1, 149, none⟩)], .iface 255 (.agg #[.pointer (some ⟨1, 149, none⟩)])]).run Tryd.prog w = .ok (.bool true) w := by kernel_rfl
theorem rl_valueOfE (k : Int) (w : World) : (ReflectliteValue.unpack (.iface 149 (.int .i64 k))).run Tryd.prog w
    = .ok (.agg #[.pointer (some ⟨1, 149, none⟩), .pointer (some ⟨w.heap.size, 0, none⟩), .int .u64 130]) (w.alloc (.cells #[.int .i64 k] 149)) := by kernel_rfl
theorem rl_elemOfP (w : World) : (Rtype.elem? 213).run Tryd.prog w = .ok (some 149) w := by kernel_rfl
theorem rl_mkE (p : Addr) (w : World) : (ReflectliteValue.mk 149 p ReflectliteValue.flagAddr).run Tryd.prog w = .ok (.agg #[.pointer (some ⟨1, 149, none⟩), .pointer (some p), .int .u64 386]) w := by kernel_rfl
theorem rl_elemVP (a p : Addr) (W : World) (ha : W.cell? a = some (.pointer (some p))) :
    (ReflectliteValue.method (ReflectliteValue.valueError "reflectlite.Value.Elem" 0) ReflectliteValue.elem #[.agg #[.pointer (some ⟨1, 213, none⟩), .pointer (some a), .int .u64 150]]).run Tryd.prog W
      = .ok (.agg #[.pointer (some ⟨1, 149, none⟩), .pointer (some p), .int .u64 386]) W := by
  rw [rl_m]
  simp only [Sem.run_bind, rl_partsP, Result.andThen]
  simp [ReflectliteValue.elem, loadVar, isAgg, underlying, Tryd.underlying213, ha, Result.andThen, rl_elemOfP, rl_mkE]
theorem rl_s (v x : Value) : ReflectliteValue.set #[v, x] = (do
    let (some (dst, a, fl), some (src, b, _)) := (← ReflectliteValue.parts v, ← ReflectliteValue.parts x)
      | unsupported (.noEntry "extern/(internal/reflectlite.Value).Set.zeroValue")
    if fl / ReflectliteValue.flagAddr % 2 == 0 then unsupported (.noEntry "extern/(internal/reflectlite.Value).Set.unaddressable")
    let val ← loadVar src b
    if ← Rtype.directlyAssignable dst src then storeVar dst a val
    else if ← Rtype.implements dst src then
      if (← Rtype.kind src) == 20 then
        match val with
        | .nilIface => unsupported (.noEntry "extern/reflectlite: a nil value of one interface type handed on as a value of another")
        | _ => storeVar dst a val
      else storeVar dst a (.iface src val)
    else panicString ("reflectlite.Set: value of type " ++ (← Rtype.spelt src) ++ " is not assignable to type " ++ (← Rtype.spelt dst))
    pure (.tuple #[])) := rfl
theorem rl_partsEa (a : Addr) (w : World) : (ReflectliteValue.parts (.agg #[.pointer (some ⟨1, 149, none⟩), .pointer (some a), .int .u64 386])).run Tryd.prog w = .ok (some (149, a, 386)) w := by kernel_rfl
theorem rl_partsE (a : Addr) (w : World) : (ReflectliteValue.parts (.agg #[.pointer (some ⟨1, 149, none⟩), .pointer (some a), .int .u64 130])).run Tryd.prog w = .ok (some (149, a, 130)) w := by kernel_rfl
theorem rl_directE (w : World) : (Rtype.directlyAssignable 149 149).run Tryd.prog w = .ok true w := by kernel_rfl
theorem rl_setE (ta b : Addr) (k : Int) (old : Value) (W : World) (hb : W.cell? b = some (.int .i64 k)) (ht : W.cell? ta = some old) (hf : W.frozen? ta = false) :
    (ReflectliteValue.set #[.agg #[.pointer (some ⟨1, 149, none⟩), .pointer (some ta), .int .u64 386], .agg #[.pointer (some ⟨1, 149, none⟩), .pointer (some b), .int .u64 130]]).run Tryd.prog W
      = .ok (.tuple #[]) (W.setCell ta (.int .i64 k)) := by
  rw [rl_s]
  simp only [Sem.run_bind, rl_partsEa, rl_partsE, Result.andThen]
  simp [ReflectliteValue.flagAddr, loadVar, isAgg, underlying, Tryd.underlying149, hb, Result.andThen, rl_directE, storeVar, Value.cells, storeCells, Addr.add]
  rw [run_store Tryd.prog W ta _ _ (by rfl)]
  simp [ht, hf]

/-- what the row's condition gives: the variable errors.errorType -/
def HasType (w : World) : Prop := w.cell? ⟨0, 0, none⟩ = some (.iface 255 (.agg #[.pointer (some ⟨1, 28, none⟩)]))
theorem HasType.below {B : Nat} {w w' : World} (h : HasType w) (hB : 0 < B) (hb : Below B w w') : HasType w' := (hb.cell (p := ⟨0, 0, none⟩) hB).trans h
theorem HasType.lt {w : World} (h : HasType w) : 0 < w.heap.size := block_lt_of_cell h
end Go.Proofs.YthlflklamgdkfaaDoor
/- The contracts of errors.As at a target that points to an api.Errno, of plain.Told and of vaultsame.Error. -/
namespace Go.Proofs.YthlflklamgdkfaaDoor
open Go.RowKit Go.Extern.Stop Go.Stop Go.Extern

theorem rl_methKind (n : Nat) (h : Value) (w : World) : (Go.method (n + 1) 255 (.agg #[h]) "Kind").run Tryd.prog w = .ok (229, h) w := by kernel_rfl
theorem rl_methElem (n : Nat) (h : Value) (w : World) : (Go.method (n + 1) 255 (.agg #[h]) "Elem").run Tryd.prog w = .ok (239, .agg #[h]) w := by kernel_rfl
theorem rl_methImpl (n : Nat) (h : Value) (w : World) : (Go.method (n + 1) 255 (.agg #[h]) "Implements").run Tryd.prog w = .ok (240, .agg #[h]) w := by kernel_rfl
theorem rl_methAssign (n : Nat) (h : Value) (w : World) : (Go.method (n + 1) 255 (.agg #[h]) "AssignableTo").run Tryd.prog w = .ok (237, .agg #[h]) w := by kernel_rfl

set_option maxRecDepth 100000 in
set_option maxHeartbeats 4000000 in
theorem as_errno (k : Int) (t : Addr) (old : Value) (w : World) (hg : HasType w) (ht0 : w.cell? t = some old) (hf0 : w.frozen? t = false) :
    Calls Tryd.prog 143 #[.iface 149 (.int .i64 k), .iface 213 (.pointer (some t))] w fun ev w' => ev = .returned (.bool true) ∧ w' = ((((w.alloc (.cells #[.pointer (some t)] 213)).alloc (.cells #[.pointer (some ⟨1, 213, none⟩), .pointer (some ⟨w.heap.size, 0, none⟩), .int .u64 150] 237)).alloc (.cells #[.pointer (some ⟨1, 213, none⟩), .pointer (some ⟨w.heap.size, 0, none⟩), .int .u64 150] 237)).alloc (.cells #[.int .i64 k] 149)).setCell t (.int .i64 k) := by
  have h6 := @run_callFunc_extern Tryd.prog 169 _ (fun args => ReflectliteValue.unpack (args.getD 0 (.tuple #[]))) Tryd.func169 (by kernel_rfl) (by kernel_rfl) (by kernel_rfl) (by kernel_rfl)
  have h7 := @run_callFunc_extern Tryd.prog 170 _ (ReflectliteValue.methodAny (ReflectliteValue.valueError "reflectlite.Value.Type" 0) (fun t _ _ _ => ReflectliteType.toType t)) Tryd.func170 (by kernel_rfl) (by kernel_rfl) (by kernel_rfl) (by kernel_rfl)
  have h8 := @run_callFunc_extern Tryd.prog 171 _ (ReflectliteValue.method (ReflectliteValue.valueError "reflectlite.Value.IsNil" 0) ReflectliteValue.isNil) Tryd.func171 (by kernel_rfl) (by kernel_rfl) (by kernel_rfl) (by kernel_rfl)
  have h27 := @run_callFunc_extern Tryd.prog 229 _ (ReflectliteType.abiMethod fun t => do pure (.int .u8 (← Rtype.kind t))) Tryd.func229 (by kernel_rfl) (by kernel_rfl) (by kernel_rfl) (by kernel_rfl)
  have h37 := @run_callFunc_extern Tryd.prog 239 _ (ReflectliteType.method ReflectliteType.elem) Tryd.func239 (by kernel_rfl) (by kernel_rfl) (by kernel_rfl) (by kernel_rfl)
  have h38 := @run_callFunc_extern Tryd.prog 240 _ (ReflectliteType.relation "Implements" ReflectliteType.implements_) Tryd.func240 (by kernel_rfl) (by kernel_rfl) (by kernel_rfl) (by kernel_rfl)
  have h10 := @run_callFunc_extern Tryd.prog 183 _ ReflectliteType.typeOf Tryd.func183 (by kernel_rfl) (by kernel_rfl) (by kernel_rfl) (by kernel_rfl)
  have h35 := @run_callFunc_extern Tryd.prog 237 _ (ReflectliteType.relation "AssignableTo" ReflectliteType.assignableTo) Tryd.func237 (by kernel_rfl) (by kernel_rfl) (by kernel_rfl) (by kernel_rfl)
  have h11 := @run_callFunc_extern Tryd.prog 184 _ (ReflectliteValue.method (ReflectliteValue.valueError "reflectlite.Value.Elem" 0) ReflectliteValue.elem) Tryd.func184 (by kernel_rfl) (by kernel_rfl) (by kernel_rfl) (by kernel_rfl)
  have h12 := @run_callFunc_extern Tryd.prog 185 _ ReflectliteValue.set Tryd.func185 (by kernel_rfl) (by kernel_rfl) (by kernel_rfl) (by kernel_rfl)
  have tO := rl_typeOfE
  have aE := rl_assignE
  have vE := rl_valueOfE
  have f6 := rl_valueOfP
  have f7 := rl_typeP
  have mK := rl_methKind
  have mE := rl_methElem
  have mI := rl_methImpl
  have mA := rl_methAssign
  have kP := rl_kindP
  have kE := rl_kindE
  have eP := rl_elemP
  have iE := rl_implE
  have n8 := rl_isNilP ⟨w.heap.size, 0, none⟩ t ((w.alloc (.cells #[.pointer (some t)] 213)).alloc (.cells #[.pointer (some ⟨1, 213, none⟩), .pointer (some ⟨w.heap.size, 0, none⟩), .int .u64 150] 237)) (by simp)
  have hlt : 0 < w.heap.size := hg.lt
  unfold HasType at hg
  have hg2 : ((w.alloc (.cells #[.pointer (some t)] 213)).alloc (.cells #[.pointer (some ⟨1, 213, none⟩), .pointer (some ⟨w.heap.size, 0, none⟩), .int .u64 150] 237)).cell? ⟨0, 0, none⟩ = some (.iface 255 (.agg #[.pointer (some ⟨1, 28, none⟩)])) := by
    rw [World.cell?_alloc_lt _ _ ⟨0, 0, none⟩ (by simp), World.cell?_alloc_lt _ _ ⟨0, 0, none⟩ hlt]; exact hg
  have htl : t.block < w.heap.size := by
    rcases Nat.lt_or_ge t.block w.heap.size with h | h
    · exact h
    · simp [World.cell?, Array.getElem?_eq_none h] at ht0
  have el := rl_elemVP ⟨w.heap.size, 0, none⟩ t (((w.alloc (.cells #[.pointer (some t)] 213)).alloc (.cells #[.pointer (some ⟨1, 213, none⟩), .pointer (some ⟨w.heap.size, 0, none⟩), .int .u64 150] 237)).alloc (.cells #[.pointer (some ⟨1, 213, none⟩), .pointer (some ⟨w.heap.size, 0, none⟩), .int .u64 150] 237)) (by rw [World.cell?_alloc_lt _ _ ⟨w.heap.size, 0, none⟩ (by simp; omega)]; simp)
  have st := rl_setE t ⟨w.heap.size + 1 + 1 + 1, 0, none⟩ k old ((((w.alloc (.cells #[.pointer (some t)] 213)).alloc (.cells #[.pointer (some ⟨1, 213, none⟩), .pointer (some ⟨w.heap.size, 0, none⟩), .int .u64 150] 237)).alloc (.cells #[.pointer (some ⟨1, 213, none⟩), .pointer (some ⟨w.heap.size, 0, none⟩), .int .u64 150] 237)).alloc (.cells #[.int .i64 k] 149))
    (by rw [World.cell?_alloc_at _ _ _ _ (by simp)]; rfl)
    (by rw [World.cell?_alloc_lt _ _ t (by simp; omega), World.cell?_alloc_lt _ _ t (by simp; omega), World.cell?_alloc_lt _ _ t (by simp; omega), World.cell?_alloc_lt _ _ t htl]; exact ht0)
    (by rw [World.frozen?_alloc_old _ _ t (by simp; omega), World.frozen?_alloc_old _ _ t (by simp; omega), World.frozen?_alloc_old _ _ t (by simp; omega), World.frozen?_alloc_old _ _ t (Nat.ne_of_lt htl)]; exact hf0)
  go_enter Tryd.func143, Tryd.ntmps143
  go_wp2
  refine wp_loop_rounds 1 ?_
  rw [rounds_succ]
  go_wp2
  go_ret
  exact ⟨rfl, rfl⟩
end Go.Proofs.YthlflklamgdkfaaDoor
/- The contracts of plain.Told and of vaultsame.Error. -/
namespace Go.Proofs.YthlflklamgdkfaaDoor
open Go.RowKit

theorem told_nil (w : World) : Calls Tryd.prog 87 #[.nilIface] w fun e w' => e = .returned (.int .i64 0) ∧ w = w' := by
  go_enter Tryd.func87, Tryd.ntmps87
  go_wp2_with fail
  go_ret
  exact ⟨rfl, rfl⟩
theorem told_errno (k : Int) (w : World) (hg : HasType w) : Calls Tryd.prog 87 #[.iface 149 (.int .i64 k)] w fun e w' => e = .returned (.int .i64 k) ∧ Below w.heap.size w w' := by
  have hW : Below w.heap.size w (w.alloc (.cells #[.int .i64 0] 149)) := (Below.refl _ _).alloc (Nat.le_refl _) _
  have hg1 := hg.below hg.lt hW
  have HC := Hidden.mk (as_errno k ⟨w.heap.size, 0, none⟩ (.int .i64 0) _ hg1 (by simp) (by simp))
  clear hg1
  go_enter Tryd.func87, Tryd.ntmps87
  go_wp2_with fail
  refine HC.out.mono ?_
  rintro e w' ⟨rfl, hw'⟩
  have hB : Below w.heap.size w w' := by
    rw [hw']
    exact ((((hW.alloc hW.size _).alloc (by simp; omega) _).alloc (by simp; omega) _).alloc (by simp; omega) _).setCell (p := ⟨w.heap.size, 0, none⟩) (Nat.le_refl _) _
  have hc : w'.cell? ⟨w.heap.size, 0, none⟩ = some (.int .i64 k) := by
    rw [hw']
    refine World.cell?_setCell_same' _ _ _ ?_
    rw [(((((Below.refl _ (w.alloc (.cells #[.int .i64 0] 149))).alloc (Nat.le_refl _) _).alloc (by simp) _).alloc (by simp) _).alloc (by simp) _).cell (p := ⟨w.heap.size, 0, none⟩) (by simp)]
    simp
  clear hw' HC hW
  go_wp2_with fail
  go_ret
  exact ⟨rfl, hB⟩
theorem err_nil (x : Int) (w : World) : Calls Tryd.prog 17 #[.nilIface, .int .i64 x] w fun e w' => e = .returned (.bool ((0 : Int) == x)) ∧ Below w.heap.size w w' := by
  go_enter Tryd.func17, Tryd.ntmps17
  go_wp2_with fail
  refine (told_nil _).mono ?_
  rintro e w' ⟨rfl, rfl⟩
  go_wp2_with fail
  go_ret
  exact ⟨rfl, Below.refl _ _⟩
theorem err_some (k x : Int) (w : World) (hg : HasType w) : Calls Tryd.prog 17 #[.iface 149 (.int .i64 k), .int .i64 x] w fun e w' => e = .returned (.bool (k == x)) ∧ Below w.heap.size w w' := by
  go_enter Tryd.func17, Tryd.ntmps17
  go_wp2_with fail
  refine (told_errno k _ hg).mono ?_
  rintro e w' ⟨rfl, hb⟩
  go_wp2_with fail
  go_ret
  exact ⟨rfl, hb⟩
/-- .. of an error that is nil or a number -/
theorem err_any (n : Nat) (x : Int) (w : World) (hg : HasType w) : Calls Tryd.prog 17 #[errV n, .int .i64 x] w fun e w' => e = .returned (.bool ((n : Int) == x)) ∧ Below w.heap.size w w' := by
  unfold errV
  by_cases h : n = 0
  · rw [if_pos h, h]; exact err_nil x w
  · rw [if_neg h]; exact err_some n x w hg
end Go.Proofs.YthlflklamgdkfaaDoor
/- What comes in: the program's own slices, opened. -/
namespace Go.Proofs.YthlflklamgdkfaaDoor
open Go.RowKit Go.ChangeShapes Go.WideShapes Go.ChangeAt

section
variable {H : Type} {enc : TypeId × Value → H} {w : World} {v : Value} {d : DataW H} {ps : List MemPlace} {base : Nat} {r : Reach}
set_option maxRecDepth 20000 in
theorem open_pages (hv : Value.okWide Tryd.prog w r base 110 v) (h : DataW.Trod enc Tryd.prog w 0 (fun _ => true) true 110 v d ps) (hz : (d.weights Tryd.prog 110).all (· ≤ reachBytes) = true) :
    ∃ (A : Option Addr) (c : Nat) (L : List PgX), v = .slice A L.length c ∧ L.length ≤ c ∧ c ≤ 140737488351232 ∧ (∀ x ∈ L, PgOk w x) ∧ RdX pcells 2 w A L := by
  have hb : decide (1 ≤ Tryd.prog.bytesOf 112) = true := by kernel_rfl
  have hC : Tryd.prog.cellsOf 112 = 2 := by kernel_rfl
  refine open_seq (P := Tryd.prog) pcells 2 PgOk Tryd.underlying110 hC (by omega) (of_decide_eq_true hb) (fun n cs x hl ht hz => ?_) hv h hz
  obtain ⟨v0, v1, y0, y1, m, rfl, t0, t1, z0, z1⟩ := open_two Tryd.underlying112 ⟨rfl, by kernel_rfl⟩ ⟨rfl, by kernel_rfl⟩ hl ht hz
  obtain ⟨a, ha, -, wa⟩ := DataW.trod_int Tryd.underlying3 t0
  obtain ⟨A, c, l, hb, hc, hm, hr⟩ := open_bytes_in Tryd.underlying22 Tryd.underlying5 (by kernel_rfl) (by kernel_rfl) t1 z1
  simp only [List.cons.injEq, and_true] at ha
  have hw := wf_i64' wa
  exact ⟨⟨a, A, c, l⟩, by rw [ha, hb]; rfl, hw.1, hw.2, hc, hm, hr⟩
set_option maxRecDepth 20000 in
/-- booleans that came in -/
theorem open_bools (hv : Value.okWide Tryd.prog w r base 79 v) (h : DataW.Trod enc Tryd.prog w 0 (fun _ => true) true 79 v d ps) (hz : (d.weights Tryd.prog 79).all (· ≤ reachBytes) = true) :
    ∃ (A : Option Addr) (c : Nat) (L : List Bool), v = .slice A L.length c ∧ L.length ≤ c ∧ c ≤ 140737488351232 ∧ (∀ x ∈ L, True) ∧ RdX (fun b => [.bool b]) 1 w A L := by
  have hb : decide (1 ≤ Tryd.prog.bytesOf 4) = true := by kernel_rfl
  have hC : Tryd.prog.cellsOf 4 = 1 := by kernel_rfl
  refine open_seq (P := Tryd.prog) (fun b => [.bool b]) 1 (fun _ _ => True) Tryd.underlying79 hC (by omega) (of_decide_eq_true hb) (fun n cs x hl ht hz => ?_) hv h hz
  match cs, hl with
  | [c0], _ =>
    obtain ⟨b, hb, _⟩ := DataW.trod_bool Tryd.underlying4 ht
    exact ⟨b, by simpa using hb, trivial⟩
set_option maxRecDepth 20000 in
/-- entries that came in -/
theorem open_entries (hv : Value.okWide Tryd.prog w r base 150 v) (h : DataW.Trod enc Tryd.prog w 0 (fun _ => true) true 150 v d ps) (hz : (d.weights Tryd.prog 150).all (· ≤ reachBytes) = true) :
    ∃ (A : Option Addr) (c : Nat) (L : List EntX), v = .slice A L.length c ∧ L.length ≤ c ∧ c ≤ 140737488351232 ∧ (∀ x ∈ L, EntOk w x) ∧ RdX xcells 4 w A L := by
  have hb : decide (1 ≤ Tryd.prog.bytesOf 137) = true := by kernel_rfl
  have hC : Tryd.prog.cellsOf 137 = 4 := by kernel_rfl
  refine open_seq (P := Tryd.prog) xcells 4 EntOk Tryd.underlying150 hC (by omega) (of_decide_eq_true hb) (fun n cs x hl ht _ => ?_) hv h hz
  match cs, hl with
  | [c0, c1, c2, c3], _ =>
    obtain ⟨xs, n, _, hx, _, hlen, hg⟩ := DataW.trod_struct Tryd.underlying137 ht
    match xs, hlen with
    | [y0, y1, y2], _ =>
      have k0 : Tryd.prog.cellsOf 3 = 1 := by kernel_rfl
      have k1 : Tryd.prog.cellsOf 135 = 2 := by kernel_rfl
      have t0 : DataW.trod enc Tryd.prog w 0 (fun _ => true) true n 3 [c0] = some y0 := by simpa [k0] using hg 0 _ rfl
      have t1 : DataW.trod enc Tryd.prog w 0 (fun _ => true) true n 135 [c1, c2] = some y1 := by simpa [k1] using hg 1 _ rfl
      have t2 : DataW.trod enc Tryd.prog w 0 (fun _ => true) true n 3 [c3] = some y2 := by simpa [k0] using hg 2 _ rfl
      obtain ⟨ys, n', _, hx', _, hlen', hg'⟩ := DataW.trod_struct Tryd.underlying135 t1
      match ys, hlen' with
      | [z0, z1], _ =>
        have u0 : DataW.trod enc Tryd.prog w 0 (fun _ => true) true n' 3 [c1] = some z0 := by simpa [k0] using hg' 0 _ rfl
        have u1 : DataW.trod enc Tryd.prog w 0 (fun _ => true) true n' 3 [c2] = some z1 := by simpa [k0] using hg' 1 _ rfl
        obtain ⟨a, ha, -, wa⟩ := DataW.trod_int Tryd.underlying3 t0
        obtain ⟨b, hb', -, wb⟩ := DataW.trod_int Tryd.underlying3 u0
        obtain ⟨c, hc, -, wc⟩ := DataW.trod_int Tryd.underlying3 u1
        obtain ⟨e, he, -, we⟩ := DataW.trod_int Tryd.underlying3 t2
        simp only [List.cons.injEq, and_true] at ha hb' hc he
        subst ha hb' hc he
        exact ⟨⟨a, b, c, e⟩, rfl, wf_i64' wa, wf_i64' wb, wf_i64' wc, wf_i64' we⟩
set_option maxRecDepth 20000 in
/-- roots that came in -/
theorem open_roots (hv : Value.okWide Tryd.prog w r base 70 v) (h : DataW.Trod enc Tryd.prog w 0 (fun _ => true) true 70 v d ps) (hz : (d.weights Tryd.prog 70).all (· ≤ reachBytes) = true) :
    ∃ (A : Option Addr) (c : Nat) (L : List RotX), v = .slice A L.length c ∧ L.length ≤ c ∧ c ≤ 140737488351232 ∧ (∀ x ∈ L, RotOk w x) ∧ RdX ycells 2 w A L := by
  have hb : decide (1 ≤ Tryd.prog.bytesOf 76) = true := by kernel_rfl
  have hC : Tryd.prog.cellsOf 76 = 2 := by kernel_rfl
  refine open_seq (P := Tryd.prog) ycells 2 RotOk Tryd.underlying70 hC (by omega) (of_decide_eq_true hb) (fun n cs x hl ht hz => ?_) hv h hz
  obtain ⟨v0, v1, y0, y1, m, rfl, t0, t1, z0, z1⟩ := open_two Tryd.underlying76 ⟨rfl, by kernel_rfl⟩ ⟨rfl, by kernel_rfl⟩ hl ht hz
  obtain ⟨s, ha, hy, -⟩ := DataW.trod_string Tryd.underlying9 t0
  obtain ⟨b, hb', -, wb⟩ := DataW.trod_int Tryd.underlying3 t1
  simp only [List.cons.injEq, and_true] at ha hb'
  subst ha hb' hy
  have h2 := of_decide_eq_true (List.all_eq_true.1 z0 s.data.toList.length (by simp [DataW.weights]))
  have h3 : reachBytes = 140737488351232 := by decide
  exact ⟨⟨s.data.toList, b⟩, rfl, by simp only at *; omega, wf_i64' wb⟩
end
end Go.Proofs.YthlflklamgdkfaaDoor
/- The region of diff.Diff that appends a change: in whatever order. -/
namespace Go.Proofs.YthlflklamgdkfaaDoor
open Go.RowKit

theorem Row.grown {w w' : World} {e g cap : Nat} {l : Bytes} {r : Option Nat} (h : Row w e g cap l) (hg : w.grownBy w' r) (hr : r ≠ some g) : Row w' e g cap l := by
  obtain ⟨cur, h0, h1⟩ := h
  exact ⟨cur, (hg.block g (Array.getElem?_eq_some_iff.1 h0).1 (fun e => hr e.symm)).trans h0, h1⟩
theorem change_info : (Tryd.prog.info? 197).map (fun i => (i.zero, i.size, i.bytes)) = some (some (.agg #[.int .i64 0, .slice none 0 0, .slice none 0 0]), 3, 56) := by kernel_rfl

/-- the region with a number, in a body -/
def findReg (id : Nat) : Code → Option Code
  | .region i ops d => if i = id then some (.region i ops d) else none
  | .seq a b => match findReg id a with
    | some c => some c
    | none => findReg id b
  | .cond _ a b => match findReg id a with
    | some c => some c
    | none => findReg id b
  | .block _ c => findReg id c
  | .loop c => findReg id c
  | .scope c => findReg id c
  | _ => none
noncomputable def diffReg : Code := ((Tryd.f71.body.bind (findReg 12)).getD .skip)

set_option maxRecDepth 100000 in
set_option maxHeartbeats 1000000 in
theorem diff_region (Q : Exit → Act → World → Prop) (p off q off2 n c d i k : Nat) (v : Value) (m : Nat) (xs : List Value) (base : Nat) (a b : Bytes) (w : World) (u2 u3 u4 u5 u9 u10 u11 u12 u13 u14 u15 u16 u17 u18 u19 u20 u21 u22 u23 u24 u25 u26 u27 u28 u29 u30 u31 u32 u33 u34 u35 u36 u37 u38 u39 u40 u41 u42 u43 u44 u45 u46 u47 u48 u49 u50 u51 u52 u53 u54 u55 u56 u57 u58 u59 u60 u61 u62 u63 : Value)
    (han : a.length = n) (hbn : b.length = n) (ha : Rd w (some ⟨p, off, none⟩) a) (hb : Rd w (some ⟨q, off2, none⟩) b) (hik : i < k) (hkn : k ≤ n) (hn : n ≤ 6400) (hkc : k ≤ c) (hkd : k ≤ d) (hci : ¬ c = i) (hdi : ¬ d = i)
    (hown : w.ownsRow base 197 3 v m xs) (hbase : base ≤ w.heap.size) (hm : m ≤ 100000)
    (h : ∀ v' w' g1 c1 g2 c2 (x46 x47 x48 x49 x50 x51 x52 x53 x54 x55 x56 x57 x58 x59 x60 : Value), w'.ownsRow base 197 3 v' (m + 1) (xs ++ [.int .i64 i, .slice (some ⟨g1, 0, none⟩) (k - i) c1, .slice (some ⟨g2, 0, none⟩) (k - i) c2]) →
      w.heap.size ≤ g1 → w.heap.size ≤ g2 → Row w' 5 g1 c1 ((a.drop i).take (k - i)) → Row w' 5 g2 c2 ((b.drop i).take (k - i)) → w.grownBy w' v.ownBlock → Q .normal ⟨#[.slice (some ⟨p, off, none⟩) n c, .slice (some ⟨q, off2, none⟩) n d, u2, u3, u4, u5, v', .int .i64 i, .int .i64 k, u9, u10, u11, u12, u13, u14, u15, u16, u17, u18, u19, u20, u21, u22, u23, u24, u25, u26, u27, u28, u29, u30, u31, u32, u33, u34, u35, u36, u37, u38, u39, u40, u41, u42, u43, u44, u45, x46, x47, x48, x49, x50, x51, x52, x53, x54, x55, x56, x57, x58, x59, x60, u61, u62, u63], []⟩ w') :
    Code.wp Tryd.prog diffReg Q ⟨#[.slice (some ⟨p, off, none⟩) n c, .slice (some ⟨q, off2, none⟩) n d, u2, u3, u4, u5, v, .int .i64 i, .int .i64 k, u9, u10, u11, u12, u13, u14, u15, u16, u17, u18, u19, u20, u21, u22, u23, u24, u25, u26, u27, u28, u29, u30, u31, u32, u33, u34, u35, u36, u37, u38, u39, u40, u41, u42, u43, u44, u45, u46, u47, u48, u49, u50, u51, u52, u53, u54, u55, u56, u57, u58, u59, u60, u61, u62, u63], []⟩ w := by
  obtain ⟨i0, hi0, hz0, hz1, hz2⟩ := info_parts change_info
  have cA : ∀ W, Below w.heap.size w W → Calls Tryd.prog 88 #[.slice (some ⟨p, off + i, none⟩) (k - i) (c - i)] W fun e w' => ∃ g cap, e = .returned (.slice (some ⟨g, 0, none⟩) (k - i) cap) ∧ W.heap.size ≤ g ∧ Row w' 5 g cap ((a.drop i).take (k - i)) ∧ Below W.heap.size W w' := fun W hW =>
    clone_some _ (k - i) _ ((a.drop i).take (k - i)) W (by simp; omega) (by omega) (by have := (ha.below hW).cut i (k - i) (by omega); simpa [Addr.add_lit] using this)
  have cB : ∀ W, Below w.heap.size w W → Calls Tryd.prog 88 #[.slice (some ⟨q, off2 + i, none⟩) (k - i) (d - i)] W fun e w' => ∃ g cap, e = .returned (.slice (some ⟨g, 0, none⟩) (k - i) cap) ∧ W.heap.size ≤ g ∧ Row w' 5 g cap ((b.drop i).take (k - i)) ∧ Below W.heap.size W w' := fun W hW =>
    clone_some _ (k - i) _ ((b.drop i).take (k - i)) W (by simp; omega) (by omega) (by have := (hb.below hW).cut i (k - i) (by omega); simpa [Addr.add_lit] using this)
  have HA := Hidden.mk cA
  have HB := Hidden.mk cB
  have hik' : i ≤ k := by omega
  clear cA cB ha hb han hbn
  conv => arg 2; whnf
  go_region_held3 (fun _ => True) (first | trivial)
    (first
      | (go_at_call 88; refine (HA.out _ (by exact (Below.refl _ _).drew)).mono ?_; rintro e w1 ⟨g1, cap1, rfl, hg1, hrow1, hb1⟩)
      | (go_at_call 88; refine (HB.out w1 (by exact ((Below.refl _ _).drew).trans hb1)).mono ?_; rintro e w2 ⟨g2, cap2, rfl, hg2, hrow2, hb2⟩; have hB2 : Below w.heap.size w w2 := (((Below.refl _ _).drew).trans hb1).trans (hb2.mono hb1.size))
      | (refine step_append_lies _ (by rfl) _ _ _ (by rfl) base 197 i0 _ 3 56 Tryd.underlying121 hi0 hz0 hz1 hz2 rfl (by omega) v m xs (by rfl) (own_below hown (hB2.alloc hB2.size _))
          ⟨w2.heap.size, 0, none⟩ 1 1 [.int .i64 i, .slice (some ⟨g1, 0, none⟩) (k - i) cap1, .slice (some ⟨g2, 0, none⟩) (k - i) cap2] (by rfl) (by rfl) (World.news_of_block (cs := #[.int .i64 i, .slice (some ⟨g1, 0, none⟩) (k - i) cap1, .slice (some ⟨g2, 0, none⟩) (k - i) cap2]) (t := 197) (fr := (0, 0)) (heap_alloc_new w2 _)) (by simp [Value.oneCell'])
          (by omega) (by simp only [maxLen]; omega) (by omega) (by simp; have := hB2.size; omega) (w2.heap.size + 1) (by simp) ?_; intro gg cap w3 hown3 hgrow hat hlt))
  have hal : Below w2.heap.size w2 (w2.alloc (.cells #[.int .i64 i, .slice (some ⟨g1, 0, none⟩) (k - i) cap1, .slice (some ⟨g2, 0, none⟩) (k - i) cap2] 197)) := (Below.refl _ _).alloc (Nat.le_refl _) _
  have hg1' : w.heap.size ≤ g1 := hg1
  have hg2' : w.heap.size ≤ g2 := Nat.le_trans hb1.size hg2
  have hne1 : v.ownBlock ≠ some g1 := fun e => by have := (hown.lt _ e).2; omega
  have hne2 : v.ownBlock ≠ some g2 := fun e => by have := (hown.lt _ e).2; omega
  refine h _ _ g1 cap1 g2 cap2 _ _ _ _ _ _ _ _ _ _ _ _ _ _ _ hown3 hg1' hg2' (((hrow1.below hb2 hrow1.lt).below hal (Nat.lt_of_lt_of_le hrow1.lt hb2.size)).grown hgrow hne1) ((hrow2.below hal hrow2.lt).grown hgrow hne2) (grown_trans' (hB2.trans (hal.mono hB2.size)) hgrow)
end Go.Proofs.YthlflklamgdkfaaDoor
/- The contract of diff.Diff. -/
namespace Go.Proofs.YthlflklamgdkfaaDoor
open Go.RowKit

/-- one change, as it lies in a row of the call's own -/
def ChAt (w : World) (base : Nat) (xs : List Value) (i : Nat) (c : Chg) : Prop :=
  ∃ go co gn cn, base ≤ go ∧ base ≤ gn ∧ xs[3 * i]? = some (.int .i64 c.at_) ∧ xs[3 * i + 1]? = some (.slice (some ⟨go, 0, none⟩) c.old.length co) ∧ xs[3 * i + 2]? = some (.slice (some ⟨gn, 0, none⟩) c.new.length cn) ∧
    Row w 5 go co c.old ∧ Row w 5 gn cn c.new
/-- the slice v is the call's own, and has the changes L -/
def OwnC (w : World) (base : Nat) (v : Value) (L : List Chg) : Prop :=
  ∃ xs, w.ownsRow base 197 3 v L.length xs ∧ ∀ i (h : i < L.length), ChAt w base xs i L[i]

theorem own_row_ne {w : World} {base : Nat} {e e' : TypeId} {size : Nat} {v : Value} {n : Nat} {xs : List Value} {g cap : Nat} {l : Bytes} (h : w.ownsRow base e size v n xs) (hr : Row w e' g cap l) (hne : e ≠ e') : v.ownBlock ≠ some g := by
  rcases h.2 with ⟨rfl, _⟩ | ⟨g', cap', cur, rfl, _, hh, _⟩
  · simp [Value.ownBlock]
  · intro he
    have : g' = g := by simpa [Value.ownBlock] using he
    subst this
    obtain ⟨cur', h0, _⟩ := hr
    rw [hh] at h0
    injection h0 with h0
    injection h0 with _ ht
    exact hne ht
theorem OwnC.snoc {w w' : World} {base : Nat} {v v' : Value} {L : List Chg} {xs : List Value} {at_ : Int} {g1 c1 g2 c2 n m : Nat} {old new : Bytes} (h : w.ownsRow base 197 3 v L.length xs) (hat : ∀ i (h : i < L.length), ChAt w base xs i L[i])
    (h' : w'.ownsRow base 197 3 v' (L.length + 1) (xs ++ [.int .i64 at_, .slice (some ⟨g1, 0, none⟩) n c1, .slice (some ⟨g2, 0, none⟩) m c2])) (hg : w.grownBy w' v.ownBlock)
    (hr1 : Row w' 5 g1 c1 old) (hr2 : Row w' 5 g2 c2 new) (ho : old.length = n) (hn : new.length = m) (hb1 : base ≤ g1) (hb2 : base ≤ g2) : OwnC w' base v' (L ++ [⟨at_, old, new⟩]) := by
  subst ho hn
  have hlen : xs.length = L.length * 3 := h.1
  refine ⟨_, by simpa using h', fun i hi => ?_⟩
  rw [List.length_append, List.length_singleton] at hi
  by_cases hlt : i < L.length
  · obtain ⟨go, co, gn, cn, h1, h2, e0, e1, e2, r1, r2⟩ := hat i hlt
    rw [List.getElem_append_left hlt]
    refine ⟨go, co, gn, cn, h1, h2, ?_, ?_, ?_, r1.grown hg (own_row_ne h r1 (by decide)), r2.grown hg (own_row_ne h r2 (by decide))⟩
    · rw [List.getElem?_append_left (by omega)]; exact e0
    · rw [List.getElem?_append_left (by omega)]; exact e1
    · rw [List.getElem?_append_left (by omega)]; exact e2
  · obtain rfl : i = L.length := by omega
    rw [List.getElem_append_right (Nat.le_refl _)]
    refine ⟨g1, c1, g2, c2, hb1, hb2, ?_, ?_, ?_, by simpa using hr1, by simpa using hr2⟩
    · rw [List.getElem?_append_right (by omega), show 3 * L.length - xs.length = 0 from by omega]; simp
    · rw [List.getElem?_append_right (by omega), show 3 * L.length + 1 - xs.length = 1 from by omega]; simp
    · rw [List.getElem?_append_right (by omega), show 3 * L.length + 2 - xs.length = 2 from by omega]; simp

theorem diff_e3 (A B : Option Addr) (n m c d : Nat) (w : World) (h : n ≠ m) :
    Calls Tryd.prog 71 #[.slice A n c, .slice B m d] w fun e w' => e = .returned (.tuple #[.slice none 0 0, .iface 149 (.int .i64 3)]) ∧ w = w' := by
  have h' : ((n : Int) != (m : Int)) = true := by simp; omega
  clear h
  go_enter Tryd.func71, Tryd.ntmps71
  go_wp2
  go_ret2
  exact ⟨rfl, rfl⟩
theorem diff_e4 (A B : Option Addr) (n c d : Nat) (w : World) (h : 6400 < n) :
    Calls Tryd.prog 71 #[.slice A n c, .slice B n d] w fun e w' => e = .returned (.tuple #[.slice none 0 0, .iface 149 (.int .i64 4)]) ∧ w = w' := by
  go_enter Tryd.func71, Tryd.ntmps71
  go_wp2
  go_ret2
  exact ⟨rfl, rfl⟩

set_option maxRecDepth 100000 in
theorem diff_ok (A B : Option Addr) (n c d : Nat) (a b : Bytes) (w : World) (hn : a.length = n) (hm : b.length = n) (hle : n ≤ 6400) (hc : n ≤ c) (hd : n ≤ d) (ha : Rd w A a) (hb : Rd w B b) :
    Calls Tryd.prog 71 #[.slice A n c, .slice B n d] w fun e w' => ∃ v, e = .returned (.tuple #[v, .nilIface]) ∧ OwnC w' w.heap.size v (diffL a b) ∧ Below w.heap.size w w' := by
  subst hn
  obtain ⟨i0, hi0, hz0, hz1, hz2⟩ := info_parts change_info
  go_enter Tryd.func71, Tryd.ntmps71
  go_wp2_with fail
  go_loopw [6, 7] (fun v i wr => ∃ (k : Nat) (L : List Chg), k ≤ a.length + 1 ∧ i = .int .i64 k ∧ Below w.heap.size w wr ∧ OwnC wr w.heap.size v L ∧ L.length ≤ k ∧ Hidden (L ++ diffF a b (a.length - k) k = diffL a b)) (fun _ i _ => a.length + 1 - (intOf i).toNat)
  case atStart => exact ⟨0, [], by omega, rfl, Below.refl _ _, ⟨[], World.ownsRow_nil _ _ _ _, by simp⟩, by simp, ⟨by simp [diffL]⟩⟩
  case round =>
    obtain ⟨i, L, hi, rfl, hbel, hown, hLi, HL⟩ := hrel
    by_cases hlt : i < a.length
    · have hrl := runAt_le a b i hm.symm (by omega)
      have hstep := diffF_step a b i hlt
      obtain ⟨wo, rfl⟩ : ∃ wo : World, wo = wr := ⟨_, rfl⟩
      have ha1 := ha.below hbel
      have hb1 := hb.below hbel
      obtain ⟨p, off, rfl, _⟩ := ha1 i hlt
      obtain ⟨q, off2, rfl, _⟩ := hb1 i (by omega)
      have HS := Hidden.mk hstep
      have HI := Hidden.mk hi
      clear hstep
      go_wp2_with fail
      go_loopw [8] (fun kk w2 => (∃ nq, w2 = wo.drewN nq) ∧ ∃ k : Nat, i ≤ k ∧ k ≤ a.length ∧ kk = .int .i64 k ∧ Hidden (∀ j, i ≤ j → j < k → a[j]? ≠ b[j]?)) (fun kk _ => a.length - (intOf kk).toNat)
      case atStart => exact ⟨⟨0, rfl⟩, i, by omega, by omega, rfl, ⟨fun j h1 h2 => by omega⟩⟩
      case round =>
        obtain ⟨⟨nq, rfl⟩, k, hik, hk, rfl, hne⟩ := hrel
        by_cases hk2 : k < a.length
        · have hcp := ha1.at_ k hk2
          have hcq := hb1.at_ k (by omega)
          by_cases he : a[k] = b[k]
          · have hbq : ((a[k].toNat : Int) != (b[k].toNat : Int)) = false := by simp [he]
            have HR : Hidden (runAt a b i = k - i) := ⟨runAt_at a b i k hm.symm hik hk hne.out (.inr (by rw [List.getElem?_eq_getElem hk2, List.getElem?_eq_getElem (by omega), he]))⟩
            clear hne
            go_wp2_with fail
            go_quiet (fail)
            by_cases hki : i < k
            · obtain ⟨xs, hxs, hat⟩ := hown
              go_wp2_with fail
              refine diff_region _ p off q off2 a.length c d i k u6 L.length xs w.heap.size a b _ _ _ _ _ _ _ _ _ _ _ _ _ _ _ _ _ _ _ _ _ _ _ _ _ _ _ _ _ _ _ _ _ _ _ _ _ _ _ _ _ _ _ _ _ _ _ _ _ _ _ _ _ _ _ _ _ _ _ _ rfl hm ha1 hb1 hki hk hle (by omega) (by omega) (by omega) (by omega) hxs hbel.size (by omega) ?_
              intro v' w3 g1 c1 g2 c2 x46 x47 x48 x49 x50 x51 x52 x53 x54 x55 x56 x57 x58 x59 x60 hown3 hg1 hg2 hrow1 hrow2 hgrow
              have hrun := HR.out
              have hst := HS.out
              rw [hrun, if_pos (by omega), show i + (k - i) + 1 = k + 1 from by omega] at hst
              have HL2 : Hidden ((L ++ [⟨i, (a.drop i).take (k - i), (b.drop i).take (k - i)⟩]) ++ diffF a b (a.length - (k + 1)) (k + 1) = diffL a b) := ⟨by rw [List.append_assoc, ← hst]; exact HL.out⟩
              have hOC : OwnC w3 w.heap.size v' (L ++ [⟨i, (a.drop i).take (k - i), (b.drop i).take (k - i)⟩]) := OwnC.snoc (w := wo.drewN _) hxs hat hown3 hgrow hrow1 hrow2 (by simp; omega) (by simp; omega) (Nat.le_trans hbel.size hg1) (Nat.le_trans hbel.size hg2)
              have hB3 : Below w.heap.size w w3 := hbel.trans ((below_drewN (Below.refl _ _) _).grown hgrow hbel.size (fun q hq => (hxs.lt q hq).1))
              clear hrun hst HR HS HL hgrow hown3
              go_wp2_with fail
              go_roundw
              case rel => exact ⟨k + 1, _, by omega, by go_num, hB3, hOC, by simp; omega, HL2⟩
              case measure => simp [intOf]; omega
            · obtain rfl : k = i := by omega
              have hrun : runAt a b k = 0 := by have := HR.out; omega
              have hst := HS.out
              rw [hrun, if_neg (by omega), show k + 0 + 1 = k + 1 from by omega, List.nil_append] at hst
              have HL2 : Hidden (L ++ diffF a b (a.length - (k + 1)) (k + 1) = diffL a b) := ⟨by rw [← hst]; exact HL.out⟩
              have hOC : ∀ N, OwnC (wo.drewN N) w.heap.size u6 L := fun _ => hown
              clear hrun hst HR HS HL
              go_wp2_with fail
              go_roundw
              case rel => exact ⟨k + 1, L, by omega, by go_num, below_drewN hbel _, hOC _, by omega, HL2⟩
              case measure => simp [intOf]; omega
          · have hbq : ((a[k].toNat : Int) != (b[k].toNat : Int)) = true := by
              simp only [bne_iff_ne, ne_eq]; intro h; apply he; rw [← UInt8.toNat_inj]; omega
            have hnk : Hidden (∀ j, i ≤ j → j < k + 1 → a[j]? ≠ b[j]?) := ⟨fun j h1 h2 => by
              rcases Nat.lt_or_ge j k with h | h
              · exact hne.out j h1 h
              · obtain rfl : j = k := by omega
                rw [List.getElem?_eq_getElem hk2, List.getElem?_eq_getElem (by omega)]
                simpa using he⟩
            clear he hne
            go_wp2_with fail
            go_quiet (fail)
            go_wp2_with fail
            go_roundw
            case rel => exact ⟨⟨_, rfl⟩, k + 1, by omega, by omega, by go_num, hnk⟩
            case measure => simp [intOf]; omega
        · have hk2' : decide ((k : Int) < a.length) = false := by simp; omega
          have HR : Hidden (runAt a b i = k - i) := ⟨runAt_at a b i k hm.symm hik hk hne.out (.inl (by omega))⟩
          clear hne
          go_wp2_with fail
          go_quiet (fail)
          by_cases hki : i < k
          · obtain ⟨xs, hxs, hat⟩ := hown
            go_wp2_with fail
            refine diff_region _ p off q off2 a.length c d i k u6 L.length xs w.heap.size a b _ _ _ _ _ _ _ _ _ _ _ _ _ _ _ _ _ _ _ _ _ _ _ _ _ _ _ _ _ _ _ _ _ _ _ _ _ _ _ _ _ _ _ _ _ _ _ _ _ _ _ _ _ _ _ _ _ _ _ _ rfl hm ha1 hb1 hki hk hle (by omega) (by omega) (by omega) (by omega) hxs hbel.size (by omega) ?_
            intro v' w3 g1 c1 g2 c2 x46 x47 x48 x49 x50 x51 x52 x53 x54 x55 x56 x57 x58 x59 x60 hown3 hg1 hg2 hrow1 hrow2 hgrow
            have hrun := HR.out
            have hst := HS.out
            rw [hrun, if_pos (by omega), show i + (k - i) + 1 = k + 1 from by omega] at hst
            have HL2 : Hidden ((L ++ [⟨i, (a.drop i).take (k - i), (b.drop i).take (k - i)⟩]) ++ diffF a b (a.length - (k + 1)) (k + 1) = diffL a b) := ⟨by rw [List.append_assoc, ← hst]; exact HL.out⟩
            have hOC : OwnC w3 w.heap.size v' (L ++ [⟨i, (a.drop i).take (k - i), (b.drop i).take (k - i)⟩]) := OwnC.snoc (w := wo.drewN _) hxs hat hown3 hgrow hrow1 hrow2 (by simp; omega) (by simp; omega) (Nat.le_trans hbel.size hg1) (Nat.le_trans hbel.size hg2)
            have hB3 : Below w.heap.size w w3 := hbel.trans ((below_drewN (Below.refl _ _) _).grown hgrow hbel.size (fun q hq => (hxs.lt q hq).1))
            clear hrun hst HR HS HL hgrow hown3
            go_wp2_with fail
            go_roundw
            case rel => exact ⟨k + 1, _, by omega, by go_num, hB3, hOC, by simp; omega, HL2⟩
            case measure => simp [intOf]; omega
          · obtain rfl : k = i := by omega
            have hrun : runAt a b k = 0 := by have := HR.out; omega
            have hst := HS.out
            rw [hrun, if_neg (by omega), show k + 0 + 1 = k + 1 from by omega, List.nil_append] at hst
            have HL2 : Hidden (L ++ diffF a b (a.length - (k + 1)) (k + 1) = diffL a b) := ⟨by rw [← hst]; exact HL.out⟩
            have hOC : ∀ N, OwnC (wo.drewN N) w.heap.size u6 L := fun _ => hown
            clear hrun hst HR HS HL
            go_wp2_with fail
            go_roundw
            case rel => exact ⟨k + 1, L, by omega, by go_num, below_drewN hbel _, hOC _, by omega, HL2⟩
            case measure => simp [intOf]; omega
    · go_wp2_with fail
      go_ret2
      have hfin : Hidden (L = diffL a b) := ⟨by
        have := HL.out
        rw [show a.length - i = 0 from by omega] at this
        simpa [diffF] using this⟩
      exact ⟨_, rfl, by rw [← hfin.out]; exact hown, hbel⟩
end Go.Proofs.YthlflklamgdkfaaDoor
/- Reading what diff.Diff gave. -/
namespace Go.Proofs.YthlflklamgdkfaaDoor
open Go.RowKit

/-- the cells of one change of a slice that lies at A -/
structure ChCells (w : World) (g off i : Nat) (c : Chg) (go co gn cn : Nat) : Prop where
  at_ : w.cell? ⟨g, off + i * 3, none⟩ = some (.int .i64 c.at_)
  old : w.cell? ⟨g, off + i * 3 + 1, none⟩ = some (.slice (some ⟨go, 0, none⟩) c.old.length co)
  new : w.cell? ⟨g, off + i * 3 + 2, none⟩ = some (.slice (some ⟨gn, 0, none⟩) c.new.length cn)
  rowO : Row w 5 go co c.old
  rowN : Row w 5 gn cn c.new
/-- the slice at A has the changes L -/
def RdC (w : World) (A : Option Addr) (L : List Chg) : Prop := ∀ i (h : i < L.length), ∃ g off go co gn cn, A = some ⟨g, off, none⟩ ∧ ChCells w g off i L[i] go co gn cn
theorem OwnC.rd {w : World} {base : Nat} {v : Value} {L : List Chg} (h : OwnC w base v L) : ∃ A c, v = .slice A L.length c ∧ L.length ≤ c ∧ c ≤ maxLen ∧ RdC w A L := by
  obtain ⟨xs, hown, hat⟩ := h
  rcases hown.2 with ⟨rfl, h0⟩ | ⟨g, cap, cur, rfl, _, hh, hc, hm, hz, ht⟩
  · rw [h0]
    exact ⟨none, 0, rfl, by omega, by simp, fun i hi => by omega⟩
  · refine ⟨_, cap, rfl, hc, hm, fun i hi => ?_⟩
    obtain ⟨go, co, gn, cn, _, _, e0, e1, e2, r1, r2⟩ := hat i hi
    have hcell : ∀ j u, xs[j]? = some u → w.cell? ⟨g, 0 + j, none⟩ = some u := fun j u hu => by
      have := hown.cells (g := g) rfl j u hu
      rw [Addr.add_lit] at this
      exact this
    rw [Nat.mul_comm 3 i] at e0 e1 e2
    exact ⟨g, 0, go, co, gn, cn, rfl, hcell _ _ e0, (Nat.add_assoc 0 (i * 3) 1) ▸ hcell _ _ e1, (Nat.add_assoc 0 (i * 3) 2) ▸ hcell _ _ e2, r1, r2⟩
theorem ChCells.below {w w' : World} {g off i : Nat} {c : Chg} {go co gn cn : Nat} (h : ChCells w g off i c go co gn cn) (hb : Below w.heap.size w w') : ChCells w' g off i c go co gn cn :=
  ⟨(hb.cell (block_lt_of_cell h.at_)).trans h.at_, (hb.cell (block_lt_of_cell h.old)).trans h.old, (hb.cell (block_lt_of_cell h.new)).trans h.new, h.rowO.below hb h.rowO.lt, h.rowN.below hb h.rowN.lt⟩
theorem RdC.below {w w' : World} {A : Option Addr} {L : List Chg} (h : RdC w A L) (hb : Below w.heap.size w w') : RdC w' A L := fun i hi => by
  obtain ⟨g, off, go, co, gn, cn, hA, hc⟩ := h i hi
  exact ⟨g, off, go, co, gn, cn, hA, hc.below hb⟩
end Go.Proofs.YthlflklamgdkfaaDoor
/- PutRoot at any arguments, and what the difference to the empty image is. -/
namespace Go.Proofs.YthlflklamgdkfaaDoor
open Go.RowKit

/-- the eleven bytes that stand for a root -/
structure RootX (s X : Bytes) : Prop where
  len : X.length = 11
  zero : s = [] → X = List.replicate 11 0
  some_ : s ≠ [] → X[0]? ≠ some 0
theorem rootX_ok (s : Bytes) (h : Int) (hnm : isName s = true) : RootX s (rootB s h) := by
  cases s with
  | nil => simp [isName] at hnm
  | cons x xs =>
    simp only [isName, Bool.and_eq_true, List.any_cons, Bool.not_eq_true', Bool.or_eq_false_iff, decide_eq_true_eq] at hnm
    obtain ⟨⟨_, h8⟩, hx, _⟩ := hnm
    refine ⟨?_, by simp, fun _ => ?_⟩
    · simp only [rootB, nameB, List.length_append, List.length_replicate, List.length_cons, List.length_nil] at h8 ⊢
      omega
    · simp only [rootB, nameB, List.cons_append, List.getElem?_cons_zero, ne_eq, Option.some.injEq]
      rintro rfl
      simp [notLower] at hx
theorem root_all (A : Option Addr) (n c : Nat) (l : Bytes) (i : Int) (s : Bytes) (h : Int) (w : World) (hs : s.length ≤ 140737488351232) (hn : l.length = n) (hnc : n ≤ c) (hrd : Rd w A l) (hr : rightB n = true) :
    Calls Tryd.prog 156 #[.slice A n c, .int .i64 i, rootV s h] w fun e w' => (∃ x, e = .returned (.tuple #[.slice none 0 0, .iface 149 (.int .i64 x)]) ∧ Below w.heap.size w w') ∨
      (∃ g cap X, 0 ≤ i ∧ i < 8 ∧ RootX s X ∧ e = .returned (.tuple #[.slice (some ⟨g, 0, none⟩) n cap, .nilIface]) ∧ w.heap.size ≤ g ∧ Row w' 5 g cap (splice l (rootO i) X) ∧ Below w.heap.size w w') := by
  by_cases hi : i < 0 ∨ 8 ≤ i
  · exact (root_e1 A n c i s h w hr hi).mono fun e w' he => .inl ⟨1, he⟩
  have hi1 : 0 ≤ i := by omega
  have hi2 : i < 8 := by omega
  by_cases h0 : s = [] ∧ h = 0
  · obtain ⟨rfl, rfl⟩ := h0
    refine (root_zero A n c l i w hn hnc hrd hr hi1 hi2).mono ?_
    rintro e w' ⟨g, cap, he, hg, hrow, hb⟩
    exact .inr ⟨g, cap, _, hi1, hi2, ⟨by simp, fun _ => rfl, fun hh => absurd rfl hh⟩, he, hg, hrow, hb⟩
  cases hh : handleB h with
  | false => exact (root_e1h A n c i s h w hr hi1 hi2 h0 hh).mono fun e w' he => .inl ⟨1, he⟩
  | true =>
    cases hnm : isName s with
    | false => exact (root_e2 A n c i s h w hs hr hi1 hi2 hh hnm).mono fun e w' he => .inl ⟨2, he⟩
    | true =>
      refine (root_ok A n c l i s h w hn hrd hr hi1 hi2 hh hnm).mono ?_
      rintro e w' ⟨g, cap, he, hg, hrow, hb⟩
      exact .inr ⟨g, cap, _, hi1, hi2, rootX_ok s h hnm, he, hg, hrow, hb⟩
/-- the difference is empty exactly where the root is -/
theorem rootX_diff (m o : Nat) (s X : Bytes) (hX : RootX s X) (hfit : o + 11 ≤ m) : decide (0 < (diffL (List.replicate m 0) (splice (List.replicate m 0) o X)).length) = !decide (s = []) := by
  have hzl : (List.replicate m (0 : UInt8)).length = m := by simp
  have hf : o + X.length ≤ (List.replicate m (0 : UInt8)).length := by rw [hX.len, hzl]; exact hfit
  by_cases hs : s = []
  · have he : splice (List.replicate m (0 : UInt8)) o X = List.replicate m 0 := by
      rw [hX.zero hs]
      simp only [splice, List.take_replicate, List.drop_replicate, List.length_replicate, List.replicate_append_replicate]
      congr 1
      omega
    rw [he, diffL_self]
    simp [hs]
  · have hpos : 0 < (diffL (List.replicate m 0) (splice (List.replicate m 0) o X)).length := by
      rcases Nat.eq_zero_or_pos (diffL (List.replicate m 0) (splice (List.replicate m 0) o X)).length with h0 | h0
      · exfalso
        have hlen : (splice (List.replicate m (0 : UInt8)) o X).length = m := by rw [splice_len _ _ _ hf, hzl]
        have := diffL_eq_nil _ _ (hzl.trans hlen.symm) (List.eq_nil_of_length_eq_zero h0)
        have h1 := splice_get (List.replicate m (0 : UInt8)) X o 0 hf (by rw [hX.len]; omega)
        rw [← this, Nat.add_zero, List.getElem?_replicate, if_pos (by omega)] at h1
        exact hX.some_ hs h1.symm
      · exact h0
    simp [hs, hpos]
end Go.Proofs.YthlflklamgdkfaaDoor
/- ImageBack: what the walk leans on. -/
namespace Go.Proofs.YthlflklamgdkfaaDoor
open Go.RowKit

theorem iget_t (A : Option Addr) (n c : Nat) (l : Bytes) (k : Nat) (w : World) (hn : l.length = n) (hr : rightB n = true) (hnc : n ≤ c) (hrd : Rd w A l) (hk : k < 40) (hE : hasE (rawE l k) = true) :
    Calls Tryd.prog 101 #[.slice A n c, .int .i64 ((k : Int) + 1)] w fun e w' => e = .returned (.tuple #[.agg #[.int .i64 ((k : Int) + 1), .int .i64 (rAt (rawE l k)), .int .i64 (rLen (rawE l k)), .int .i64 (rTag (rawE l k))], .nilIface]) ∧ Below w.heap.size w w' :=
  (iget_ok A n c l k w hn hr hnc hrd hk).mono fun _ _ h => ⟨h.1 hE, h.2.2⟩
theorem iget_f (A : Option Addr) (n c : Nat) (l : Bytes) (k : Nat) (w : World) (hn : l.length = n) (hr : rightB n = true) (hnc : n ≤ c) (hrd : Rd w A l) (hk : k < 40) (hE : hasE (rawE l k) = false) :
    Calls Tryd.prog 101 #[.slice A n c, .int .i64 ((k : Int) + 1)] w fun e w' => e = .returned (.tuple #[.agg #[.int .i64 0, .int .i64 0, .int .i64 0, .int .i64 0], .iface 149 (.int .i64 5)]) ∧ Below w.heap.size w w' :=
  (iget_ok A n c l k w hn hr hnc hrd hk).mono fun _ _ h => ⟨h.2.1 hE, h.2.2⟩
theorem below_four {w w' : World} {a b c d : Value} {t : TypeId} (hb : Below (w.alloc (.cells #[a, b, c, d] t)).heap.size (w.alloc (.cells #[a, b, c, d] t)) w') :
    w'.cell? ⟨w.heap.size, 0, none⟩ = some a ∧ w'.cell? ⟨w.heap.size, 1, none⟩ = some b ∧ w'.cell? ⟨w.heap.size, 2, none⟩ = some c ∧ w'.cell? ⟨w.heap.size, 3, none⟩ = some d := by
  have h := (hb.block w.heap.size (by simp)).trans (heap_alloc_new w (.cells #[a, b, c, d] t))
  refine ⟨?_, ?_, ?_, ?_⟩ <;> simp [World.cell?, h]
/-- the image that the law has come to -/
structure ImB (w wr : World) (n gb cap : Nat) (lb : Bytes) (i : Nat) : Prop where
  row : Row wr 5 gb cap lb
  len : lb.length = n
  no : NoRoots lb i
  bel : Below w.heap.size w wr
theorem ImB.below {w wr w' : World} {n gb cap i : Nat} {lb : Bytes} (h : ImB w wr n gb cap lb i) (hb : Below wr.heap.size wr w') : ImB w w' n gb cap lb i :=
  ⟨h.row.below hb h.row.lt, h.len, h.no, h.bel.trans (hb.mono h.bel.size)⟩
theorem ImB.up {w wr : World} {n gb cap i : Nat} {lb : Bytes} (h : ImB w wr n gb cap lb i) : ImB w wr n gb cap lb (i + 1) :=
  ⟨h.row, h.len, fun j h1 h2 => h.no j (by omega) h2, h.bel⟩
theorem noRoots_new (n : Nat) (hn : 288 ≤ n) : NoRoots (List.replicate n 0) 0 := fun j _ hj => by
  unfold rawR
  rw [List.drop_replicate, List.take_replicate]
  congr 1; omega
theorem ent_back (l : Bytes) (kk : Nat) (a b t : Int) (hk : kk < 40) (hl : 200 ≤ l.length) (ha : 0 ≤ a ∧ a < 65536) (hb : 0 ≤ b ∧ b < 65536) (ht : 0 ≤ t ∧ t ≤ 15) :
    putEnt l ((kk : Int) + 1) a b t = splice l (5 * kk) (entB a.toNat b.toNat t.toNat) ∧ hasE (rawE (putEnt l ((kk : Int) + 1) a b t) kk) = true ∧ (rAt (rawE (putEnt l ((kk : Int) + 1) a b t) kk) : Int) = a ∧ (rLen (rawE (putEnt l ((kk : Int) + 1) a b t) kk) : Int) = b ∧ rTag (rawE (putEnt l ((kk : Int) + 1) a b t) kk) = t := by
  have hp : putEnt l ((kk : Int) + 1) a b t = splice l (5 * kk) (entB a.toNat b.toNat t.toNat) := by unfold putEnt; rw [entO_k]
  have hr : rawE (putEnt l ((kk : Int) + 1) a b t) kk = entB a.toNat b.toNat t.toNat := by rw [hp, rawE_splice _ _ _ _ (entB_len _ _ _) hk hk hl, if_pos rfl]
  obtain ⟨h1, h2, h3, h4⟩ := entB_rd a.toNat b.toNat t.toNat (by omega) (by omega) (by omega)
  rw [hr]
  exact ⟨hp, h1, by rw [h2]; omega, by rw [h3]; omega, by rw [h4]; omega⟩
theorem rootB_zero (s : Bytes) (h : Int) (hh : handleB h = true) : zeroE (rootB s h) = false := by
  have hb := handleB_true.1 hh
  have hd : (UInt8.ofNat h.toNat).toNat = h.toNat := by rw [UInt8.toNat_ofNat', Nat.mod_eq_of_lt (by omega)]
  unfold zeroE
  rw [Bool.not_eq_false', List.any_eq_true]
  refine ⟨UInt8.ofNat h.toNat, by simp [rootB], ?_⟩
  unfold nonZero
  rw [bne_iff_ne]
  intro e
  rw [e] at hd
  simp at hd
  omega
theorem rootB_P (s : Bytes) (h : Int) (hh : handleB h = true) (hnm : isName s = true) : rootP (rootB s h) = (s, h.toNat) := by
  have hb := handleB_true.1 hh
  have hd : (UInt8.ofNat h.toNat).toNat = h.toNat := by rw [UInt8.toNat_ofNat', Nat.mod_eq_of_lt (by omega)]
  have h8 := nameB_len s hnm
  obtain ⟨h1, h2⟩ := nameB_back s hnm
  have ht : (rootB s h).take 8 = nameB s := by unfold rootB; rw [List.take_append_of_le_length (by omega), List.take_of_length_le (by omega)]
  have h3 : nmR (rootB s h) = s := by unfold nmR; rw [ht]; exact h2
  unfold rootP
  rw [ht, if_pos h1, h3]
  congr 1
  unfold rootB
  rw [List.getD_eq_getElem?_getD, List.getElem?_append_right (by omega), h8]
  exact hd
theorem rootB_len (s : Bytes) (h : Int) (hnm : isName s = true) : (rootB s h).length = 11 := by unfold rootB; simp [nameB_len s hnm]
theorem root_back (gb n c : Nat) (l : Bytes) (i : Nat) (s : Bytes) (h : Int) (w : World) (hs : s.length ≤ 140737488351232) (hn : l.length = n) (hnc : n ≤ c) (hrd : Rd w (some ⟨gb, 0, none⟩) l) (hr : rightB n = true) (hi : i < 8) (hz : NoRoots l i) :
    Calls Tryd.prog 156 #[.slice (some ⟨gb, 0, none⟩) n c, .int .i64 (i : Int), rootV s h] w fun e w' => (∃ x, e = .returned (.tuple #[.slice none 0 0, .iface 149 (.int .i64 x)]) ∧ Below w.heap.size w w') ∨
      (∃ g cp lc, e = .returned (.tuple #[.slice (some ⟨g, 0, none⟩) n cp, .nilIface]) ∧ n ≤ cp ∧ Row w' 5 g cp lc ∧ lc.length = n ∧ NoRoots lc (i + 1) ∧ Below w.heap.size w w' ∧
        ((s.isEmpty = true ∧ rootsL lc = rootsL l) ∨ (s.isEmpty = false ∧ rootsL lc = rootsL l ++ [(s, h.toNat)] ∧ (h.toNat : Int) = h))) := by
  have hnb := rightB_true.1 hr
  have hsp : ∀ X : Bytes, X.length = 11 → (splice l (rootO (i : Int)) X).length = n := fun X hX => by rw [rootO_k, splice_len _ _ _ (by omega)]; exact hn
  by_cases h0 : s = [] ∧ h = 0
  · obtain ⟨rfl, rfl⟩ := h0
    refine (root_zero (some ⟨gb, 0, none⟩) n c l i w hn hnc hrd hr (by omega) (by omega)).mono ?_
    rintro e w' ⟨g, cap, he, hg, hrow, hb⟩
    have h1 := roots_put l (List.replicate 11 0) i (by simp) hi (by omega) hz
    have h2 := hsp (List.replicate 11 0) (by simp)
    rw [zeros_zero, if_pos rfl, List.append_nil] at h1
    rw [rootO_k] at hrow h2
    exact .inr ⟨g, cap, _, he, by have := hrow.le.1; omega, hrow, h2, h1.2, hb, .inl ⟨rfl, h1.1⟩⟩
  cases hh : handleB h with
  | false => exact (root_e1h _ n c i s h w hr (by omega) (by omega) h0 hh).mono fun e w' he => .inl ⟨1, he⟩
  | true =>
    cases hnm : isName s with
    | false => exact (root_e2 _ n c i s h w hs hr (by omega) (by omega) hh hnm).mono fun e w' he => .inl ⟨2, he⟩
    | true =>
      refine (root_ok _ n c l i s h w hn hrd hr (by omega) (by omega) hh hnm).mono ?_
      rintro e w' ⟨g, cap, he, hg, hrow, hb⟩
      have hb' := handleB_true.1 hh
      have h11 := rootB_len s h hnm
      have h1 := roots_put l (rootB s h) i h11 hi (by omega) hz
      have h2 := hsp (rootB s h) h11
      rw [rootB_zero s h hh, rootB_P s h hh hnm, if_neg (by simp)] at h1
      rw [rootO_k] at hrow h2
      have hse : s.isEmpty = false := by
        cases s with
        | nil => cases hnm
        | cons x r => rfl
      exact .inr ⟨g, cap, _, he, by have := hrow.le.1; omega, hrow, h2, h1.2, hb, .inr ⟨hse, h1.1, by omega⟩⟩
theorem flatMap_at {X : Type} (f : X → List Value) (C : Nat) (hC : ∀ x, (f x).length = C) : ∀ (L : List X) (i : Nat) (h : i < L.length) (q : Nat), q < C → (L.flatMap f)[i * C + q]? = (f L[i])[q]?
  | [], i, h, _, _ => absurd h (by simp)
  | x :: r, 0, _, q, hq => by
    rw [List.flatMap_cons, Nat.zero_mul, Nat.zero_add, List.getElem?_append_left (by rw [hC]; exact hq)]; rfl
  | x :: r, i + 1, h, q, hq => by
    have hx := hC x
    rw [List.flatMap_cons, List.getElem?_append_right (by rw [hx, Nat.succ_mul]; omega), hx, show (i + 1) * C + q - C = i * C + q by rw [Nat.succ_mul]; omega]
    exact flatMap_at f C hC r i (by simpa using h) q hq
theorem own_rdX {X : Type} {f : X → List Value} {C : Nat} {w : World} {base : Nat} {e : TypeId} {v : Value} {L : List X} (hC : ∀ x, (f x).length = C) (h : w.ownsRow base e C v L.length (L.flatMap f)) : ∃ A c, v = .slice A L.length c ∧ L.length ≤ c ∧ RdX f C w A L := by
  rcases h.2 with ⟨rfl, h0⟩ | ⟨g, cap, cur, rfl, _, hh, hc, hm, hz, ht⟩
  · exact ⟨none, 0, by rw [h0], by omega, fun i hi => by omega⟩
  · refine ⟨_, cap, rfl, hc, fun i hi => ⟨g, 0, rfl, fun q u hq => ?_⟩⟩
    have hqC : q < C := by rw [← hC L[i]]; exact (List.getElem?_eq_some_iff.1 hq).1
    have := h.cells (g := g) rfl (i * C + q) u (by rw [flatMap_at f C hC L i hi q hqC]; exact hq)
    rw [Addr.add_lit] at this
    rw [Nat.add_assoc]
    exact this
theorem rcells_len (x : Bytes × Nat) : (rcells x).length = 2 := rfl
end Go.Proofs.YthlflklamgdkfaaDoor
/- Roots of a list that are looked for: slices.IndexFunc, ContainsFunc with the closures of heap.Free and root.Get; the extents of a heap. -/
namespace Go.Proofs.YthlflklamgdkfaaDoor
open Go.RowKit

/-- where the first is -/
def ixP {X : Type} (p : X → Bool) (L : List X) : Int := if L.any p = true then (L.findIdx p : Int) else -1
theorem ixP_at {X : Type} (p : X → Bool) (L : List X) (k : Nat) (hk : k < L.length) (hn : ∀ x ∈ L.take k, p x = false) (he : p L[k] = true) : ixP p L = k := by
  unfold ixP
  rw [if_pos (List.any_eq_true.2 ⟨_, List.getElem_mem hk, he⟩)]
  congr 1
  rw [List.findIdx_eq hk]
  refine ⟨he, fun j hj => ?_⟩
  have := hn L[j] (List.mem_take_iff_getElem.2 ⟨j, by omega, rfl⟩)
  simpa using this
theorem ixP_none {X : Type} (p : X → Bool) (L : List X) (hn : ∀ x ∈ L, p x = false) : ixP p L = -1 := by
  unfold ixP
  rw [if_neg]
  rw [Bool.not_eq_true, List.any_eq_false]
  intro x hx; rw [hn x hx]; simp
theorem ixP_lt {X : Type} (p : X → Bool) (L : List X) (h : L.any p = true) : ∃ k : Nat, ∃ hk : k < L.length, ixP p L = k ∧ p L[k] = true ∧ ∀ j (hj : j < k), p L[j] = false := by
  have hlt : L.findIdx p < L.length := List.findIdx_lt_length_of_exists (by simpa using h)
  refine ⟨L.findIdx p, hlt, by unfold ixP; rw [if_pos h], List.findIdx_getElem, fun j hj => ?_⟩
  have := List.not_of_lt_findIdx hj
  simpa using this
theorem root1_free (x : Bytes × Nat) (y : Int) (Bx : Nat) (W : World) (h1 : W.cell? ⟨Bx, 0, none⟩ = some (.int .i64 y)) :
    Calls Tryd.prog 108 #[.agg #[sv x.1, .int .i64 x.2], .pointer (some ⟨Bx, 0, none⟩)] W fun e' w' => e' = .returned (.bool ((x.2 : Int) == y)) ∧ Below W.heap.size W w' := by
  obtain ⟨s, q⟩ := x
  dsimp only
  have hlt := block_lt_of_cell h1
  have hW : Below W.heap.size W (W.alloc (.cells #[sv s, .int .i64 q] 76)) := (Below.refl _ _).alloc (Nat.le_refl _) _
  go_enter Tryd.func108, Tryd.ntmps108
  go_wp2_with fail
  go_ret
  exact ⟨rfl, hW⟩
theorem root1_get (x : Bytes × Nat) (y : Bytes) (Bx : Nat) (W : World) (h1 : W.cell? ⟨Bx, 0, none⟩ = some (sv y)) :
    Calls Tryd.prog 112 #[.agg #[sv x.1, .int .i64 x.2], .pointer (some ⟨Bx, 0, none⟩)] W fun e' w' => e' = .returned (.bool (x.1 == y)) ∧ Below W.heap.size W w' := by
  obtain ⟨s, q⟩ := x
  dsimp only
  have hlt := block_lt_of_cell h1
  have hW : Below W.heap.size W (W.alloc (.cells #[sv s, .int .i64 q] 76)) := (Below.refl _ _).alloc (Nat.le_refl _) _
  go_enter Tryd.func112, Tryd.ntmps112
  go_wp2_with fail
  go_ret
  exact ⟨rfl, hW⟩
theorem idxR_free (p : Bytes × Nat → Bool) (A : Option Addr) (n c : Nat) (L : List (Bytes × Nat)) (cap : Value) (w : World) (hn : L.length = n) (hl : n ≤ 1000) (hr : RdX rcells 2 w A L)
    (hP : ∀ x ∈ L, ∀ W, Below w.heap.size w W → Calls Tryd.prog 108 #[.agg #[sv x.1, .int .i64 x.2], cap] W fun e w' => e = .returned (.bool (p x)) ∧ Below W.heap.size W w') :
    Calls Tryd.prog 111 #[.slice A n c, .func (.func 108) #[] #[cap]] w fun e w' => e = .returned (.int .i64 (ixP p L)) ∧ Below w.heap.size w w' := by
  subst hn
  have HP := Hidden.mk hP
  clear hP
  go_enter Tryd.func111, Tryd.ntmps111
  go_wp2_with fail
  go_loopw [8] (fun i wr => Below w.heap.size w wr ∧ ∃ k : Nat, k ≤ L.length ∧ i = .int .i64 k ∧ Hidden (∀ x ∈ L.take k, p x = false)) (fun i _ => L.length - (intOf i).toNat)
  case atStart => exact ⟨Below.refl _ _, 0, Nat.zero_le _, rfl, ⟨by simp⟩⟩
  case round =>
    obtain ⟨hbel, k, hk, rfl, hnot⟩ := hrel
    by_cases hlt : k < L.length
    · obtain ⟨b, off, rfl, hcx⟩ := (hr.below hbel) k hlt
      have c0 := hcx 0 _ rfl
      have c1 := hcx 1 _ rfl
      rw [Nat.add_zero] at c0
      have hp := HP.out L[k] (List.getElem_mem hlt) wr hbel
      have HPK := Hidden.mk hp
      have i0 : (0 : Int) ≤ k := by omega
      have i1 : (k : Int) < L.length := by omega
      clear hp hcx
      go_wp2_with fail
      refine (HPK.out).mono ?_
      rintro e w1 ⟨rfl, hb1⟩
      have hB1 := hbel.trans (hb1.mono hbel.size)
      cases he : p L[k] with
      | true =>
        have hi := Hidden.mk (ixP_at p L k hlt hnot.out he)
        clear he hb1 hbel
        go_wp2_with fail
        go_ret
        exact ⟨by rw [hi.out]; rfl, hB1⟩
      | false =>
        have hnk : Hidden (∀ x ∈ L.take (k + 1), p x = false) := ⟨forall_take_succ' hlt hnot.out he⟩
        clear he hnot hb1 hbel
        go_wp2_with fail
        go_roundw
        case rel => exact ⟨hB1, k + 1, by omega, by go_num, hnk⟩
        case measure => simp [intOf]; omega
    · have hi := Hidden.mk (ixP_none p L (by have := hnot.out; rwa [List.take_of_length_le (by omega)] at this))
      go_wp2_with fail
      go_ret
      exact ⟨by rw [hi.out]; rfl, hbel⟩
theorem idxR_get (p : Bytes × Nat → Bool) (A : Option Addr) (n c : Nat) (L : List (Bytes × Nat)) (cap : Value) (w : World) (hn : L.length = n) (hl : n ≤ 1000) (hr : RdX rcells 2 w A L)
    (hP : ∀ x ∈ L, ∀ W, Below w.heap.size w W → Calls Tryd.prog 112 #[.agg #[sv x.1, .int .i64 x.2], cap] W fun e w' => e = .returned (.bool (p x)) ∧ Below W.heap.size W w') :
    Calls Tryd.prog 111 #[.slice A n c, .func (.func 112) #[] #[cap]] w fun e w' => e = .returned (.int .i64 (ixP p L)) ∧ Below w.heap.size w w' := by
  subst hn
  have HP := Hidden.mk hP
  clear hP
  go_enter Tryd.func111, Tryd.ntmps111
  go_wp2_with fail
  go_loopw [8] (fun i wr => Below w.heap.size w wr ∧ ∃ k : Nat, k ≤ L.length ∧ i = .int .i64 k ∧ Hidden (∀ x ∈ L.take k, p x = false)) (fun i _ => L.length - (intOf i).toNat)
  case atStart => exact ⟨Below.refl _ _, 0, Nat.zero_le _, rfl, ⟨by simp⟩⟩
  case round =>
    obtain ⟨hbel, k, hk, rfl, hnot⟩ := hrel
    by_cases hlt : k < L.length
    · obtain ⟨b, off, rfl, hcx⟩ := (hr.below hbel) k hlt
      have c0 := hcx 0 _ rfl
      have c1 := hcx 1 _ rfl
      rw [Nat.add_zero] at c0
      have hp := HP.out L[k] (List.getElem_mem hlt) wr hbel
      have HPK := Hidden.mk hp
      have i0 : (0 : Int) ≤ k := by omega
      have i1 : (k : Int) < L.length := by omega
      clear hp hcx
      go_wp2_with fail
      refine (HPK.out).mono ?_
      rintro e w1 ⟨rfl, hb1⟩
      have hB1 := hbel.trans (hb1.mono hbel.size)
      cases he : p L[k] with
      | true =>
        have hi := Hidden.mk (ixP_at p L k hlt hnot.out he)
        clear he hb1 hbel
        go_wp2_with fail
        go_ret
        exact ⟨by rw [hi.out]; rfl, hB1⟩
      | false =>
        have hnk : Hidden (∀ x ∈ L.take (k + 1), p x = false) := ⟨forall_take_succ' hlt hnot.out he⟩
        clear he hnot hb1 hbel
        go_wp2_with fail
        go_roundw
        case rel => exact ⟨hB1, k + 1, by omega, by go_num, hnk⟩
        case measure => simp [intOf]; omega
    · have hi := Hidden.mk (ixP_none p L (by have := hnot.out; rwa [List.take_of_length_le (by omega)] at this))
      go_wp2_with fail
      go_ret
      exact ⟨by rw [hi.out]; rfl, hbel⟩
theorem cfR_free (p : Bytes × Nat → Bool) (A : Option Addr) (n c : Nat) (L : List (Bytes × Nat)) (cap : Value) (w : World) (hn : L.length = n) (hl : n ≤ 1000) (hr : RdX rcells 2 w A L)
    (hP : ∀ x ∈ L, ∀ W, Below w.heap.size w W → Calls Tryd.prog 108 #[.agg #[sv x.1, .int .i64 x.2], cap] W fun e w' => e = .returned (.bool (p x)) ∧ Below W.heap.size W w') :
    Calls Tryd.prog 106 #[.slice A n c, .func (.func 108) #[] #[cap]] w fun e w' => e = .returned (.bool (L.any p)) ∧ Below w.heap.size w w' := by
  have HC := Hidden.mk (idxR_free p A n c L cap w hn hl hr hP)
  have HZ : Hidden (decide (0 ≤ ixP p L) = L.any p) := ⟨by
    unfold ixP
    cases L.any p with
    | true => rw [if_pos rfl]; simp
    | false => rw [if_neg (by decide)]; rfl⟩
  generalize ixP p L = z at *
  clear hP
  go_enter Tryd.func106, Tryd.ntmps106
  go_wp2_with fail
  refine HC.out.mono ?_
  rintro e w1 ⟨rfl, hb⟩
  go_wp2_with fail
  go_ret
  exact ⟨congrArg (fun b => Ending.returned (.bool b)) HZ.out, hb⟩
/-- the extents of an image's objects, behind the head -/
def takeX (x : Int × Bytes) : Ext := ((rAt x.2 : Int) - 288, (rLen x.2 : Int))
def takenL (l : Bytes) : List Ext := (entriesL l).map takeX
theorem takenL_len (l : Bytes) : (takenL l).length ≤ 40 := by unfold takenL; rw [List.length_map]; exact entsL_len _ _ 40
section
variable {w0 w : World} {F : Nat → Prop} {h : Nat} {l : Bytes}
set_option maxRecDepth 100000 in
theorem htaken_any (hp : Hp w0 w F h l) :
    Calls Tryd.prog 102 #[.pointer (some ⟨h, 0, none⟩)] w fun e w' => ∃ A m c, e = .returned (.tuple #[.int .i64 ((l.length : Int) - 288), .slice A m c]) ∧ (takenL l).length = m ∧ m ≤ c ∧ RdX tcells 2 w' A (takenL l) ∧ Below w.heap.size w w' := by
  have hb := rightB_true.1 hp.len
  obtain ⟨i0, hi0, hz0, hz1, hz2⟩ := info_parts extent_info
  have HI := Hidden.mk (And.intro hi0 (And.intro hz0 (And.intro hz1 hz2)))
  have HC := Hidden.mk (hentries_any hp)
  have HP := Hidden.mk hp
  have HT : Hidden (takenL l = (entriesL l).map takeX) := ⟨rfl⟩
  have hle : (entriesL l).length ≤ 40 := entsL_len _ _ 40
  generalize entriesL l = E at *
  clear hi0 hz0 hz1 hz2 hp
  go_enter Tryd.func102, Tryd.ntmps102
  go_wp2_with fail
  refine HC.out.mono ?_
  rintro e w1 ⟨v, rfl, hown, hb1⟩
  obtain ⟨A1, c1, rfl, hc1, -⟩ := own_split hown
  have HR := Hidden.mk (own_rdX3 (f := ecells) (fun _ => rfl) rfl hown)
  have HB := Hidden.mk hb1
  generalize hm : E.length = m at *
  have HM := Hidden.mk hm
  clear hown hb1 HC hm
  go_wp2_with fail
  go_loopg [3, 9] m (fun q v i wr => ∃ k : Nat, k ≤ m ∧ q = m - k ∧ i = .int .i64 (k : Int) ∧ Hidden (Below w1.heap.size w1 wr ∧ wr.ownsRow w1.heap.size 135 2 v k (((E.take k).map takeX).flatMap tcells)))
  case atStart => exact ⟨0, by omega, rfl, rfl, ⟨Below.refl _ _, World.ownsRow_nil _ _ _ _⟩⟩
  case round =>
    obtain ⟨k, hk, rfl, rfl, hst⟩ := hrel
    by_cases hlt : k < m
    · have hkE : k < E.length := by have := HM.out; omega
      obtain ⟨p, off, rfl, hcx⟩ := (HR.out.below hst.out.1) k hkE
      have x0 := hcx 0 _ rfl
      have x1 := hcx 1 _ rfl
      have x2 := hcx 2 _ rfl
      have x3 := hcx 3 _ rfl
      rw [Nat.add_zero] at x0
      have HS : Hidden ((E.take (k + 1)).map takeX = (E.take k).map takeX ++ [takeX E[k]]) := ⟨by rw [List.take_succ_eq_append_getElem hkE, List.map_append]; rfl⟩
      have b1 := rAt_le E[k].2
      have b2 := rLen_le E[k].2
      have HX : Hidden (takeX E[k] = ((rAt E[k].2 : Int) - 288, (rLen E[k].2 : Int))) := ⟨rfl⟩
      generalize takeX E[k] = tx at *
      generalize E[k].1 = e0 at *
      generalize rAt E[k].2 = e1 at *
      generalize rLen E[k].2 = e2 at *
      generalize rTag E[k].2 = e3 at *
      have s1 : IntKind.i64.wrap ((e1 : Int) - 288) = (e1 : Int) - 288 := IntWalk.i64_in _ (by omega)
      have s3 : IntKind.i64.wrap ((k : Int) + 1) = (k : Int) + 1 := IntWalk.i64_in _ (by omega)
      have k0 : (0 : Int) ≤ k := by omega
      have k1 : (k : Int) < m := by omega
      have hal : Below wr.heap.size wr (wr.alloc (.cells #[.int .i64 e0, .int .i64 e1, .int .i64 e2, .int .i64 e3] 137)) := (Below.refl _ _).alloc (Nat.le_refl _) _
      have HN : Hidden (Below w1.heap.size w1 (wr.alloc (.cells #[.int .i64 e0, .int .i64 e1, .int .i64 e2, .int .i64 e3] 137)) ∧ (wr.alloc (.cells #[.int .i64 e0, .int .i64 e1, .int .i64 e2, .int .i64 e3] 137)).ownsRow w1.heap.size 135 2 u3 k (((E.take k).map takeX).flatMap tcells)) := ⟨hst.out.1.trans (hal.mono hst.out.1.size), own_below hst.out.2 hal⟩
      obtain ⟨hi0, hz0, hz1, hz2⟩ := HI.out
      clear hcx hal hst
      go_wp2_with (at_builtin; refine wpList_append_lies _ rfl (.tmp 13) (.tmp 22) _ rfl w1.heap.size 135 i0 _ 2 16 Tryd.underlying39 hi0 hz0 hz1 hz2 rfl (by decide) u3 k (((E.take k).map takeX).flatMap tcells) rfl (own_below HN.out.2 ((Below.refl _ _).alloc (Nat.le_refl _) _)) ⟨wr.heap.size + 1, 0, none⟩ 1 1 [.int .i64 ((e1 : Int) - 288), .int .i64 e2] rfl rfl (World.news_of_block (cs := #[.int .i64 ((e1 : Int) - 288), .int .i64 e2]) (t := 135) (fr := (0, 0)) (by have hq_ := heap_alloc_new ((wr.alloc (.cells #[.int .i64 e0, .int .i64 e1, .int .i64 e2, .int .i64 e3] 137))) (.cells #[.int .i64 ((e1 : Int) - 288), .int .i64 e2] 135); rwa [World.size_alloc] at hq_)) (by simp [Value.oneCell']) (by omega) (by simp only [maxLen]; omega) (by omega) (by have hz_ := HN.out.1.size; rw [World.size_alloc]; omega) (wr.heap.size + 1 + 1) (by simp) ?_; intro g8 cap8 w8 hown8 hg8 hat8 hlt8)
      have hgW := grown_trans' ((Below.refl (wr.alloc (.cells #[.int .i64 e0, .int .i64 e1, .int .i64 e2, .int .i64 e3] 137)).heap.size (wr.alloc (.cells #[.int .i64 e0, .int .i64 e1, .int .i64 e2, .int .i64 e3] 137))).alloc (Nat.le_refl _) _) hg8
      have hB8 : Below w1.heap.size w1 w8 := HN.out.1.grown hgW HN.out.1.size (fun q hq => (HN.out.2.lt q hq).1)
      have HF : Hidden (Below w1.heap.size w1 w8 ∧ w8.ownsRow w1.heap.size 135 2 (.slice (some ⟨g8, 0, none⟩) (k + 1) cap8) (k + 1) (((E.take (k + 1)).map takeX).flatMap tcells)) := ⟨hB8, by rw [HS.out, HX.out]; simpa [tcells] using hown8⟩
      clear hgW hB8 hown8 hg8 hat8 hlt8 hi0 hz0 hz1 hz2
      go_roundg (m - (k + 1))
      case measure => omega
      case rel => exact ⟨k + 1, by omega, rfl, by go_num, HF⟩
    · obtain rfl : m = k := by omega
      obtain ⟨g, cap, hh, hcap, hrow, hF⟩ := (HP.out.below (HB.out.trans (hst.out.1.mono HB.out.size))).open_
      have s1 : IntKind.i64.wrap ((l.length : Int) - 288) = (l.length : Int) - 288 := IntWalk.i64_in _ (by omega)
      have hT := hst.out.2
      rw [List.take_of_length_le (by have := HM.out; omega), ← HT.out] at hT
      have HL : Hidden ((takenL l).length = m) := ⟨by rw [HT.out, List.length_map]; exact HM.out⟩
      obtain ⟨A3, c3, rfl, hc3, -⟩ := own_split hT
      have HF : Hidden (RdX tcells 2 wr A3 (takenL l) ∧ Below w.heap.size w wr) := ⟨own_rdX3 tcells_len HL.out hT, HB.out.trans (hst.out.1.mono HB.out.size)⟩
      clear hT hst hrow hF
      go_wp2_with fail
      go_ret2
      exact ⟨A3, m, c3, rfl, HL.out, hc3, HF.out.1, HF.out.2⟩
end
end Go.Proofs.YthlflklamgdkfaaDoor
/- A byte stored into a row; the bytes of a number one by one. -/
namespace Go.Proofs.YthlflklamgdkfaaDoor
open Go.RowKit

theorem Row.store {w : World} {e g cap : Nat} {l : Bytes} (h : Row w e g cap l) (p : Nat) (hp : p < l.length) (x : UInt8) :
    Row (w.setCell ⟨g, p, none⟩ (bv x)) e g cap (l.set p x) := by
  obtain ⟨cur, hg, h1, h2, h3, h4⟩ := h
  rw [setCell_eq_setRow w g p cur e _ _ hg]
  refine ⟨_, setRow_heap w g cur _ e _ hg, by simpa using h1, h2, by simpa using h3, ?_⟩
  rw [Array.toList_setIfInBounds, List.length_set, List.take_set, h4, List.map_set]
theorem Row.frozen {w : World} {e g cap : Nat} {l : Bytes} (h : Row w e g cap l) (p : Nat) : w.frozen? ⟨g, p, none⟩ = false := by
  obtain ⟨cur, hg, _⟩ := h
  exact frozen_of_row w g p cur e hg
theorem numB_get (s : Nat) : ∀ (n k : Nat), k < s → (numB n s)[k]? = some (UInt8.ofNat (n / 2 ^ (8 * k) % 256)) := by
  induction s with
  | zero => intro n k h; omega
  | succ s ih =>
    intro n k h
    cases k with
    | zero => simp [numB]
    | succ k =>
      simp only [numB, List.getElem?_cons_succ]
      rw [ih _ _ (by omega), Nat.div_div_eq_div_mul, show 8 * (k + 1) = 8 + 8 * k from by omega, Nat.pow_add]
theorem splice_rd (l x : Bytes) (o p : Nat) (h : o + x.length ≤ l.length) : (splice l o x)[p]? = if o ≤ p ∧ p < o + x.length then x[p - o]? else l[p]? := by
  unfold splice
  have hl : (l.take o).length = o := by simp; omega
  by_cases h1 : p < o
  · rw [if_neg (by omega), List.getElem?_append_left (by omega), List.getElem?_take, if_pos h1]
  · rw [List.getElem?_append_right (by omega), hl]
    by_cases h2 : p < o + x.length
    · rw [if_pos (by omega), List.getElem?_append_left (by omega)]
    · rw [if_neg (by omega), List.getElem?_append_right (by omega), List.getElem?_drop]
      congr 1; omega
theorem ofB_inj : ∀ (a b : Bytes), a.length = b.length → ofB a = ofB b → a = b
  | [], [], _, _ => rfl
  | [], _ :: _, h, _ => by simp at h
  | _ :: _, [], h, _ => by simp at h
  | x :: a, y :: b, h, he => by
    simp only [ofB] at he
    have hx := u8_lt x
    have hy := u8_lt y
    have h1 : x.toNat = y.toNat := by omega
    rw [UInt8.toNat_inj.1 h1, ofB_inj a b (by simpa using h) (by omega)]
theorem div_step (n k : Nat) : n / 2 ^ (8 * k) / 256 = n / 2 ^ (8 * (k + 1)) := by
  rw [Nat.div_div_eq_div_mul, show 8 * (k + 1) = 8 * k + 8 from by omega, Nat.pow_add]
end Go.Proofs.YthlflklamgdkfaaDoor
/- The contracts of stamp.Open and vaultref1.Zero. -/
namespace Go.Proofs.YthlflklamgdkfaaDoor
open Go.RowKit

theorem open_e3 (A : Option Addr) (n c : Nat) (w : World) (h : n ≠ 32) :
    Calls Tryd.prog 158 #[.slice A n c] w fun e w' => e = .returned (.tuple #[.int .i64 0, .slice none 0 0, .iface 149 (.int .i64 3)]) ∧ w = w' := by
  have h' : ((n : Int) != 32) = true := by simp; omega
  clear h
  go_enter Tryd.func158, Tryd.ntmps158
  go_wp2
  go_ret3
  exact ⟨rfl, rfl⟩
def stampOf (l : Bytes) : Nat := ofB (l.take 4)
def bodyOf (l : Bytes) : Bytes := (l.drop 4).take 24
theorem open_e6 (A : Option Addr) (c : Nat) (l : Bytes) (w : World) (hl : l.length = 32) (hc : 32 ≤ c) (hr : Rd w A l) (hne : l.take 4 ≠ l.drop 28) :
    Calls Tryd.prog 158 #[.slice A 32 c] w fun e w' => e = .returned (.tuple #[.int .i64 0, .slice none 0 0, .iface 149 (.int .i64 6)]) ∧ ∃ n, w' = w.drewN n := by
  have hr1 := hr.take 4 (by omega)
  have hr2 := hr.cut 28 4 (by omega)
  rw [List.take_of_length_le (by simp; omega)] at hr2
  have hb : (l.take 4 == l.drop 28) = false := by simpa using hne
  have HB := Hidden.mk hb
  clear hb hne
  go_enter Tryd.func158, Tryd.ntmps158
  go_wp2_with fail
  go_quiet (fail)
  go_wp2_with fail
  refine (of_any _ _ _ (l.take 4) _ (by simp; omega) (by omega) (hr1.drewN _)).mono ?_
  rintro e w1 ⟨rfl, rfl⟩
  go_wp2_with fail
  refine (equal_any _ _ _ _ _ _ (l.take 4) (l.drop 28) _ (by simp; omega) (by simp; omega) (hr1.drewN _) (hr2.drewN _)).mono ?_
  rintro e w1 ⟨rfl, rfl⟩
  rw [HB.out]
  go_wp2_with fail
  go_ret3
  exact ⟨rfl, _, rfl⟩
theorem open_e5 (A : Option Addr) (c : Nat) (l : Bytes) (w : World) (hl : l.length = 32) (hc : 32 ≤ c) (hr : Rd w A l) (he : l.take 4 = l.drop 28) (h0 : stampOf l = 0) :
    Calls Tryd.prog 158 #[.slice A 32 c] w fun e w' => e = .returned (.tuple #[.int .i64 0, .slice none 0 0, .iface 149 (.int .i64 5)]) ∧ ∃ n, w' = w.drewN n := by
  have hr1 := hr.take 4 (by omega)
  have hr2 := hr.cut 28 4 (by omega)
  rw [List.take_of_length_le (by simp; omega)] at hr2
  have hb : (l.take 4 == l.drop 28) = true := by simpa using he
  have HB := Hidden.mk hb
  have H0 := Hidden.mk h0
  clear hb he h0
  go_enter Tryd.func158, Tryd.ntmps158
  go_wp2_with fail
  go_quiet (fail)
  go_wp2_with fail
  refine (of_any _ _ _ (l.take 4) _ (by simp; omega) (by omega) (hr1.drewN _)).mono ?_
  rintro e w1 ⟨rfl, rfl⟩
  rw [show ofB (l.take 4) = 0 from H0.out]
  go_wp2_with fail
  refine (equal_any _ _ _ _ _ _ (l.take 4) (l.drop 28) _ (by simp; omega) (by simp; omega) (hr1.drewN _) (hr2.drewN _)).mono ?_
  rintro e w1 ⟨rfl, rfl⟩
  rw [HB.out]
  go_wp2_with fail
  go_ret3
  exact ⟨rfl, _, rfl⟩
theorem open_ok (A : Option Addr) (c : Nat) (l : Bytes) (w : World) (hl : l.length = 32) (hc : 32 ≤ c) (hr : Rd w A l) (he : l.take 4 = l.drop 28) (h0 : stampOf l ≠ 0) :
    Calls Tryd.prog 158 #[.slice A 32 c] w fun e w' => ∃ g cap, e = .returned (.tuple #[.int .i64 (stampOf l), .slice (some ⟨g, 0, none⟩) 24 cap, .nilIface]) ∧
      w.heap.size ≤ g ∧ Row w' 5 g cap (bodyOf l) ∧ Below w.heap.size w w' := by
  have hr1 := hr.take 4 (by omega)
  have hr2 := hr.cut 28 4 (by omega)
  have hr3 := hr.cut 4 24 (by omega)
  rw [List.take_of_length_le (by simp; omega)] at hr2
  obtain ⟨p, off, rfl, _⟩ := hr.lt (by omega)
  have hb : (l.take 4 == l.drop 28) = true := by simpa using he
  have HB := Hidden.mk hb
  have h0' : ((stampOf l : Int) == 0) = false := by simp; omega
  clear hb he h0
  go_enter Tryd.func158, Tryd.ntmps158
  go_wp2_with fail
  go_quiet (fail)
  go_wp2_with fail
  refine (of_any _ _ _ (l.take 4) _ (by simp; omega) (by omega) (hr1.drewN _)).mono ?_
  rintro e w1 ⟨rfl, rfl⟩
  rw [show ofB (l.take 4) = stampOf l from rfl]
  go_wp2_with fail
  refine (equal_any _ _ _ _ _ _ (l.take 4) (l.drop 28) _ (by simp; omega) (by simp; omega) (hr1.drewN _) (hr2.drewN _)).mono ?_
  rintro e w1 ⟨rfl, rfl⟩
  rw [HB.out]
  go_wp2_with fail
  refine (clone_some _ 24 _ (bodyOf l) _ (by simp [bodyOf]; omega) (by omega) (hr3.drewN _)).mono ?_
  rintro e w1 ⟨g, cap, rfl, hg, hrow, hb⟩
  go_wp2_with fail
  go_ret3
  exact ⟨g, cap, rfl, hg, hrow, (below_drewN (Below.refl _ _) _).trans hb⟩

/-- vaultref1.Zero: are all bytes 0? -/
theorem zero_any (A : Option Addr) (n c : Nat) (l : Bytes) (w : World) (hn : l.length = n) (hl : n ≤ maxLen) (hr : Rd w A l) :
    Calls Tryd.prog 80 #[.slice A n c] w fun e w' => e = .returned (.bool (!l.any nonZero)) ∧ w = w' := by
  subst hn
  unfold maxLen at hl
  go_enter Tryd.func80, Tryd.ntmps80
  go_wp2
  go_loop [3] (fun i => ∃ k : Nat, k ≤ l.length ∧ i = .int .i64 k ∧ Hidden (∀ x ∈ l.take k, nonZero x = false)) (fun i => l.length - (intOf i).toNat)
  case atStart => exact ⟨0, Nat.zero_le _, rfl, ⟨by simp⟩⟩
  case round =>
    obtain ⟨k, hk, rfl, hnot⟩ := hrel
    by_cases hlt : k < l.length
    · obtain ⟨b, off, rfl, hc⟩ := hr k hlt
      have hb := bv_bne l[k]
      cases hz : nonZero l[k] with
      | true =>
        rw [hz] at hb
        have hv : Hidden (false = !l.any nonZero) := ⟨by rw [List.any_eq_true.2 ⟨l[k], List.getElem_mem hlt, hz⟩]; rfl⟩
        clear hz
        go_wp2
        go_ret
        exact ⟨ret_bool hv.out, rfl⟩
      | false =>
        rw [hz] at hb
        have hnk : Hidden (∀ x ∈ l.take (k + 1), nonZero x = false) := ⟨forall_take_succ hlt hnot.out hz⟩
        clear hz hnot
        go_wp2
        go_round
        case rel => exact ⟨k + 1, by omega, by go_num, hnk⟩
        case measure => simp [intOf]; omega
    · have hv : Hidden (true = !l.any nonZero) := ⟨by
        have := hnot.out
        rw [List.take_of_length_le (by omega)] at this
        symm; simpa using this⟩
      go_wp2
      go_ret
      exact ⟨ret_bool hv.out, rfl⟩
end Go.Proofs.YthlflklamgdkfaaDoor
/- The contracts of the reference's Number, Make and Open. -/
namespace Go.Proofs.YthlflklamgdkfaaDoor
open Go.RowKit

theorem ofB_drop (l : Bytes) (j : Nat) (h : j < l.length) : ofB (l.drop j) = l[j].toNat + 256 * ofB (l.drop (j + 1)) := by
  rw [List.drop_eq_getElem_cons h]; rfl
theorem number_any (A : Option Addr) (n c : Nat) (l : Bytes) (w : World) (hn : l.length = n) (hl : n ≤ 4) (hr : Rd w A l) :
    Calls Tryd.prog 133 #[.slice A n c] w fun e w' => e = .returned (.int .i64 (ofB l)) ∧ w = w' := by
  subst hn
  have s0 : IntKind.i64.wrap ((l.length : Int) - 1) = (l.length : Int) - 1 := IntWalk.i64_in _ (by omega)
  go_enter Tryd.func133, Tryd.ntmps133
  go_wp2
  go_loop [3, 4] (fun n i => ∃ j : Nat, j ≤ l.length ∧ i = .int .i64 ((j : Int) - 1) ∧ n = .int .i64 (ofB (l.drop j))) (fun _ i => (intOf i + 1).toNat)
  case atStart => exact ⟨l.length, Nat.le_refl _, rfl, by simp [ofB]⟩
  case round =>
    obtain ⟨j, hj, rfl, rfl⟩ := hrel
    rcases j with _ | j
    · rw [show (((0 : Nat) : Int) - 1) = (-1 : Int) from rfl, List.drop_zero]
      go_wp2
      go_ret
      exact ⟨rfl, rfl⟩
    · rw [show (((j + 1 : Nat) : Int) - 1) = (j : Int) from by omega]
      obtain ⟨b, off, rfl, hc⟩ := hr j (by omega)
      have hd := ofB_drop l j (by omega)
      have h1 := ofB_lt (l.drop (j + 1))
      have hp : 2 ^ (8 * (l.drop (j + 1)).length) ≤ 16777216 := by
        have : (l.drop (j + 1)).length ≤ 3 := by simp; omega
        calc 2 ^ (8 * (l.drop (j + 1)).length) ≤ 2 ^ 24 := Nat.pow_le_pow_right (by omega) (by omega)
          _ = 16777216 := by decide
      have hx := u8_lt l[j]
      have HD := Hidden.mk hd
      generalize ofB (l.drop (j + 1)) = m at *
      generalize l[j] = x at *
      have s1 : IntKind.i64.wrap ((m : Int) * 256) = (m : Int) * 256 := IntWalk.i64_in _ (by omega)
      have s2 : IntKind.i64.wrap (x.toNat : Int) = (x.toNat : Int) := IntWalk.i64_in _ (by omega)
      have s3 : IntKind.i64.wrap ((m : Int) * 256 + (x.toNat : Int)) = (m : Int) * 256 + (x.toNat : Int) := IntWalk.i64_in _ (by omega)
      have s4 : IntKind.i64.wrap ((j : Int) - 1) = (j : Int) - 1 := IntWalk.i64_in _ (by omega)
      have k0 : (0 : Int) ≤ j := by omega
      have k1 : (j : Int) < l.length := by omega
      clear hd h1 hp
      go_wp2
      go_round
      case rel => exact ⟨j, by omega, rfl, by rw [HD.out]; exact int_i64 (by omega)⟩
      case measure => simp [intOf]

/-- what a stamp with a body is as a sector, and the fault -/
def makeF (st : Int) (b : Bytes) : Bytes × Nat := if st < 1 ∨ 4294967295 < st then ([], 1) else if 24 < b.length then ([], 4) else (makeB st.toNat b, 0)
/-- what a sector is: its stamp, its body, the fault -/
def openF (l : Bytes) : Nat × Bytes × Nat := if l.length ≠ 32 then (0, [], 3) else if l.take 4 ≠ l.drop 28 then (0, [], 6) else if stampOf l = 0 then (0, [], 5) else (stampOf l, bodyOf l, 0)
def mixF (a b : Bytes) (cut : Int) : Bytes × Nat := if a.length ≠ 32 ∨ b.length ≠ 32 then ([], 3) else if cut < 0 ∨ 32 < cut then ([], 1) else (a.take cut.toNat ++ b.drop cut.toNat, 0)

theorem make_any (st : Int) (A : Option Addr) (n c : Nat) (b : Bytes) (w : World) (hn : b.length = n) (hr : Rd w A b) :
    Calls Tryd.prog 121 #[.int .i64 st, .slice A n c] w fun e w' => ∃ A' c', e = .returned (.tuple #[.slice A' (makeF st b).1.length c', errV (makeF st b).2]) ∧ Rd w' A' (makeF st b).1 ∧ Below w.heap.size w w' := by
  unfold makeF
  by_cases h1 : st < 1 ∨ 4294967295 < st
  · rw [if_pos h1]
    refine (make_e1 st A n c w h1).mono ?_
    rintro e w' ⟨rfl, rfl⟩
    exact ⟨none, 0, rfl, Rd.nil_, Below.refl _ _⟩
  · rw [if_neg h1]
    by_cases h2 : 24 < b.length
    · rw [if_pos h2]
      refine (make_e4 st A n c w (by omega) (by omega) (by omega)).mono ?_
      rintro e w' ⟨rfl, rfl⟩
      exact ⟨none, 0, rfl, Rd.nil_, Below.refl _ _⟩
    · rw [if_neg h2]
      refine (make_ok st A n c b w hn (by omega) (by omega) (by omega) hr).mono ?_
      rintro e w' ⟨g, rfl, hg, hrow, hb⟩
      exact ⟨some ⟨g, 0, none⟩, 32, by rw [makeB_len _ _ (by omega)]; rfl, hrow.rd, hb⟩
theorem open_any (A : Option Addr) (n c : Nat) (l : Bytes) (w : World) (hn : l.length = n) (hc : n ≤ c) (hr : Rd w A l) :
    Calls Tryd.prog 158 #[.slice A n c] w fun e w' => ∃ A' c', e = .returned (.tuple #[.int .i64 (openF l).1, .slice A' (openF l).2.1.length c', errV (openF l).2.2]) ∧ Rd w' A' (openF l).2.1 ∧ Below w.heap.size w w' := by
  subst hn
  unfold openF
  by_cases h1 : l.length ≠ 32
  · rw [if_pos h1]
    refine (open_e3 A _ c w h1).mono ?_
    rintro e w' ⟨rfl, rfl⟩
    exact ⟨none, 0, rfl, Rd.nil_, Below.refl _ _⟩
  · rw [if_neg h1]
    have h32 : l.length = 32 := by omega
    rw [h32] at hc ⊢
    by_cases h2 : l.take 4 ≠ l.drop 28
    · rw [if_pos h2]
      refine (open_e6 A c l w h32 hc hr h2).mono ?_
      rintro e w' ⟨rfl, n, rfl⟩
      exact ⟨none, 0, rfl, Rd.nil_, below_drewN (Below.refl _ _) _⟩
    · rw [if_neg h2]
      have h2' : l.take 4 = l.drop 28 := Decidable.not_not.1 h2
      by_cases h3 : stampOf l = 0
      · rw [if_pos h3]
        refine (open_e5 A c l w h32 hc hr h2' h3).mono ?_
        rintro e w' ⟨rfl, n, rfl⟩
        exact ⟨none, 0, rfl, Rd.nil_, below_drewN (Below.refl _ _) _⟩
      · rw [if_neg h3]
        refine (open_ok A c l w h32 hc hr h2' h3).mono ?_
        rintro e w' ⟨g, cap, rfl, hg, hrow, hb⟩
        exact ⟨some ⟨g, 0, none⟩, cap, by rw [show (bodyOf l).length = 24 from by simp [bodyOf, h32]]; rfl, hrow.rd, hb⟩

set_option maxRecDepth 100000 in
theorem refOpen_any (A : Option Addr) (n c : Nat) (l : Bytes) (w : World) (hn : l.length = n) (hc : n ≤ c) (hr : Rd w A l) :
    Calls Tryd.prog 130 #[.slice A n c] w fun e w' => ∃ A' c', e = .returned (.tuple #[.int .i64 (openF l).1, .slice A' (openF l).2.1.length c', .int .i64 (openF l).2.2]) ∧ Rd w' A' (openF l).2.1 ∧ Below w.heap.size w w' := by
  unfold openF
  by_cases h1 : n = 32
  · subst h1
    rw [if_neg (by omega)]
    have hr1 := hr.take 4 (by omega)
    have hr2 := hr.cut 28 4 (by omega)
    have hr3 := hr.cut 4 24 (by omega)
    rw [List.take_of_length_le (by simp; omega)] at hr2
    obtain ⟨p, off, rfl, _⟩ := hr.lt (by omega)
    have e1 : (l.take 4).length = 4 := by simp; omega
    have e2 : (l.drop 28).length = 4 := by simp; omega
    have hb3 : (bodyOf l).length = 24 := by simp [bodyOf, hn]
    by_cases h2 : l.take 4 = l.drop 28
    · have H2 := Hidden.mk h2
      by_cases h3 : stampOf l = 0
      · rw [if_neg (by simpa using h2), if_pos h3]
        have H3 := Hidden.mk h3
        clear h2 h3
        go_enter Tryd.func130, Tryd.ntmps130
        go_wp2_with fail
        refine (number_any _ 4 _ (l.take 4) _ e1 (by omega) hr1).mono ?_
        rintro e w1 ⟨rfl, rfl⟩
        rw [show ofB (l.take 4) = 0 from H3.out]
        go_wp2_with fail
        refine (number_any _ 4 _ (l.drop 28) _ e2 (by omega) hr2).mono ?_
        rintro e w1 ⟨rfl, rfl⟩
        rw [← H2.out, show ofB (l.take 4) = 0 from H3.out]
        go_wp2_with fail
        go_ret3
        exact ⟨none, 0, rfl, Rd.nil_, Below.refl _ _⟩
      · rw [if_neg (by simpa using h2), if_neg h3]
        have t3 : ((stampOf l : Int) == 0) = false := by simp; omega
        clear h2 h3
        go_enter Tryd.func130, Tryd.ntmps130
        go_wp2_with fail
        refine (number_any _ 4 _ (l.take 4) _ e1 (by omega) hr1).mono ?_
        rintro e w1 ⟨rfl, rfl⟩
        rw [show ofB (l.take 4) = stampOf l from rfl]
        go_wp2_with fail
        refine (number_any _ 4 _ (l.drop 28) _ e2 (by omega) hr2).mono ?_
        rintro e w1 ⟨rfl, rfl⟩
        rw [← H2.out, show ofB (l.take 4) = stampOf l from rfl]
        go_wp2_with fail
        go_quiet (fail)
        go_wp2_with fail
        go_ret3
        exact ⟨some ⟨p, off + 4, none⟩, c - 4, by rw [hb3]; rfl, by simpa [Addr.add_lit, bodyOf] using hr3.drewN nq, below_drewN (Below.refl _ _) _⟩
    · rw [if_pos h2]
      have t2 : ((ofB (l.take 4) : Int) != (ofB (l.drop 28) : Int)) = true := by
        simp only [bne_iff_ne, ne_eq]
        intro h
        exact h2 (ofB_inj _ _ (by rw [e1, e2]) (by omega))
      clear h2
      go_enter Tryd.func130, Tryd.ntmps130
      go_wp2_with fail
      refine (number_any _ 4 _ (l.take 4) _ e1 (by omega) hr1).mono ?_
      rintro e w1 ⟨rfl, rfl⟩
      go_wp2_with fail
      refine (number_any _ 4 _ (l.drop 28) _ e2 (by omega) hr2).mono ?_
      rintro e w1 ⟨rfl, rfl⟩
      go_wp2_with fail
      go_ret3
      exact ⟨none, 0, rfl, Rd.nil_, Below.refl _ _⟩
  · rw [if_pos (by omega)]
    have t1 : ((n : Int) != 32) = true := by simp; omega
    clear h1
    go_enter Tryd.func130, Tryd.ntmps130
    go_wp2
    go_ret3
    exact ⟨none, 0, rfl, Rd.nil_, Below.refl _ _⟩
end Go.Proofs.YthlflklamgdkfaaDoor
/- The contracts of the reference's Get, Put, Name, NameBytes and ReadName. -/
namespace Go.Proofs.YthlflklamgdkfaaDoor
open Go.RowKit

def getF (l : Bytes) (at_ size : Int) : Nat := if getE l.length at_ size = 0 then getN l at_ size else 0
def putF (l : Bytes) (at_ x size : Int) : Bytes := if putE l.length at_ x size = 0 then putB l at_ x size else []

theorem splice_put (l : Bytes) (o x k : Nat) (h : o + k < l.length) : (splice l o (numB x k)).set (o + k) (UInt8.ofNat (x / 2 ^ (8 * k) % 256)) = splice l o (numB x (k + 1)) := by
  have h1 := numB_length x k
  have h2 := numB_length x (k + 1)
  apply List.ext_getElem?
  intro p
  rw [List.getElem?_set, splice_len _ _ _ (by omega), splice_rd _ _ _ _ (by omega), splice_rd _ _ _ _ (by omega), h1, h2]
  by_cases a : o + k = p
  · subst a
    rw [if_pos rfl, if_pos (by omega), if_pos (by omega), Nat.add_sub_cancel_left, numB_get _ _ _ (by omega)]
  · rw [if_neg a]
    by_cases b : o ≤ p ∧ p < o + k
    · rw [if_pos b, if_pos (show o ≤ p ∧ p < o + (k + 1) from by omega), numB_get _ _ _ (by omega), numB_get _ _ _ (by omega)]
    · rw [if_neg b, if_neg (show ¬ (o ≤ p ∧ p < o + (k + 1)) from by omega)]
end Go.Proofs.YthlflklamgdkfaaDoor
/- The contract of the reference's Put. -/
namespace Go.Proofs.YthlflklamgdkfaaDoor
open Go.RowKit

/-- an answer: bytes, and a number or an error -/
def RowAns (w w' : World) (e : Ending) (l : Bytes) (x : Value) : Prop := ∃ A' c', e = .returned (.tuple #[.slice A' l.length c', x]) ∧ Rd w' A' l ∧ Below w.heap.size w w'
set_option maxRecDepth 100000 in
set_option maxHeartbeats 1000000 in
theorem refPut_ans (A : Option Addr) (n c : Nat) (l : Bytes) (at_ x size : Int) (w : World) (hn : l.length = n) (hl : n ≤ 140737488351232) (hr : Rd w A l) :
    Calls Tryd.prog 134 #[.slice A n c, .int .i64 at_, .int .i64 x, .int .i64 size] w fun e w' => RowAns w w' e (putF l at_ x size) (.int .i64 (putE n at_ x size)) := by
  obtain ⟨i0, hi0, hz0, hz1, hz2⟩ := info_parts byte_info
  generalize hF : putF l at_ x size = F
  generalize hE : putE n at_ x size = E
  unfold putF at hF
  rw [hn, hE] at hF
  unfold putE at hE
  by_cases hs : 1 ≤ size ∧ size ≤ 4
  · obtain ⟨h1, h4⟩ := hs
    obtain ⟨s, rfl⟩ := Int.eq_ofNat_of_zero_le (show 0 ≤ size by omega)
    have HM : Hidden (mostN (s : Int) = (2 ^ (8 * s) : Nat) - 1) := ⟨by simp [mostN]⟩
    have HE := Hidden.mk hE
    have HF := Hidden.mk hF
    clear hE hF
    go_enter Tryd.func134, Tryd.ntmps134
    go_wp2_with fail
    go_loop [10, 11] (fun mv iv => ∃ k : Nat, k ≤ s ∧ iv = .int .i64 k ∧ mv = .int .i64 ((2 ^ (8 * k) : Nat) : Int)) (fun _ iv => s - (intOf iv).toNat)
    case atStart => exact ⟨0, Nat.zero_le _, rfl, rfl⟩
    case round =>
      obtain ⟨k, hk, rfl, rfl⟩ := hrel
      by_cases hlt : k < s
      · have hp : 2 ^ (8 * k) ≤ 16777216 := by
          calc 2 ^ (8 * k) ≤ 2 ^ 24 := Nat.pow_le_pow_right (by omega) (by omega)
            _ = 16777216 := by decide
        have HD : Hidden (2 ^ (8 * k) * 256 = 2 ^ (8 * (k + 1))) := ⟨by rw [show 8 * (k + 1) = 8 * k + 8 from by omega, Nat.pow_add]⟩
        generalize 2 ^ (8 * k) = M at *
        have s1 : IntKind.i64.wrap ((M : Int) * 256) = (M : Int) * 256 := IntWalk.i64_in _ (by omega)
        go_wp2_with fail
        go_round
        case rel => exact ⟨k + 1, by omega, by go_num, int_i64 (by have := HD.out; omega)⟩
        case measure => simp [intOf]; omega
      · obtain rfl : k = s := by omega
        have hp : 2 ^ (8 * k) ≤ 4294967296 := by
          calc 2 ^ (8 * k) ≤ 2 ^ 32 := Nat.pow_le_pow_right (by omega) (by omega)
            _ = 4294967296 := by decide
        by_cases hx : 0 ≤ x ∧ x ≤ mostN (k : Int)
        · obtain ⟨X, rfl⟩ := Int.eq_ofNat_of_zero_le hx.1
          have hxm := hx.2
          rw [HM.out] at hxm
          by_cases ha : at_ < 0 ∨ (n : Int) - k < at_
          · have he : E = 3 := by rw [← HE.out, if_pos ⟨h1, h4, hx.1, hx.2⟩, if_pos ha]
            have hf : F = [] := by rw [← HF.out, if_neg (by omega)]
            subst he hf
            clear HE HF hx HM
            generalize 2 ^ (8 * k) = M at *
            by_cases h0 : at_ < 0
            · clear ha
              go_wp2_with fail
              go_ret2
              exact ⟨none, 0, rfl, Rd.nil_, Below.refl _ _⟩
            · by_cases hb : (n : Int) < at_
              · clear ha
                go_wp2_with fail
                go_ret2
                exact ⟨none, 0, rfl, Rd.nil_, Below.refl _ _⟩
              · have hc3 : (n : Int) - at_ < k := by omega
                have s1 : IntKind.i64.wrap ((n : Int) - at_) = (n : Int) - at_ := IntWalk.i64_in _ (by omega)
                clear ha
                go_wp2_with fail
                go_ret2
                exact ⟨none, 0, rfl, Rd.nil_, Below.refl _ _⟩
          · have he : E = 0 := by rw [← HE.out, if_pos ⟨h1, h4, hx.1, hx.2⟩, if_neg ha]
            have hf : F = putB l at_ X k := by rw [← HF.out, if_pos he]
            obtain ⟨a, rfl⟩ := Int.eq_ofNat_of_zero_le (show 0 ≤ at_ by omega)
            have hfa : F = splice l a (numB X k) := by rw [hf]; simp [putB]
            have HFA := Hidden.mk hfa
            subst he
            clear HE HF hx HM hf hfa
            have hfit : a + k ≤ n := by omega
            have hk1 : 1 ≤ k := by omega
            have s1 : IntKind.i64.wrap ((n : Int) - a) = (n : Int) - a := IntWalk.i64_in _ (by omega)
            have t1 : decide (n < a) = false := by simp; omega
            have t2 : decide ((n : Int) - a < k) = false := by simp; omega
            obtain ⟨p, off, rfl, _⟩ := hr.lt (by omega)
            generalize 2 ^ (8 * k) = M at *
            have t3 : decide (M ≤ X) = false := by simp; omega
            have t0 : decide ((a : Int) < 0) = false := by simp
            have t5 : decide ((X : Int) < 0) = false := by simp
            clear ha
            go_wp2_with (at_builtin; refine wpList_append_own _ rfl (.tmp 50) (.tmp 51) _ rfl w.heap.size 5 i0 _ 1 1 Tryd.underlying22 hi0 hz0 hz1 hz2 rfl (by decide) (.slice none 0 0) 0 [] rfl (World.ownsRow_nil _ _ _ _) ⟨p, off, none⟩ n c (l.map bv) rfl (by simp; omega) hr.cells one_bv (by simp only [maxLen]; omega) (by omega) (Nat.le_refl _) ?_; intro v1 w1 hown1 hg1 hnn1)
            have hb1 : Below w.heap.size w w1 := (Below.refl _ _).grown hg1 (Nat.le_refl _) (fun k hk => by simp [Value.ownBlock] at hk)
            have hO : Own w1 w.heap.size 5 v1 l := by unfold Own; simpa [hn] using hown1
            have hne : v1 ≠ .slice none 0 0 := fun h => by
              subst h
              rcases hO.2 with ⟨_, h0⟩ | ⟨g, cap, cur, h, _⟩
              · omega
              · cases h
            obtain ⟨g, cap, hv, hbg, hrow⟩ := Row.of_own hO hne
            rw [hn] at hv
            subst hv
            clear hO hne hown1 hg1 hnn1
            go_loopw [2, 13] (fun nv iv wr => ∃ j : Nat, j ≤ k ∧ iv = .int .i64 j ∧ nv = .int .i64 ((X / 2 ^ (8 * j) : Nat) : Int) ∧ Below w.heap.size w wr ∧ Row wr 5 g cap (splice l a (numB X j))) (fun _ iv _ => k - (intOf iv).toNat)
            case atStart => exact ⟨0, Nat.zero_le _, rfl, by simp, hb1, by simpa [numB, splice] using hrow⟩
            case round =>
              obtain ⟨j, hj, rfl, rfl, hbel, hrow2⟩ := hrel
              have hsl : (splice l a (numB X j)).length = n := by rw [splice_len _ _ _ (by rw [numB_length]; omega), hn]
              by_cases hlt2 : j < k
              · have hd := div_step X j
                have HD2 := Hidden.mk hd
                have hcell := hrow2.cell (a + j) (by omega)
                have hfr := hrow2.frozen (a + j)
                have hst := hrow2.store (a + j) (by omega) (UInt8.ofNat (X / 2 ^ (8 * j) % 256))
                rw [splice_put l a X j (by omega)] at hst
                have hbn := hbel.setCell (p := ⟨g, a + j, none⟩) hbg (bv (UInt8.ofNat (X / 2 ^ (8 * j) % 256)))
                have hbv : bv (UInt8.ofNat (X / 2 ^ (8 * j) % 256)) = .int .u8 ((X / 2 ^ (8 * j) : Nat) % 256 : Int) := by simp only [bv, ofNat_mod]; rfl
                have hmle : X / 2 ^ (8 * j) ≤ X := Nat.div_le_self _ _
                have hcap := hrow2.le.1
                rw [hbv] at hst hbn
                generalize X / 2 ^ (8 * j) = m at *
                have q1 : IntKind.i64.wrap ((a : Int) + j) = (a : Int) + j := IntWalk.i64_in _ (by omega)
                have k0 : (0 : Int) ≤ (a : Int) + j := by omega
                have k1 : (a : Int) + j < n := by omega
                generalize (splice l a (numB X j))[a + j] = u at hcell
                clear hd hbv hrow2 hsl
                go_wp2_with fail
                go_roundw
                case rel => exact ⟨j + 1, by omega, by go_num, int_i64 (by have := HD2.out; omega), hbn, hst⟩
                case measure => simp [intOf]; omega
              · obtain rfl : j = k := by omega
                go_wp2_with fail
                go_ret2
                refine ⟨some ⟨g, 0, none⟩, cap, ?_, by rw [HFA.out]; exact hrow2.rd, hbel⟩
                rw [show F.length = n from by rw [HFA.out]; exact hsl]
                rfl
        · have he : E = 1 := by rw [← HE.out, if_neg (fun h => hx ⟨h.2.2.1, h.2.2.2⟩)]
          have hf : F = [] := by rw [← HF.out, if_neg (by omega)]
          rw [HM.out] at hx
          subst he hf
          clear HE HF HM
          generalize 2 ^ (8 * k) = M at *
          by_cases h0 : x < 0
          · clear hx
            go_wp2_with fail
            go_ret2
            exact ⟨none, 0, rfl, Rd.nil_, Below.refl _ _⟩
          · have t3 : (M : Int) ≤ x := by omega
            clear hx
            go_wp2_with fail
            go_ret2
            exact ⟨none, 0, rfl, Rd.nil_, Below.refl _ _⟩
  · have he : E = 1 := by rw [← hE, if_neg (fun h => hs ⟨h.1, h.2.1⟩)]
    have hf : F = [] := by rw [← hF, if_neg (by omega)]
    subst he hf
    clear hE hF
    by_cases h1 : size < 1
    · clear hs
      go_enter Tryd.func134, Tryd.ntmps134
      go_wp2_with fail
      go_ret2
      exact ⟨none, 0, rfl, Rd.nil_, Below.refl _ _⟩
    · have h4 : 4 < size := by omega
      clear hs
      go_enter Tryd.func134, Tryd.ntmps134
      go_wp2_with fail
      go_ret2
      exact ⟨none, 0, rfl, Rd.nil_, Below.refl _ _⟩
theorem refPut_any (A : Option Addr) (n c : Nat) (l : Bytes) (at_ x size : Int) (w : World) (hn : l.length = n) (hl : n ≤ 140737488351232) (hr : Rd w A l) :
    Calls Tryd.prog 134 #[.slice A n c, .int .i64 at_, .int .i64 x, .int .i64 size] w fun e w' => ∃ A' c', e = .returned (.tuple #[.slice A' (putF l at_ x size).length c', .int .i64 (putE n at_ x size)]) ∧ Rd w' A' (putF l at_ x size) ∧ Below w.heap.size w w' :=
  refPut_ans A n c l at_ x size w hn hl hr
end Go.Proofs.YthlflklamgdkfaaDoor
/- The contract of the reference's Make. -/
namespace Go.Proofs.YthlflklamgdkfaaDoor
open Go.RowKit

theorem Row.keepB {B : Nat} {w w' : World} (hb : Below B w w') {g p : Nat} (hg : B ≤ g) (v : Value) : Below B w (w'.setCell ⟨g, p, none⟩ v) := hb.setCell (p := ⟨g, p, none⟩) hg v
/-- the sector as it is after k bytes of the stamp -/
def makeK (l1 : Bytes) (st k : Nat) : Bytes := splice (splice l1 0 (numB st k)) 28 (numB st k)
theorem makeK_len (l1 : Bytes) (st k : Nat) (h : l1.length = 32) (hk : k ≤ 4) : (makeK l1 st k).length = 32 := by
  unfold makeK
  have h1 : (splice l1 0 (numB st k)).length = 32 := by rw [splice_len _ _ _ (by rw [numB_length]; omega), h]
  rw [splice_len _ _ _ (by rw [numB_length]; omega), h1]
theorem makeK_get (l1 : Bytes) (st k p : Nat) (h : l1.length = 32) (hk : k ≤ 4) : (makeK l1 st k)[p]? = if p < k then some (UInt8.ofNat (st / 2 ^ (8 * p) % 256)) else if 28 ≤ p ∧ p < 28 + k then some (UInt8.ofNat (st / 2 ^ (8 * (p - 28)) % 256)) else l1[p]? := by
  unfold makeK
  have hn := numB_length st k
  have h1 : (splice l1 0 (numB st k)).length = 32 := by rw [splice_len _ _ _ (by omega), h]
  rw [splice_rd _ _ _ _ (by omega), splice_rd _ _ _ _ (by omega), hn]
  by_cases a : p < k
  · rw [if_neg (by omega), if_pos (by omega), if_pos a, Nat.sub_zero, numB_get k st p a]
  · rw [if_neg a]
    by_cases b : 28 ≤ p ∧ p < 28 + k
    · rw [if_pos b, if_pos b, numB_get k st (p - 28) (by omega)]
    · rw [if_neg b, if_neg b, if_neg (by omega)]
theorem makeK_step (l1 : Bytes) (st k : Nat) (h : l1.length = 32) (hk : k < 4) : ((makeK l1 st k).set k (UInt8.ofNat (st / 2 ^ (8 * k) % 256))).set (28 + k) (UInt8.ofNat (st / 2 ^ (8 * k) % 256)) = makeK l1 st (k + 1) := by
  have hl := makeK_len l1 st k h (by omega)
  apply List.ext_getElem?
  intro p
  rw [makeK_get l1 st (k + 1) p h (by omega), List.getElem?_set, List.getElem?_set, List.length_set, hl, makeK_get l1 st k p h (by omega)]
  by_cases a : 28 + k = p
  · subst a
    rw [if_pos rfl, if_pos (by omega), if_neg (by omega), if_pos (by omega), Nat.add_sub_cancel_left]
  · rw [if_neg a]
    by_cases b : k = p
    · subst b
      rw [if_pos rfl, if_pos (by omega), if_pos (by omega)]
    · rw [if_neg b]
      by_cases c : p < k
      · rw [if_pos c, if_pos (show p < k + 1 from by omega)]
      · rw [if_neg c, if_neg (show ¬ p < k + 1 from by omega)]
        by_cases d : 28 ≤ p ∧ p < 28 + k
        · rw [if_pos d, if_pos (show 28 ≤ p ∧ p < 28 + (k + 1) from by omega)]
        · rw [if_neg d, if_neg (show ¬ (28 ≤ p ∧ p < 28 + (k + 1)) from by omega)]
theorem splice_take_succ (z b : Bytes) (o k : Nat) (hk : k < b.length) (hz : o + b.length ≤ z.length) : (splice z o (b.take k)).set (o + k) b[k] = splice z o (b.take (k + 1)) := by
  have h1 : (b.take k).length = k := by simp; omega
  have h2 : (b.take (k + 1)).length = k + 1 := by simp; omega
  apply List.ext_getElem?
  intro p
  rw [List.getElem?_set, splice_len _ _ _ (by omega), splice_rd _ _ _ _ (by omega), splice_rd _ _ _ _ (by omega), h1, h2]
  by_cases a : o + k = p
  · subst a
    rw [if_pos rfl, if_pos (by omega), if_pos (by omega), Nat.add_sub_cancel_left, List.getElem?_take, if_pos (by omega), List.getElem?_eq_getElem hk]
  · rw [if_neg a]
    by_cases c : o ≤ p ∧ p < o + k
    · rw [if_pos c, if_pos (by omega), List.getElem?_take, List.getElem?_take, if_pos (by omega), if_pos (by omega)]
    · rw [if_neg c, if_neg (by omega)]
theorem makeK_done (st : Nat) (b : Bytes) (h : b.length ≤ 24) : makeK (splice (List.replicate 32 0) 4 b) st 4 = makeB st b := by
  rw [← makeB_steps st b h]
  unfold makeK
  have hn := numB_length st 4
  have hz : (List.replicate 32 (0 : UInt8)).length = 32 := by simp
  congr 1
  apply List.ext_getElem?
  intro p
  have h1 : (splice (List.replicate 32 (0 : UInt8)) 4 b).length = 32 := by rw [splice_len _ _ _ (by omega), hz]
  have h2 : (splice (List.replicate 32 (0 : UInt8)) 0 (numB st 4)).length = 32 := by rw [splice_len _ _ _ (by omega), hz]
  rw [splice_rd _ _ _ _ (by omega), splice_rd _ _ _ _ (by omega), splice_rd _ _ _ _ (by omega), splice_rd _ _ _ _ (by omega), hn]
  by_cases a : 0 ≤ p ∧ p < 0 + 4
  · rw [if_pos a, if_neg (by omega), if_pos a]
  · rw [if_neg a]
    by_cases c : 4 ≤ p ∧ p < 4 + b.length
    · rw [if_pos c, if_pos c]
    · rw [if_neg c, if_neg c, if_neg a]

theorem refMake_e1 (st : Int) (A : Option Addr) (n c : Nat) (w : World) (h : st < 1 ∨ 4294967295 < st) :
    Calls Tryd.prog 129 #[.int .i64 st, .slice A n c] w fun e w' => e = .returned (.tuple #[.slice none 0 0, .int .i64 1]) ∧ w = w' := by
  by_cases h1 : st < 1
  · clear h
    go_enter Tryd.func129, Tryd.ntmps129
    go_wp2
    go_ret2
    exact ⟨rfl, rfl⟩
  · have h2 : 4294967295 < st := by omega
    clear h
    go_enter Tryd.func129, Tryd.ntmps129
    go_wp2
    go_ret2
    exact ⟨rfl, rfl⟩
theorem refMake_e4 (st : Int) (A : Option Addr) (n c : Nat) (w : World) (h1 : 1 ≤ st) (h2 : st ≤ 4294967295) (hn : 24 < n) :
    Calls Tryd.prog 129 #[.int .i64 st, .slice A n c] w fun e w' => e = .returned (.tuple #[.slice none 0 0, .int .i64 4]) ∧ w = w' := by
  go_enter Tryd.func129, Tryd.ntmps129
  go_wp2
  go_ret2
  exact ⟨rfl, rfl⟩
set_option maxRecDepth 100000 in
theorem refMake_ok (st : Nat) (A : Option Addr) (n c : Nat) (b : Bytes) (w : World) (hbn : b.length = n) (h1 : 1 ≤ st) (h2 : st ≤ 4294967295) (hn : n ≤ 24) (hr : Rd w A b) :
    Calls Tryd.prog 129 #[.int .i64 st, .slice A n c] w fun e w' => ∃ g, e = .returned (.tuple #[.slice (some ⟨g, 0, none⟩) 32 32, .int .i64 0]) ∧ w.heap.size ≤ g ∧ Row w' 5 g 32 (makeB st b) ∧ Below w.heap.size w w' := by
  have hmk := mk_bytes 32 32 rfl (by omega) w
  have hz := row_zeros w 32 (by simp [maxLen])
  have hB1 : Below w.heap.size w (w.alloc (.cells (zeroRow 32) 5)) := (Below.refl _ _).alloc (Nat.le_refl _) _
  have hzl : (List.replicate 32 (0 : UInt8)).length = 32 := by simp
  have HZ := Hidden.mk hzl
  obtain ⟨z0, hz0⟩ : ∃ z0, z0 = List.replicate 32 (0 : UInt8) := ⟨_, rfl⟩
  rw [← hz0] at hz hzl HZ
  have HZZ := Hidden.mk hz0
  clear hz0
  subst hbn
  go_enter Tryd.func129, Tryd.ntmps129
  go_wp2_with fail
  generalize w.alloc (.cells (zeroRow 32) 5) = w1 at *
  go_loopw [7] (fun i wr => ∃ k : Nat, k ≤ b.length ∧ i = .int .i64 k ∧ Below w.heap.size w wr ∧ Row wr 5 w.heap.size 32 (splice z0 4 (b.take k))) (fun i _ => b.length - (intOf i).toNat)
  case atStart => exact ⟨0, Nat.zero_le _, rfl, hB1, by simpa [splice] using hz⟩
  case round =>
    obtain ⟨k, hk, rfl, hbel, hrow⟩ := hrel
    by_cases hlt : k < b.length
    · obtain ⟨q, off, rfl, hc⟩ := (hr.below hbel) k hlt
      have hsl : (splice z0 4 (b.take k)).length = 32 := by rw [splice_len _ _ _ (by simp; have := HZ.out; omega), HZ.out]
      have hcell := hrow.cell (4 + k) (by omega)
      have hfr := hrow.frozen (4 + k)
      have hst := hrow.store (4 + k) (by omega) b[k]
      rw [splice_take_succ z0 b 4 k hlt (by have := HZ.out; omega)] at hst
      have hbn := Row.keepB hbel (g := w.heap.size) (p := 4 + k) (Nat.le_refl _) (bv b[k])
      have k0 : (0 : Int) ≤ k := by omega
      have k1 : (k : Int) < b.length := by omega
      have s1 : IntKind.i64.wrap (4 + (k : Int)) = 4 + (k : Int) := IntWalk.i64_in _ (by omega)
      generalize (splice z0 4 (b.take k))[4 + k] = u at hcell
      clear hrow hsl
      go_wp2_with fail
      go_roundw
      case rel => exact ⟨k + 1, by omega, by go_num, hbn, hst⟩
      case measure => simp [intOf]; omega
    · obtain rfl : k = b.length := by omega
      rw [List.take_length] at hrow
      have hl1 : (splice z0 4 b).length = 32 := by rw [splice_len _ _ _ (by have := HZ.out; omega), HZ.out]
      have HD : Hidden (makeK (splice z0 4 b) st 4 = makeB st b) := ⟨by rw [HZZ.out]; exact makeK_done st b hn⟩
      generalize splice z0 4 b = l1 at *
      go_wp2_with fail
      go_loopw [8, 9] (fun nv iv w2 => ∃ k : Nat, k ≤ 4 ∧ iv = .int .i64 k ∧ nv = .int .i64 ((st / 2 ^ (8 * k) : Nat) : Int) ∧ Below w.heap.size w w2 ∧ Row w2 5 w.heap.size 32 (makeK l1 st k)) (fun _ iv _ => 4 - (intOf iv).toNat)
      case atStart => exact ⟨0, Nat.zero_le _, rfl, by simp, hbel, by simpa [makeK, numB, splice] using hrow⟩
      case round =>
        obtain ⟨k, hk, rfl, rfl, hbel2, hrow2⟩ := hrel
        by_cases hlt2 : k < 4
        · have hml := makeK_len l1 st k hl1 hk
          have hd := div_step st k
          have hms := makeK_step l1 st k hl1 hlt2
          have HD2 := Hidden.mk hd
          have hcell1 := hrow2.cell k (by omega)
          have hfr1 := hrow2.frozen k
          have hst1 := hrow2.store k (by omega) (UInt8.ofNat (st / 2 ^ (8 * k) % 256))
          have hbn1 := Row.keepB hbel2 (g := w.heap.size) (p := k) (Nat.le_refl _) (bv (UInt8.ofNat (st / 2 ^ (8 * k) % 256)))
          have hcell2 := hst1.cell (28 + k) (by rw [List.length_set]; omega)
          have hfr2 := hst1.frozen (28 + k)
          have hst2 := hst1.store (28 + k) (by rw [List.length_set]; omega) (UInt8.ofNat (st / 2 ^ (8 * k) % 256))
          have hbn2 := Row.keepB hbn1 (g := w.heap.size) (p := 28 + k) (Nat.le_refl _) (bv (UInt8.ofNat (st / 2 ^ (8 * k) % 256)))
          rw [hms] at hst2
          have hbv : bv (UInt8.ofNat (st / 2 ^ (8 * k) % 256)) = .int .u8 ((st / 2 ^ (8 * k) : Nat) % 256 : Int) := by simp only [bv, ofNat_mod]; rfl
          have hmle : st / 2 ^ (8 * k) ≤ 4294967295 := Nat.le_trans (Nat.div_le_self _ _) h2
          rw [hbv] at hst1 hbn1 hcell2 hfr2 hst2 hbn2
          generalize st / 2 ^ (8 * k) = m at *
          have s1 : IntKind.i64.wrap (28 + (k : Int)) = 28 + (k : Int) := IntWalk.i64_in _ (by omega)
          clear hms hd hbv
          go_wp2_with fail
          go_roundw
          case rel => exact ⟨k + 1, by omega, by go_num, int_i64 (by have := HD2.out; omega), hbn2, hst2⟩
          case measure => simp [intOf]; omega
        · obtain rfl : k = 4 := by omega
          go_wp2_with fail
          go_ret2
          exact ⟨w.heap.size, rfl, Nat.le_refl _, by rw [← HD.out]; exact hrow2, hbel2⟩
theorem refMake_any (st : Int) (A : Option Addr) (n c : Nat) (b : Bytes) (w : World) (hn : b.length = n) (hr : Rd w A b) :
    Calls Tryd.prog 129 #[.int .i64 st, .slice A n c] w fun e w' => ∃ A' c', e = .returned (.tuple #[.slice A' (makeF st b).1.length c', .int .i64 (makeF st b).2]) ∧ Rd w' A' (makeF st b).1 ∧ Below w.heap.size w w' := by
  unfold makeF
  by_cases h1 : st < 1 ∨ 4294967295 < st
  · rw [if_pos h1]
    refine (refMake_e1 st A n c w h1).mono ?_
    rintro e w' ⟨rfl, rfl⟩
    exact ⟨none, 0, rfl, Rd.nil_, Below.refl _ _⟩
  · rw [if_neg h1]
    by_cases h2 : 24 < b.length
    · rw [if_pos h2]
      refine (refMake_e4 st A n c w (by omega) (by omega) (by omega)).mono ?_
      rintro e w' ⟨rfl, rfl⟩
      exact ⟨none, 0, rfl, Rd.nil_, Below.refl _ _⟩
    · rw [if_neg h2]
      obtain ⟨s, rfl⟩ := Int.eq_ofNat_of_zero_le (show 0 ≤ st by omega)
      refine (refMake_ok s A n c b w hn (by omega) (by omega) (by omega) hr).mono ?_
      rintro e w' ⟨g, rfl, hg, hrow, hb⟩
      rw [Int.toNat_natCast]
      exact ⟨some ⟨g, 0, none⟩, 32, by rw [makeB_len _ _ (by omega)]; rfl, hrow.rd, hb⟩
end Go.Proofs.YthlflklamgdkfaaDoor
/- The contracts of the reference's Name, NameBytes and ReadName. -/
namespace Go.Proofs.YthlflklamgdkfaaDoor
open Go.RowKit

theorem isName_bad (s : Bytes) (k : Nat) (hk : k < s.length) (h : notLower s[k] = true) : isName s = false := by
  unfold isName
  rw [List.any_eq_true.2 ⟨s[k], List.getElem_mem hk, h⟩]
  simp
theorem refName_any (s : Bytes) (w : World) (hs : s.length ≤ 140737488351232) :
    Calls Tryd.prog 37 #[sv s] w fun e w' => e = .returned (.bool (isName s)) ∧ w = w' := by
  by_cases h0 : s = []
  · subst h0
    go_enter Tryd.func37, Tryd.ntmps37
    go_wp2
    go_ret
    exact ⟨rfl, rfl⟩
  · have h0' : s.isEmpty = false := by
      cases s with
      | nil => exact absurd rfl h0
      | cons a b => rfl
    by_cases h8 : 8 < s.length
    · have hv : Hidden (false = isName s) := ⟨by simp [isName]; intros; omega⟩
      have t8 : decide ((8 : Int) < s.length) = true := by simp; omega
      clear h0
      go_enter Tryd.func37, Tryd.ntmps37
      go_wp2
      go_ret
      exact ⟨ret_bool hv.out, rfl⟩
    · have t8 : decide ((8 : Int) < s.length) = false := by simp; omega
      clear h0
      go_enter Tryd.func37, Tryd.ntmps37
      go_wp2
      go_loop [3] (fun i => ∃ k : Nat, k ≤ s.length ∧ i = .int .i64 k ∧ Hidden (∀ x ∈ s.take k, notLower x = false)) (fun i => s.length - (intOf i).toNat)
      case atStart => exact ⟨0, Nat.zero_le _, rfl, ⟨by simp⟩⟩
      case round =>
        obtain ⟨k, hk, rfl, hnot⟩ := hrel
        by_cases hlt : k < s.length
        · have k0 : (0 : Int) ≤ k := by omega
          have k1 : (k : Int) < s.length := by omega
          have hix : ((⟨s.toArray⟩ : ByteArray)[k]'(by simpa [ByteArray.size] using hlt)) = s[k] := rfl
          by_cases ha : s[k].toNat < 97
          · have hv : Hidden (false = isName s) := ⟨(isName_bad s k hlt (by simp [notLower, ha])).symm⟩
            have t1 : decide ((s[k].toNat : Int) < 97) = true := by simp; omega
            clear hnot
            go_wp2
            go_ret
            exact ⟨ret_bool hv.out, rfl⟩
          · have t1 : decide ((s[k].toNat : Int) < 97) = false := by simp; omega
            by_cases hb : 122 < s[k].toNat
            · have hv : Hidden (false = isName s) := ⟨(isName_bad s k hlt (by simp [notLower, hb])).symm⟩
              have t2 : decide ((122 : Int) < s[k].toNat) = true := by simp; omega
              clear hnot
              go_wp2
              go_ret
              exact ⟨ret_bool hv.out, rfl⟩
            · have t2 : decide ((122 : Int) < s[k].toNat) = false := by simp; omega
              have hnk : Hidden (∀ x ∈ s.take (k + 1), notLower x = false) := ⟨forall_take_succ hlt hnot.out (by simp [notLower]; omega)⟩
              clear hnot
              go_wp2
              go_round
              case rel => exact ⟨k + 1, by omega, by go_num, hnk⟩
              case measure => simp [intOf]; omega
        · have hv : Hidden (true = isName s) := ⟨by
            have := hnot.out
            rw [List.take_of_length_le (by omega)] at this
            have h3 : s.any notLower = false := by simpa using this
            simp [isName, h3, h0']; omega⟩
          clear hnot
          go_wp2
          go_ret
          exact ⟨ret_bool hv.out, rfl⟩

theorem idxOf_at (l : Bytes) (k : Nat) (hk : k ≤ l.length) (h : ∀ x ∈ l.take k, nonZero x = true) (he : k = l.length ∨ ∃ h' : k < l.length, l[k] = 0) : l.idxOf 0 = k := by
  have hn : (0 : UInt8) ∉ l.take k := fun h0 => by have := h 0 h0; simp [nonZero] at this
  rcases he with rfl | ⟨h', hz⟩
  · rw [List.take_length] at hn
    exact List.idxOf_eq_length hn
  · have := idxB_at l 0 k h' hn hz
    have hm : (0 : UInt8) ∈ l := by rw [← hz]; exact List.getElem_mem h'
    unfold idxB at this
    rw [if_pos hm] at this
    omega
theorem refReadName_e3 (A : Option Addr) (n c : Nat) (w : World) (h8 : n ≠ 8) :
    Calls Tryd.prog 81 #[.slice A n c] w fun e w' => e = .returned (.tuple #[sv [], .int .i64 3]) ∧ w = w' := by
  have h8' : ((n : Int) != 8) = true := by simp; omega
  clear h8
  go_enter Tryd.func81, Tryd.ntmps81
  go_wp2
  go_ret2
  exact ⟨rfl, rfl⟩
set_option maxRecDepth 100000 in
theorem refReadName_any (A : Option Addr) (c : Nat) (l : Bytes) (w : World) (h8 : l.length = 8) (hc : 8 ≤ c) (hr : Rd w A l) :
    Calls Tryd.prog 81 #[.slice A 8 c] w fun e w' => e = .returned (.tuple (if gotName l = true then #[sv (nameAt l), .int .i64 0] else #[sv [], .int .i64 2])) ∧ w = w' := by
  generalize hres : (if gotName l = true then #[sv (nameAt l), .int .i64 0] else #[sv [], .int .i64 2]) = res
  have HRES := Hidden.mk hres
  clear hres
  obtain ⟨p, off, rfl, _⟩ := hr.lt (by omega)
  go_enter Tryd.func81, Tryd.ntmps81
  go_wp2_with fail
  go_loop [4] (fun i => ∃ k : Nat, k ≤ 8 ∧ i = .int .i64 k ∧ Hidden (∀ x ∈ l.take k, nonZero x = true)) (fun i => 8 - (intOf i).toNat)
  case atStart => exact ⟨0, Nat.zero_le _, rfl, ⟨by simp⟩⟩
  case round =>
    obtain ⟨k, hk, rfl, hnot⟩ := hrel
    by_cases hgo : ∃ h : k < l.length, nonZero l[k] = true
    · obtain ⟨hlt, hnz⟩ := hgo
      have hcell := hr.at_ k hlt
      have hb := bv_bne l[k]
      rw [hnz] at hb
      have hnk : Hidden (∀ x ∈ l.take (k + 1), nonZero x = true) := ⟨by
        intro x hx
        rw [List.take_succ_eq_append_getElem hlt, List.mem_append, List.mem_singleton] at hx
        rcases hx with hx | rfl
        · exact hnot.out x hx
        · exact hnz⟩
      have k0 : (0 : Int) ≤ k := by omega
      have k1 : (k : Int) < 8 := by omega
      clear hnz hnot
      go_wp2_with fail
      go_round
      case rel => exact ⟨k + 1, by omega, by go_num, hnk⟩
      case measure => simp [intOf]; omega
    · have hidx : l.idxOf 0 = k := idxOf_at l k (by omega) hnot.out (by
        rcases Nat.lt_or_ge k l.length with h | h
        · right
          refine ⟨h, ?_⟩
          have : ¬ nonZero l[k] = true := fun h2 => hgo ⟨h, h2⟩
          simpa [nonZero] using this
        · left; omega)
      have HNA : Hidden (nameAt l = l.take k) := ⟨by unfold nameAt; rw [hidx]⟩
      have HNR : Hidden (nameRest l = l.drop k) := ⟨by unfold nameRest; rw [hidx]⟩
      clear hnot hidx
      have hk8 : decide (k < 8) = true → ∃ h : k < l.length, (((l[k]).toNat : Int) != 0) = false := fun h => by
        have h' : k < 8 := by simpa using h
        refine ⟨by omega, ?_⟩
        have : ¬ nonZero l[k] = true := fun h2 => hgo ⟨by omega, h2⟩
        rw [bv_bne]; simpa using this
      clear hgo
      have hna : Rd w (some ⟨p, off, none⟩) (l.take k) := hr.take k (by omega)
      have hcv := conv_text w (some ⟨p, off, none⟩) k c (l.take k) (by simp; omega) hna
      have hkl : (l.take k).length ≤ 140737488351232 := by simp; omega
      have kk0 : (0 : Int) ≤ (k : Int) := by omega
      have HNM : Hidden (isName (nameAt l) = isName (l.take k)) := ⟨by rw [HNA.out]⟩
      cases hd : decide (k < 8) with
      | true =>
        obtain ⟨hltl, hz⟩ := hk8 hd
        have hcell := hr.at_ k hltl
        have k1 : (k : Int) < 8 := by have : k < 8 := by simpa using hd
                                      omega
        clear hk8 hd
        go_wp2_with fail
        go_loop [5] (fun i => ∃ j : Nat, k ≤ j ∧ j ≤ 8 ∧ i = .int .i64 j ∧ Hidden (∀ q (h : q < l.length), k ≤ q → q < j → nonZero l[q] = false)) (fun i => 8 - (intOf i).toNat)
        case atStart => exact ⟨k, Nat.le_refl _, hk, rfl, ⟨fun q _ h1 h2 => by omega⟩⟩
        case round =>
          obtain ⟨j, hkj, hj, rfl, hall⟩ := hrel
          by_cases hlt : j < 8
          · have hcj := hr.at_ j (by omega)
            have hb := bv_bne (l[j]'(by omega))
            have j0 : (0 : Int) ≤ j := by omega
            have j1 : (j : Int) < 8 := by omega
            cases hz2 : nonZero (l[j]'(by omega)) with
            | true =>
              rw [hz2] at hb
              have hr2 : Hidden (#[sv [], .int .i64 2] = res) := ⟨by
                rw [← HRES.out, if_neg]
                intro hg
                simp only [gotName, Bool.and_eq_true, Bool.not_eq_true', HNR.out] at hg
                have hm : l[j]'(by omega) ∈ l.drop k := by
                  rw [List.mem_iff_getElem]
                  exact ⟨j - k, by simp; omega, by simp [show k + (j - k) = j from by omega]⟩
                have := List.any_eq_true.2 ⟨_, hm, hz2⟩
                rw [hg.2] at this
                cases this⟩
              clear hz2 hall
              go_wp2_with fail
              go_ret2
              exact ⟨congrArg (fun r => Ending.returned (.tuple r)) hr2.out, rfl⟩
            | false =>
              rw [hz2] at hb
              have hnk : Hidden (∀ q (h : q < l.length), k ≤ q → q < j + 1 → nonZero l[q] = false) := ⟨fun q h h1 h2 => by
                rcases Nat.lt_or_ge q j with h3 | h3
                · exact hall.out q h h1 h3
                · obtain rfl : q = j := by omega
                  exact hz2⟩
              clear hz2 hall
              go_wp2_with fail
              go_round
              case rel => exact ⟨j + 1, by omega, by omega, by go_num, hnk⟩
              case measure => simp [intOf]; omega
          · have hrest : Hidden ((nameRest l).any nonZero = false) := ⟨by
              rw [HNR.out, List.any_eq_false]
              intro x hx
              obtain ⟨q, hq, rfl⟩ := List.mem_iff_getElem.1 hx
              simp at hq
              have := hall.out (k + q) (by omega) (by omega) (by omega)
              simpa using this⟩
            clear hall
            go_wp2_with fail
            refine (refName_any (l.take k) _ hkl).mono ?_
            rintro e w2 ⟨rfl, rfl⟩
            cases hnm : isName (l.take k) with
            | false =>
              have hr2 : Hidden (#[sv [], .int .i64 2] = res) := ⟨by rw [← HRES.out]; simp [gotName, HNM.out, hnm]⟩
              clear hnm
              go_wp2_with fail
              go_ret2
              exact ⟨congrArg (fun r => Ending.returned (.tuple r)) hr2.out, rfl⟩
            | true =>
              have hr2 : Hidden (#[sv (l.take k), .int .i64 0] = res) := ⟨by rw [← HRES.out]; simp [gotName, HNM.out, hnm, hrest.out, HNA.out]⟩
              clear hnm
              go_wp2_with fail
              go_ret2
              exact ⟨congrArg (fun r => Ending.returned (.tuple r)) hr2.out, rfl⟩
      | false =>
        have k1 : ¬ (k : Int) < 8 := by have : ¬ k < 8 := by simpa using hd
                                        omega
        clear hk8 hd
        go_wp2_with fail
        go_loop [5] (fun i => ∃ j : Nat, k ≤ j ∧ j ≤ 8 ∧ i = .int .i64 j ∧ Hidden (∀ q (h : q < l.length), k ≤ q → q < j → nonZero l[q] = false)) (fun i => 8 - (intOf i).toNat)
        case atStart => exact ⟨k, Nat.le_refl _, hk, rfl, ⟨fun q _ h1 h2 => by omega⟩⟩
        case round =>
          obtain ⟨j, hkj, hj, rfl, hall⟩ := hrel
          by_cases hlt : j < 8
          · have hcj := hr.at_ j (by omega)
            have hb := bv_bne (l[j]'(by omega))
            have j0 : (0 : Int) ≤ j := by omega
            have j1 : (j : Int) < 8 := by omega
            cases hz2 : nonZero (l[j]'(by omega)) with
            | true =>
              rw [hz2] at hb
              have hr2 : Hidden (#[sv [], .int .i64 2] = res) := ⟨by
                rw [← HRES.out, if_neg]
                intro hg
                simp only [gotName, Bool.and_eq_true, Bool.not_eq_true', HNR.out] at hg
                have hm : l[j]'(by omega) ∈ l.drop k := by
                  rw [List.mem_iff_getElem]
                  exact ⟨j - k, by simp; omega, by simp [show k + (j - k) = j from by omega]⟩
                have := List.any_eq_true.2 ⟨_, hm, hz2⟩
                rw [hg.2] at this
                cases this⟩
              clear hz2 hall
              go_wp2_with fail
              go_ret2
              exact ⟨congrArg (fun r => Ending.returned (.tuple r)) hr2.out, rfl⟩
            | false =>
              rw [hz2] at hb
              have hnk : Hidden (∀ q (h : q < l.length), k ≤ q → q < j + 1 → nonZero l[q] = false) := ⟨fun q h h1 h2 => by
                rcases Nat.lt_or_ge q j with h3 | h3
                · exact hall.out q h h1 h3
                · obtain rfl : q = j := by omega
                  exact hz2⟩
              clear hz2 hall
              go_wp2_with fail
              go_round
              case rel => exact ⟨j + 1, by omega, by omega, by go_num, hnk⟩
              case measure => simp [intOf]; omega
          · have hrest : Hidden ((nameRest l).any nonZero = false) := ⟨by
              rw [HNR.out, List.any_eq_false]
              intro x hx
              obtain ⟨q, hq, rfl⟩ := List.mem_iff_getElem.1 hx
              simp at hq
              have := hall.out (k + q) (by omega) (by omega) (by omega)
              simpa using this⟩
            clear hall
            go_wp2_with fail
            refine (refName_any (l.take k) _ hkl).mono ?_
            rintro e w2 ⟨rfl, rfl⟩
            cases hnm : isName (l.take k) with
            | false =>
              have hr2 : Hidden (#[sv [], .int .i64 2] = res) := ⟨by rw [← HRES.out]; simp [gotName, HNM.out, hnm]⟩
              clear hnm
              go_wp2_with fail
              go_ret2
              exact ⟨congrArg (fun r => Ending.returned (.tuple r)) hr2.out, rfl⟩
            | true =>
              have hr2 : Hidden (#[sv (l.take k), .int .i64 0] = res) := ⟨by rw [← HRES.out]; simp [gotName, HNM.out, hnm, hrest.out, HNA.out]⟩
              clear hnm
              go_wp2_with fail
              go_ret2
              exact ⟨congrArg (fun r => Ending.returned (.tuple r)) hr2.out, rfl⟩
end Go.Proofs.YthlflklamgdkfaaDoor
/- The reference on images: Image, Handle, Zero, RootAt, Entry, Wipe. -/
namespace Go.Proofs.YthlflklamgdkfaaDoor
open Go.RowKit

theorem ref_right_any (n : Int) (w : World) : Calls Tryd.prog 13 #[.int .i64 n] w fun e w' => e = .returned (.bool (rightB n)) ∧ w = w' := by
  by_cases h1 : 288 ≤ n
  · go_enter Tryd.func13, Tryd.ntmps13
    go_wp2
    go_ret
    exact ⟨ret_bool (by simp [rightB]; intros; omega), rfl⟩
  · go_enter Tryd.func13, Tryd.ntmps13
    go_wp2
    go_ret
    exact ⟨ret_bool (by symm; simp [rightB]; omega), rfl⟩
theorem ref_handle_any (n : Int) (w : World) : Calls Tryd.prog 82 #[.int .i64 n] w fun e w' => e = .returned (.bool (handleB n)) ∧ w = w' := by
  by_cases h1 : 1 ≤ n
  · go_enter Tryd.func82, Tryd.ntmps82
    go_wp2
    go_ret
    exact ⟨ret_bool (by simp [handleB]; intros; omega), rfl⟩
  · go_enter Tryd.func82, Tryd.ntmps82
    go_wp2
    go_ret
    exact ⟨ret_bool (by symm; simp [handleB]; omega), rfl⟩
theorem zeroE_at (l : Bytes) (j : Nat) (hj : j < l.length) (h : nonZero l[j] = true) : zeroE l = false := by
  unfold zeroE
  rw [Bool.not_eq_false', List.any_eq_true]
  exact ⟨l[j], List.getElem_mem hj, h⟩
theorem zeroE_none (l : Bytes) (h : ∀ x ∈ l, nonZero x = false) : zeroE l = true := by
  unfold zeroE
  rw [Bool.not_eq_true', List.any_eq_false]
  intro x hx; rw [h x hx]; simp
theorem refZero_any (A : Option Addr) (n c : Nat) (l : Bytes) (w : World) (hn : l.length = n) (hl : n ≤ 140737488351232) (hr : Rd w A l) :
    Calls Tryd.prog 80 #[.slice A n c] w fun e w' => e = .returned (.bool (zeroE l)) ∧ w = w' := by
  subst hn
  go_enter Tryd.func80, Tryd.ntmps80
  go_wp2
  go_loop [3] (fun i => ∃ j : Nat, j ≤ l.length ∧ i = .int .i64 (j : Int) ∧ Hidden (∀ x ∈ l.take j, nonZero x = false)) (fun i => l.length - (intOf i).toNat)
  case atStart => exact ⟨0, Nat.zero_le _, rfl, ⟨by simp⟩⟩
  case round =>
    obtain ⟨j, hj, rfl, hno⟩ := hrel
    by_cases hlt : j < l.length
    · obtain ⟨b, off, rfl, hc⟩ := hr j (by omega)
      have hz := Hidden.mk (zeroE_at l j hlt)
      have hnext : Hidden (nonZero l[j] = false → ∀ x ∈ l.take (j + 1), nonZero x = false) := ⟨fun h x hx => by
        rw [List.take_succ_eq_append_getElem hlt, List.mem_append, List.mem_singleton] at hx
        rcases hx with hx | rfl
        · exact hno.out x hx
        · exact h⟩
      generalize l[j] = x at *
      have k0 : (0 : Int) ≤ j := by omega
      have k1 : (j : Int) < l.length := by omega
      cases hx : nonZero x with
      | true =>
        have hq : ((x.toNat : Int) != 0) = true := by rw [bv_bne]; exact hx
        go_wp2
        go_ret
        exact ⟨ret_bool (hz.out hx).symm, rfl⟩
      | false =>
        have hq : ((x.toNat : Int) != 0) = false := by rw [bv_bne]; exact hx
        have HN := Hidden.mk (hnext.out hx)
        clear hnext
        go_wp2
        go_round
        case rel => exact ⟨j + 1, by omega, by go_num, HN⟩
        case measure => simp [intOf]; omega
    · obtain rfl : j = l.length := by omega
      have hz := Hidden.mk (zeroE_none l (by have := hno.out; rwa [List.take_of_length_le (Nat.le_refl _)] at this))
      go_wp2
      go_ret
      exact ⟨ret_bool hz.out.symm, rfl⟩
theorem hd_get (r : Bytes) (h : 0 < r.length) : r[0] = rHd r := by
  cases r with
  | nil => simp at h
  | cons x y => rfl
theorem refRootAt_ok (p off n c k : Nat) (w : World) (hk : k < 8) (hn : 288 ≤ n) (hc : n ≤ c) :
    Calls Tryd.prog 79 #[.slice (some ⟨p, off, none⟩) n c, .int .i64 (k : Int)] w fun e w' => e = .returned (.slice (some ⟨p, off + (200 + 11 * k), none⟩) 11 (c - (200 + 11 * k))) ∧ w = w' := by
  have s1 : IntKind.i64.wrap (11 * (k : Int)) = 11 * (k : Int) := IntWalk.i64_in _ (by omega)
  have s2 : IntKind.i64.wrap (200 + 11 * (k : Int)) = ((200 + 11 * k : Nat) : Int) := by rw [IntWalk.i64_in _ (by omega)]; omega
  have s3 : IntKind.i64.wrap (211 + 11 * (k : Int)) = ((211 + 11 * k : Nat) : Int) := by rw [IntWalk.i64_in _ (by omega)]; omega
  have hcut := run_cut p off n c (200 + 11 * k) (211 + 11 * k) (by omega) (by omega) (by omega)
  have e1 : 211 + 11 * k - (200 + 11 * k) = 11 := by omega
  rw [e1] at hcut
  generalize 200 + 11 * k = o1 at *
  generalize 211 + 11 * k = o2 at *
  go_enter Tryd.func79, Tryd.ntmps79
  go_wp2_with fail
  go_ret
  exact ⟨rfl, rfl⟩
def FourAt (w : World) (p : Nat) (a b c d : Int) : Prop := w.cell? ⟨p, 0, none⟩ = some (.int .i64 a) ∧ w.cell? ⟨p, 1, none⟩ = some (.int .i64 b) ∧ w.cell? ⟨p, 2, none⟩ = some (.int .i64 c) ∧ w.cell? ⟨p, 3, none⟩ = some (.int .i64 d)
theorem fourAt_new (w : World) (f : Obj) (a b c d : Int) (t : TypeId) : FourAt ((w.alloc f).alloc (.cells #[.int .i64 a, .int .i64 b, .int .i64 c, .int .i64 d] t)) (w.heap.size + 1) a b c d := by
  have h := heap_alloc_new (w.alloc f) (.cells #[.int .i64 a, .int .i64 b, .int .i64 c, .int .i64 d] t)
  rw [show (w.alloc f).heap.size = w.heap.size + 1 by simp] at h
  unfold FourAt
  simp only [World.cell?]
  rw [h]
  exact ⟨rfl, rfl, rfl, rfl⟩
set_option maxRecDepth 100000 in
theorem refEntry_ok (A : Option Addr) (n c : Nat) (l : Bytes) (k : Nat) (w : World) (hn : l.length = n) (hl : 200 ≤ n) (hnc : n ≤ c) (hrd : Rd w A l) (hk : k < 40) :
    Calls Tryd.prog 77 #[.slice A n c, .int .i64 ((k : Int) + 1)] w fun e w' => e = .returned (.tuple #[entR ((k : Int) + 1) (rawE l k), .bool (hasE (rawE l k))]) ∧ Below w.heap.size w w' := by
  have hRl := rawE_len l k hk (by omega)
  obtain ⟨p, off, rfl, hpl⟩ := hrd.lt (by omega)
  have s1 : IntKind.i64.wrap ((k : Int) + 1 - 1) = (k : Int) := by rw [IntWalk.i64_in _ (by omega)]; omega
  have s2 : IntKind.i64.wrap (5 * (k : Int)) = ((5 * k : Nat) : Int) := by rw [IntWalk.i64_in _ (by omega)]; omega
  have s3 : IntKind.i64.wrap (((5 * k : Nat) : Int) + 1) = ((5 * k + 1 : Nat) : Int) := by rw [IntWalk.i64_in _ (by omega)]; omega
  have s4 : IntKind.i64.wrap (((5 * k : Nat) : Int) + 3) = ((5 * k + 3 : Nat) : Int) := by rw [IntWalk.i64_in _ (by omega)]; omega
  have s5 : IntKind.i64.wrap (((5 * k : Nat) : Int) + 5) = ((5 * k + 5 : Nat) : Int) := by rw [IntWalk.i64_in _ (by omega)]; omega
  have hcut1 := run_cut p off n c (5 * k + 1) (5 * k + 3) (by omega) (by omega) (by omega)
  have hcut3 := run_cut p off n c (5 * k + 3) (5 * k + 5) (by omega) (by omega) (by omega)
  rw [show 5 * k + 3 - (5 * k + 1) = 2 by omega] at hcut1
  rw [show 5 * k + 5 - (5 * k + 3) = 2 by omega] at hcut3
  have k0 : ((5 * k : Nat) : Int) < n := by omega
  have HB : Hidden (∀ W, Below w.heap.size w W → W.cell? ⟨p, off + 5 * k, none⟩ = some (bv (rHd (rawE l k)))) := ⟨fun W hW => by
    have hq := rawE_rd (hrd.below hW) k hk (by omega)
    rw [Option.map_some, Addr.add_lit] at hq
    have h0 := hq.at_ 0 (by rw [hRl]; omega)
    have hh : (rawE l k)[0]'(by omega) = rHd (rawE l k) := hd_get _ _
    rw [hh] at h0
    exact h0⟩
  have H1 : Hidden (∀ W cap, Below w.heap.size w W → Calls Tryd.prog 133 #[.slice (some ⟨p, off + (5 * k + 1), none⟩) 2 cap] W fun e w' => e = .returned (.int .i64 (rAt (rawE l k) : Int)) ∧ W = w') := ⟨fun W cap hW => by
    have h := ((rawE_rd (hrd.below hW) k hk (by omega)).cut 1 2 (by omega))
    rw [Option.map_some, Addr.add_lit, Option.map_some, Addr.add_lit, Nat.add_assoc] at h
    exact number_any _ 2 cap _ W (by simp; omega) (by omega) h⟩
  have H3 : Hidden (∀ W cap, Below w.heap.size w W → Calls Tryd.prog 133 #[.slice (some ⟨p, off + (5 * k + 3), none⟩) 2 cap] W fun e w' => e = .returned (.int .i64 (rLen (rawE l k) : Int)) ∧ W = w') := ⟨fun W cap hW => by
    have h := ((rawE_rd (hrd.below hW) k hk (by omega)).cut 3 2 (by omega))
    rw [Option.map_some, Addr.add_lit, Option.map_some, Addr.add_lit, Nat.add_assoc] at h
    exact number_any _ 2 cap _ W (by simp; omega) (by omega) h⟩
  have HR : Hidden (entR ((k : Int) + 1) (rawE l k) = .agg #[.int .i64 ((k : Int) + 1), .int .i64 (rAt (rawE l k)), .int .i64 (rLen (rawE l k)), .int .i64 (rTag (rawE l k))] ∧ rTag (rawE l k) = ((rHd (rawE l k)).toNat : Int) - 1 ∧ hasE (rawE l k) = (((rHd (rawE l k)).toNat : Int) != 0)) := ⟨rfl, rfl, (bv_bne _).symm⟩
  have hW : Below w.heap.size w (w.alloc (.cells #[.int .i64 0, .int .i64 0, .int .i64 0, .int .i64 0] 137)) := (Below.refl _ _).alloc (Nat.le_refl _) _
  have c0 := HB.out _ hW
  generalize rawE l k = r at *
  generalize 5 * k + 1 = o1 at *
  generalize 5 * k + 3 = o3 at *
  generalize 5 * k + 5 = o5 at *
  generalize 5 * k = o at *
  clear hrd hW hRl
  generalize rHd r = hd at *
  generalize (rAt r : Int) = b1 at *
  generalize (rLen r : Int) = b2 at *
  have hx := u8_lt hd
  have hw0 : IntKind.i64.wrap (hd.toNat : Int) = (hd.toNat : Int) := IntWalk.i64_in _ (by omega)
  have hw1 : IntKind.i64.wrap ((hd.toNat : Int) - 1) = (hd.toNat : Int) - 1 := IntWalk.i64_in _ (by omega)
  go_enter Tryd.func77, Tryd.ntmps77
  go_wp2_with fail
  generalize (hd.toNat : Int) - 1 = tg at *
  have hB2 : Below w.heap.size w ((w.alloc (.cells #[.int .i64 0, .int .i64 0, .int .i64 0, .int .i64 0] 137)).alloc (.cells #[.int .i64 ((k : Int) + 1), .int .i64 0, .int .i64 0, .int .i64 tg] 137)) := ((Below.refl _ _).alloc (Nat.le_refl _) _).alloc (by simp) _
  refine (H1.out _ _ hB2).mono ?_
  rintro e w1 ⟨rfl, rfl⟩
  go_wp2_with fail
  have hB3 : Below w.heap.size w ((w.alloc (.cells #[.int .i64 0, .int .i64 0, .int .i64 0, .int .i64 0] 137)).alloc (.cells #[.int .i64 ((k : Int) + 1), .int .i64 b1, .int .i64 0, .int .i64 tg] 137)) := ((Below.refl _ _).alloc (Nat.le_refl _) _).alloc (by simp) _
  refine (H3.out _ _ hB3).mono ?_
  rintro e w1 ⟨rfl, rfl⟩
  have hB4 : Below w.heap.size w ((w.alloc (.cells #[.int .i64 0, .int .i64 0, .int .i64 0, .int .i64 0] 137)).alloc (.cells #[.int .i64 ((k : Int) + 1), .int .i64 b1, .int .i64 b2, .int .i64 tg] 137)) := ((Below.refl _ _).alloc (Nat.le_refl _) _).alloc (by simp) _
  have dS : ∀ f, ((w.alloc f).alloc (.cells #[.int .i64 ((k : Int) + 1), .int .i64 b1, .int .i64 b2, .int .i64 tg] 137)).cell? ⟨p, off + o, none⟩ = some (bv hd) ∧ FourAt ((w.alloc f).alloc (.cells #[.int .i64 ((k : Int) + 1), .int .i64 b1, .int .i64 b2, .int .i64 tg] 137)) (w.heap.size + 1) ((k : Int) + 1) b1 b2 tg := fun f => ⟨HB.out _ (((Below.refl _ _).alloc (Nat.le_refl _) _).alloc (by simp) _), fourAt_new w f _ _ _ _ _⟩
  unfold FourAt at dS
  have hwp : w.cell? ⟨p, off + o, none⟩ = some (bv hd) := HB.out _ (Below.refl _ _)
  clear hB2 hB3
  go_wp2_with fail
  go_region_held3 (fun W => W.cell? ⟨p, off + o, none⟩ = some (bv hd) ∧ W.cell? ⟨w.heap.size + 1, 0, none⟩ = some (.int .i64 ((k : Int) + 1)) ∧ W.cell? ⟨w.heap.size + 1, 1, none⟩ = some (.int .i64 b1) ∧ W.cell? ⟨w.heap.size + 1, 2, none⟩ = some (.int .i64 b2) ∧ W.cell? ⟨w.heap.size + 1, 3, none⟩ = some (.int .i64 tg)) (first | exact hwp | exact dS _ | exact (dS _).1 | exact (dS _).2.1 | exact (dS _).2.2.1 | exact (dS _).2.2.2.1 | exact (dS _).2.2.2.2) (fail)
  go_wp2_with fail
  refine bodyPost_ret (v := .tuple #[.agg #[.int .i64 ((k : Int) + 1), .int .i64 b1, .int .i64 b2, .int .i64 tg], .bool ((hd.toNat : Int) != 0)]) ?_ rfl ?_
  · simp [results, Tryd.f77, go_sem]
  · refine ⟨?_, (((Below.refl _ _).alloc (Nat.le_refl _) _).alloc (by simp) _).drew⟩
    obtain ⟨h1, h2, h3⟩ := HR.out
    rw [h1, h3, h2]
end Go.Proofs.YthlflklamgdkfaaDoor
/- The reference on images: copied, Wipe. -/
namespace Go.Proofs.YthlflklamgdkfaaDoor
open Go.RowKit

set_option maxRecDepth 100000 in
theorem refCopied_ok (p off n c : Nat) (l : Bytes) (w : World) (hn : l.length = n) (h1 : 1 ≤ n) (hl : n ≤ 140737488351232) (hr : Rd w (some ⟨p, off, none⟩) l) :
    Calls Tryd.prog 116 #[.slice (some ⟨p, off, none⟩) n c] w fun e w' => ∃ g cap, e = .returned (.slice (some ⟨g, 0, none⟩) n cap) ∧ w.heap.size ≤ g ∧ n ≤ cap ∧ Row w' 5 g cap l ∧ Below w.heap.size w w' := by
  obtain ⟨i0, hi0, hz0, hz1, hz2⟩ := info_parts byte_info
  go_enter Tryd.func116, Tryd.ntmps116
  go_wp2_with (at_builtin; refine wpList_append_own _ rfl (.tmp 4) (.tmp 5) _ rfl w.heap.size 5 i0 _ 1 1 Tryd.underlying22 hi0 hz0 hz1 hz2 rfl (by decide) (.slice none 0 0) 0 [] rfl (World.ownsRow_nil _ _ _ _) ⟨p, off, none⟩ n c (l.map bv) rfl (by simp; omega) hr.cells one_bv (by simp only [maxLen]; omega) (by omega) (Nat.le_refl _) ?_; intro v1 w1 hown1 hg1 hnn1)
  have hb1 : Below w.heap.size w w1 := (Below.refl _ _).grown hg1 (Nat.le_refl _) (fun k hk => by simp [Value.ownBlock] at hk)
  have hO : Own w1 w.heap.size 5 v1 l := by unfold Own; simpa [hn] using hown1
  have hne : v1 ≠ .slice none 0 0 := fun h => by
    subst h
    rcases hO.2 with ⟨_, h0⟩ | ⟨g, cap, cur, h, _⟩
    · omega
    · cases h
  obtain ⟨g, cap, hv, hbg, hrow⟩ := Row.of_own hO hne
  rw [hn] at hv
  subst hv
  have hcap := hrow.le.1
  clear hO hne hown1 hg1 hnn1
  go_ret
  exact ⟨g, cap, rfl, hbg, by omega, hrow, hb1⟩
set_option maxRecDepth 100000 in
theorem refWipe_ok (p off n c : Nat) (l : Bytes) (a m : Nat) (w : World) (hn : l.length = n) (h1 : 1 ≤ n) (hl : n ≤ 140737488351232) (hm : a + m ≤ n) (hr : Rd w (some ⟨p, off, none⟩) l) :
    Calls Tryd.prog 83 #[.slice (some ⟨p, off, none⟩) n c, .int .i64 (a : Int), .int .i64 (m : Int)] w fun e w' => ∃ g cap, e = .returned (.slice (some ⟨g, 0, none⟩) n cap) ∧ w.heap.size ≤ g ∧ n ≤ cap ∧ Row w' 5 g cap (splice l a (List.replicate m 0)) ∧ Below w.heap.size w w' := by
  go_enter Tryd.func83, Tryd.ntmps83
  go_wp2_with fail
  refine (refCopied_ok p off n c l _ hn h1 hl hr).mono ?_
  rintro e w1 ⟨g, cap, rfl, hg, hcap, hrow, hb1⟩
  have HZ : Hidden (∀ j, j < m → splice l a ((List.replicate m 0).take j) = splice l a ((List.replicate m 0).take j) ∧ (splice l a ((List.replicate m (0 : UInt8)).take j)).set (a + j) 0 = splice l a ((List.replicate m 0).take (j + 1))) := ⟨fun j hj => ⟨rfl, by
    have := splice_take_succ l (List.replicate m 0) a j (by simpa using hj) (by simp; omega)
    simpa using this⟩⟩
  have HL : Hidden (∀ j, j ≤ m → (splice l a ((List.replicate m 0).take j)).length = n) := ⟨fun j hj => by rw [splice_len _ _ _ (by simp; omega)]; exact hn⟩
  have HF : Hidden (splice l a ((List.replicate m 0).take m) = splice l a (List.replicate m 0)) := ⟨by rw [List.take_of_length_le (by simp)]⟩
  have hrow0 : Row w1 5 g cap (splice l a ((List.replicate m 0).take 0)) := by simpa [splice] using hrow
  generalize hS : (fun j => splice l a ((List.replicate m 0).take j)) = S at *
  have hSj : ∀ j, splice l a ((List.replicate m 0).take j) = S j := fun j => by rw [← hS]
  simp only [hSj] at HZ HL HF hrow0
  clear hS hSj hrow hr
  go_wp2_with fail
  go_loopg [8] m (fun q i wr => ∃ j : Nat, j ≤ m ∧ q = m - j ∧ i = .int .i64 (j : Int) ∧ Below w.heap.size w wr ∧ Row wr 5 g cap (S j))
  case atStart => exact ⟨0, by omega, rfl, rfl, hb1, hrow0⟩
  case round =>
    obtain ⟨j, hj, rfl, rfl, hbel, hrw⟩ := hrel
    by_cases hlt : j < m
    · have hsl := HL.out j hj
      have hcell := hrw.cell (a + j) (by omega)
      have hfr := hrw.frozen (a + j)
      have hst := hrw.store (a + j) (by omega) 0
      rw [(HZ.out j hlt).2] at hst
      have hbn := hbel.setCell (p := ⟨g, a + j, none⟩) hg (bv 0)
      have hbv : bv 0 = .int .u8 0 := rfl
      rw [hbv] at hst hbn
      have q1 : IntKind.i64.wrap ((a : Int) + j) = (a : Int) + j := IntWalk.i64_in _ (by omega)
      have k0 : (0 : Int) ≤ (a : Int) + j := by omega
      have k1 : (a : Int) + j < n := by omega
      have k2 : (j : Int) < m := by omega
      generalize (S j)[a + j] = u at hcell
      clear hbv hrw hsl
      go_wp2_with fail
      go_roundg (m - (j + 1))
      case measure => omega
      case rel => exact ⟨j + 1, by omega, rfl, by go_num, hbn, hst⟩
    · obtain rfl : j = m := by omega
      go_wp2_with fail
      go_ret
      exact ⟨g, cap, rfl, hg, hcap, HF.out ▸ hrw, hbel⟩
end Go.Proofs.YthlflklamgdkfaaDoor
/- The reference on images: Entries, Roots. -/
namespace Go.Proofs.YthlflklamgdkfaaDoor
open Go.RowKit

set_option maxRecDepth 100000 in
theorem refRoots_ok (pb ob n c : Nat) (l : Bytes) (w : World) (hn : l.length = n) (hr : rightB n = true) (hnc : n ≤ c) (hrd : Rd w (some ⟨pb, ob, none⟩) l) :
    Calls Tryd.prog 43 #[.slice (some ⟨pb, ob, none⟩) n c] w fun e w' => ∃ v, e = .returned v ∧ w'.ownsRow w.heap.size 76 2 v (rootsL l).length ((rootsL l).flatMap rcells) ∧ Below w.heap.size w w' := by
  have hnb := rightB_true.1 hr
  obtain ⟨i2, hi2, hx0, hx1, hx2⟩ := info_parts root_info
  have HRAW : Hidden (∀ k : Nat, k < 8 → ∀ W, Below w.heap.size w W → Rd W (some ⟨pb, ob + (200 + 11 * k), none⟩) (rawR l k)) := ⟨fun k hk W hW => by
    have := rawR_rd (hrd.below hW) k hk (by omega)
    rwa [Option.map_some, Addr.add_lit] at this⟩
  have HLEN : Hidden (∀ k : Nat, k < 8 → (rawR l k).length = 11) := ⟨fun k hk => rawR_len l k hk (by omega)⟩
  have HL : Hidden (rootsL l = rootsF (rawR l) 8) := ⟨rfl⟩
  generalize rawR l = S at *
  clear hrd hn
  go_enter Tryd.func43, Tryd.ntmps43
  go_wp2_with fail
  go_loopg [3, 4] 8 (fun m v i wr => ∃ k : Nat, k ≤ 8 ∧ m = 8 - k ∧ i = .int .i64 (k : Int) ∧ Below w.heap.size w wr ∧ wr.ownsRow w.heap.size 76 2 v (rootsF S k).length ((rootsF S k).flatMap rcells))
  case atStart => exact ⟨0, by omega, rfl, rfl, Below.refl _ _, World.ownsRow_nil _ _ _ _⟩
  case round =>
    obtain ⟨k, hk, rfl, rfl, hbel, hown⟩ := hrel
    by_cases hlt : k < 8
    · have k0 : (k : Int) < 8 := by omega
      have s1 : IntKind.i64.wrap ((k : Int) + 1) = (k : Int) + 1 := IntWalk.i64_in _ (by omega)
      have hll := rootsF_len S k
      have HS := Hidden.mk (rootsF_succ S k)
      have hrw := HRAW.out k hlt wr hbel
      have hlen := HLEN.out k hlt
      obtain ⟨p, off, hA, hpl⟩ := hrw.lt (by omega)
      injection hA with hA
      injection hA with hp1 ho1
      subst hp1
      have HA := Hidden.mk ho1
      rw [ho1] at hrw
      have q10 := hrw.at_ 10 (by omega)
      have g10 : (S k).getD 10 0 = (S k)[10]'(by omega) := by simp [hlen]
      have HP : Hidden (rootP (S k) = (if gotName ((S k).take 8) = true then nmR (S k) else [], ((S k)[10]'(by omega)).toNat)) := ⟨by unfold rootP; rw [g10]⟩
      have HLK := Hidden.mk hlen
      generalize (S k)[10]'(by omega) = x10 at *
      generalize rootsF S k = L at *
      have w10 : IntKind.i64.wrap (x10.toNat : Int) = (x10.toNat : Int) := IntWalk.i64_in _ (by have := u8_lt x10; omega)
      generalize hcc : c - (200 + 11 * k) = cc at *
      have hc8 : 8 ≤ cc := by omega
      have HCC := Hidden.mk hcc
      clear ho1 g10 hcc hlen
      go_wp2_with fail
      refine (refRootAt_ok pb ob n c k _ hlt (by omega) hnc).mono ?_
      rintro e w1 ⟨rfl, rfl⟩
      rw [HA.out, HCC.out]
      go_wp2_with fail
      refine (refZero_any _ 11 _ (S k) _ HLK.out (by omega) hrw).mono ?_
      rintro e w1 ⟨rfl, rfl⟩
      cases hz : zeroE (S k) with
      | true =>
        rw [hz] at HS
        clear hz q10
        go_wp2_with fail
        go_roundg (8 - (k + 1))
        case measure => omega
        case rel => exact ⟨k + 1, by omega, rfl, by go_num, hbel, by rw [HS.out]; simpa using hown⟩
      | false =>
        rw [hz] at HS
        clear hz
        go_wp2_with fail
        refine (refReadName_any (some ⟨pb, off, none⟩) cc ((S k).take 8) _ (by simp [HLK.out]) hc8 (hrw.take 8 (by rw [HLK.out]; omega))).mono ?_
        rintro e w3 ⟨he, rfl⟩
        have hb3 := Below.refl wr.heap.size wr
        have hB3 := hbel.trans (hb3.mono hbel.size)
        have hown3 := own_below hown hb3
        have z10 := (hb3.cell (p := ⟨pb, off + 10, none⟩) hpl).trans q10
        clear hb3 hbel hown q10 hpl hrw
        cases hg : gotName ((S k).take 8)
        all_goals
          rw [hg] at he HP
          first | simp only [Bool.false_eq_true, if_false] at he | simp only [if_true] at he
          subst he
          have HG := Hidden.mk hg
          clear hg
        case false =>
          go_wp2_with (at_builtin; refine wpList_append_lies _ rfl (.tmp 25) (.tmp 32) _ rfl w.heap.size 76 i2 _ 2 24 Tryd.underlying70 hi2 hx0 hx1 hx2 rfl (by decide) u3 L.length (L.flatMap rcells) rfl (own_below hown3 ((Below.refl _ _).alloc (Nat.le_refl _) _)) ⟨wr.heap.size, 0, none⟩ 1 1 [sv [], .int .i64 x10.toNat] rfl rfl (World.news_of_block (cs := #[sv [], .int .i64 x10.toNat]) (t := 76) (fr := (0, 0)) (heap_alloc_new wr _)) (by simp [Value.oneCell']) (by omega) (by simp only [maxLen]; omega) (by omega) (by have := hB3.size; simp; omega) (wr.heap.size + 1) (by simp) ?_; intro g8 cap8 w8 hown8 hg8 hat8 hlt8)
          have hgW := grown_trans' ((Below.refl _ _).alloc (Nat.le_refl _) _) hg8
          have hB8 : Below w.heap.size w w8 := hB3.grown hgW hB3.size (fun q hq => (hown3.lt q hq).1)
          have hpp := HP.out
          simp only [Bool.false_eq_true, if_false] at hpp
          have HPP := Hidden.mk hpp
          clear hown3 hB3 hg8 hgW hat8 hlt8 hpp
          go_roundg (8 - (k + 1))
          case measure => omega
          case rel => exact ⟨k + 1, by omega, rfl, by go_num, hB8, by rw [HS.out, HPP.out]; simpa [rcells] using hown8⟩
        case true =>
          have hpp := HP.out
          simp only [if_true] at hpp
          have HPP := Hidden.mk hpp
          have HNM : Hidden (nmR (S k) = nameAt ((S k).take 8)) := ⟨rfl⟩
          generalize nameAt ((S k).take 8) = nm at *
          clear hpp
          go_wp2_with (at_builtin; refine wpList_append_lies _ rfl (.tmp 25) (.tmp 32) _ rfl w.heap.size 76 i2 _ 2 24 Tryd.underlying70 hi2 hx0 hx1 hx2 rfl (by decide) u3 L.length (L.flatMap rcells) rfl (own_below hown3 ((Below.refl _ _).alloc (Nat.le_refl _) _)) ⟨wr.heap.size, 0, none⟩ 1 1 [sv nm, .int .i64 x10.toNat] rfl rfl (World.news_of_block (cs := #[sv nm, .int .i64 x10.toNat]) (t := 76) (fr := (0, 0)) (heap_alloc_new wr _)) (by simp [Value.oneCell']) (by omega) (by simp only [maxLen]; omega) (by omega) (by have := hB3.size; simp; omega) (wr.heap.size + 1) (by simp) ?_; intro g8 cap8 w8 hown8 hg8 hat8 hlt8)
          have hgW := grown_trans' ((Below.refl _ _).alloc (Nat.le_refl _) _) hg8
          have hB8 : Below w.heap.size w w8 := hB3.grown hgW hB3.size (fun q hq => (hown3.lt q hq).1)
          clear hown3 hB3 hg8 hgW hat8 hlt8
          go_roundg (8 - (k + 1))
          case measure => omega
          case rel => exact ⟨k + 1, by omega, rfl, by go_num, hB8, by rw [HS.out, HPP.out, HNM.out]; simpa [rcells] using hown8⟩
    · obtain rfl : k = 8 := by omega
      go_wp2_with fail
      go_ret
      exact ⟨_, rfl, by rw [HL.out]; exact hown, hbel⟩

end Go.Proofs.YthlflklamgdkfaaDoor
/- The reference on images: PutEntry. -/
namespace Go.Proofs.YthlflklamgdkfaaDoor
open Go.RowKit

theorem refPut_fit (A : Option Addr) (n c : Nat) (l : Bytes) (a x s : Nat) (w : World) (hn : l.length = n) (hl : n ≤ 140737488351232) (hr : Rd w A l) (h1 : 1 ≤ s) (h4 : s ≤ 4) (hx : (x : Int) ≤ mostN (s : Int)) (ha : a + s ≤ n) :
    Calls Tryd.prog 134 #[.slice A n c, .int .i64 (a : Int), .int .i64 (x : Int), .int .i64 (s : Int)] w fun e w' => ∃ A' c', e = .returned (.tuple #[.slice A' n c', .int .i64 0]) ∧ Rd w' A' (splice l a (numB x s)) ∧ Below w.heap.size w w' := by
  have hE : putE n (a : Int) (x : Int) (s : Int) = 0 := by
    unfold putE; rw [if_pos ⟨by omega, by omega, by omega, hx⟩, if_neg (by omega)]
  have hF : putF l (a : Int) (x : Int) (s : Int) = splice l a (numB x s) := by
    unfold putF; rw [hn, if_pos hE]; rfl
  have hL : (splice l a (numB x s)).length = n := by rw [splice_len _ _ _ (by rw [numB_length]; omega)]; exact hn
  refine (refPut_any A n c l a x s w hn hl hr).mono ?_
  rintro e w' ⟨A', c', rfl, hrd, hb⟩
  rw [hF, hE, hL]
  rw [hF] at hrd
  exact ⟨A', c', rfl, hrd, hb⟩
theorem entV_cells (h a b t : Int) : (entV h a b t) = .agg #[.int .i64 h, .int .i64 a, .int .i64 b, .int .i64 t] := rfl
theorem fourAt_one (w : World) (a b c d : Int) (t : TypeId) : FourAt (w.alloc (.cells #[.int .i64 a, .int .i64 b, .int .i64 c, .int .i64 d] t)) w.heap.size a b c d := by
  have h := heap_alloc_new w (.cells #[.int .i64 a, .int .i64 b, .int .i64 c, .int .i64 d] t)
  unfold FourAt
  simp only [World.cell?]
  rw [h]
  exact ⟨rfl, rfl, rfl, rfl⟩
theorem FourAt.below {w w' : World} {p : Nat} {a b c d : Int} (h : FourAt w p a b c d) (hb : Below w.heap.size w w') : FourAt w' p a b c d := by
  have hlt := block_lt_of_cell h.1
  exact ⟨(hb.cell (p := ⟨p, 0, none⟩) hlt).trans h.1, (hb.cell (p := ⟨p, 1, none⟩) hlt).trans h.2.1, (hb.cell (p := ⟨p, 2, none⟩) hlt).trans h.2.2.1, (hb.cell (p := ⟨p, 3, none⟩) hlt).trans h.2.2.2⟩
/-- the fault of an entry that is put -/
def entE (n : Nat) (h a len tag : Int) : Nat := if handleB h = false ∨ tagB tag = false ∨ lenB len = false then 1 else if withinB n a len = false then 3 else 0
def entF (l : Bytes) (h a len tag : Int) : Bytes := if entE l.length h a len tag = 0 then putEnt l h a len tag else []
theorem refPutEntry_e1 (A : Option Addr) (n c : Nat) (h a len tag : Int) (w : World) (hbad : handleB h = false ∨ tagB tag = false ∨ lenB len = false) :
    Calls Tryd.prog 78 #[.slice A n c, entV h a len tag] w fun e w' => e = .returned (.tuple #[.slice none 0 0, .int .i64 1]) ∧ Below w.heap.size w w' := by
  have hB : Below w.heap.size w (w.alloc (.cells #[.int .i64 h, .int .i64 a, .int .i64 len, .int .i64 tag] 137)) := (Below.refl _ _).alloc (Nat.le_refl _) _
  unfold entV
  go_enter Tryd.func78, Tryd.ntmps78
  go_wp2_with fail
  refine (ref_handle_any h _).mono ?_
  rintro e w1 ⟨rfl, rfl⟩
  cases hh : handleB h with
  | false =>
    clear hbad hh
    go_wp2_with fail
    go_ret2
    exact ⟨rfl, hB⟩
  | true =>
    rw [hh] at hbad
    have hb2 : tag < 0 ∨ 15 < tag ∨ len < 1 ∨ 1000 < len := by
      rcases hbad with h1 | h1 | h1
      · cases h1
      · have := tagB_false.1 h1; omega
      · have := lenB_false.1 h1; omega
    clear hbad hh
    by_cases t1 : tag < 0
    · clear hb2
      go_wp2_with fail
      go_ret2
      exact ⟨rfl, hB⟩
    · by_cases t2 : 15 < tag
      · clear hb2
        go_wp2_with fail
        go_ret2
        exact ⟨rfl, hB⟩
      · by_cases t3 : len < 1
        · clear hb2
          go_wp2_with fail
          go_ret2
          exact ⟨rfl, hB⟩
        · have t4 : 1000 < len := by omega
          clear hb2
          go_wp2_with fail
          go_ret2
          exact ⟨rfl, hB⟩
theorem refPutEntry_e3 (A : Option Addr) (n c : Nat) (h a len tag : Int) (w : World) (hn : n ≤ 6400) (hh : handleB h = true) (ht : tagB tag = true) (hl : lenB len = true) (hw : withinB n a len = false) :
    Calls Tryd.prog 78 #[.slice A n c, entV h a len tag] w fun e w' => e = .returned (.tuple #[.slice none 0 0, .int .i64 3]) ∧ Below w.heap.size w w' := by
  have hB : Below w.heap.size w (w.alloc (.cells #[.int .i64 h, .int .i64 a, .int .i64 len, .int .i64 tag] 137)) := (Below.refl _ _).alloc (Nat.le_refl _) _
  have htb := tagB_true.1 ht
  have hlb := lenB_true.1 hl
  have hbad : a < 288 ∨ (n : Int) < len ∨ (n : Int) - len < a := by
    simp only [withinB, Bool.and_eq_false_iff, decide_eq_false_iff_not] at hw; omega
  have t1 : decide (tag < 0) = false := by simp; omega
  have t2 : decide (15 < tag) = false := by simp; omega
  have t3 : decide (len < 1) = false := by simp; omega
  have t4 : decide (1000 < len) = false := by simp; omega
  unfold entV
  go_enter Tryd.func78, Tryd.ntmps78
  go_wp2_with fail
  refine (ref_handle_any h _).mono ?_
  rintro e w1 ⟨rfl, rfl⟩
  rw [hh]
  clear hw ht hl hh
  by_cases q1 : a < 288
  · clear hbad htb hlb
    go_wp2_with fail
    go_ret2
    exact ⟨rfl, hB⟩
  · by_cases q2 : (n : Int) < a
    · clear hbad htb hlb
      go_wp2_with fail
      go_ret2
      exact ⟨rfl, hB⟩
    · have s1 : IntKind.i64.wrap ((n : Int) - a) = (n : Int) - a := IntWalk.i64_in _ (by omega)
      have q3 : (n : Int) - a < len := by omega
      clear hbad htb hlb
      go_wp2_with fail
      go_ret2
      exact ⟨rfl, hB⟩
def PutAt (n : Nat) (o : Nat) (x s : Int) (l l' : Bytes) : Prop := ∀ (A : Option Addr) (c : Nat) (W : World), Rd W A l → Calls Tryd.prog 134 #[.slice A n c, .int .i64 (o : Int), .int .i64 x, .int .i64 s] W fun e w' => ∃ A' c', e = .returned (.tuple #[.slice A' n c', .int .i64 0]) ∧ Rd w' A' l' ∧ Below W.heap.size W w'
theorem putAt (n o x s : Nat) (l : Bytes) (hn : l.length = n) (hl : n ≤ 140737488351232) (h1 : 1 ≤ s) (h4 : s ≤ 4) (hx : (x : Int) ≤ mostN (s : Int)) (ha : o + s ≤ n) : PutAt n o (x : Int) (s : Int) l (splice l o (numB x s)) :=
  fun A c W hW => refPut_fit A n c l o x s W hn hl hW h1 h4 hx ha
set_option maxRecDepth 100000 in
theorem refPutEntry_walk (A : Option Addr) (n c k o o1 o3 t tt b m : Nat) (l l1 l2 l3 : Bytes) (w : World) (hrd : Rd w A l) (hh : handleB ((k : Int) + 1) = true)
    (s0 : IntKind.i64.wrap (k : Int) = (k : Int)) (s1 : IntKind.i64.wrap (5 * (k : Int)) = (o : Int)) (s2 : IntKind.i64.wrap ((t : Int) + 1) = (tt : Int))
    (s3 : IntKind.i64.wrap ((o : Int) + 1) = (o1 : Int)) (s4 : IntKind.i64.wrap ((o : Int) + 3) = (o3 : Int)) (ht : t ≤ 15) (hm1 : 1 ≤ m) (hm : m ≤ 1000) (hb : 288 ≤ b) (hbn : b + m ≤ n) (hn : n ≤ 6400)
    (c1 : PutAt n o tt 1 l l1) (c2 : PutAt n o1 b 2 l1 l2) (c3 : PutAt n o3 m 2 l2 l3) :
    Calls Tryd.prog 78 #[.slice A n c, entV ((k : Int) + 1) b m t] w fun e w' => ∃ A' c', e = .returned (.tuple #[.slice A' n c', .int .i64 0]) ∧ Rd w' A' l3 ∧ Below w.heap.size w w' := by
  have hB : Below w.heap.size w (w.alloc (.cells #[.int .i64 ((k : Int) + 1), .int .i64 b, .int .i64 m, .int .i64 t] 137)) := (Below.refl _ _).alloc (Nat.le_refl _) _
  have hF0 := fourAt_one w ((k : Int) + 1) b m t 137
  have s5 : IntKind.i64.wrap ((n : Int) - b) = (n : Int) - b := IntWalk.i64_in _ (by omega)
  have t1 : decide ((t : Int) < 0) = false := by simp
  have t2 : decide (15 < (t : Int)) = false := by simp; omega
  have t2' : decide (15 < t) = false := by simp; omega
  have t3 : decide ((m : Int) < 1) = false := by simp; omega
  have t3' : decide (m < 1) = false := by simp; omega
  have t4 : decide (1000 < (m : Int)) = false := by simp; omega
  have t4' : decide (1000 < m) = false := by simp; omega
  have t5 : decide ((b : Int) < 288) = false := by simp; omega
  have t5' : decide (b < 288) = false := by simp; omega
  have t6 : decide ((n : Int) < b) = false := by simp; omega
  have t6' : decide (n < b) = false := by simp; omega
  have t7 : decide ((n : Int) - b < m) = false := by simp; omega
  have hr0 := hrd.below hB
  have C1 := Hidden.mk c1
  have C2 := Hidden.mk c2
  have C3 := Hidden.mk c3
  clear ht hm1 hm hb hbn hn c1 c2 c3 hrd
  unfold entV
  go_enter Tryd.func78, Tryd.ntmps78
  go_wp2_with fail
  refine (ref_handle_any _ _).mono ?_
  rintro e w1 ⟨rfl, rfl⟩
  rw [hh]
  clear hh
  go_wp2_with fail
  generalize w.alloc (.cells #[.int .i64 ((k : Int) + 1), .int .i64 (b : Int), .int .i64 (m : Int), .int .i64 (t : Int)] 137) = w0 at *
  refine (C1.out A c _ hr0).mono ?_
  rintro e w1 ⟨A1, c1, rfl, hr1, hb1⟩
  have hF1 := hF0.below hb1
  have hB1 := hB.trans (hb1.mono hB.size)
  have HF1 := Hidden.mk hF1
  obtain ⟨x0, x1, x2, x3⟩ := hF1
  clear hb1 hF0
  go_wp2_with fail
  refine (C2.out A1 c1 _ hr1).mono ?_
  rintro e w2 ⟨A2, c2, rfl, hr2, hb2⟩
  have hF2 := HF1.out.below hb2
  have hB2 := hB1.trans (hb2.mono hB1.size)
  obtain ⟨y0, y1, y2, y3⟩ := hF2
  clear hb2 x0 x1 x2 x3
  go_wp2_with fail
  refine (C3.out A2 c2 _ hr2).mono ?_
  rintro e w3 ⟨A3, c3, rfl, hr3, hb3⟩
  have hB3 := hB2.trans (hb3.mono hB2.size)
  clear hb3 y0 y1 y2 y3
  go_wp2_with fail
  go_ret2
  exact ⟨A3, c3, rfl, hr3, hB3⟩
theorem putEnt_three (l : Bytes) (k t b m : Nat) (h : 5 * k + 5 ≤ l.length) (ht : t ≤ 15) : putEnt l ((k : Int) + 1) (b : Int) (m : Int) (t : Int) = splice (splice (splice l (5 * k) (numB (t + 1) 1)) (5 * k + 1) (numB b 2)) (5 * k + 3) (numB m 2) := by
  have e1 := splice_join l (numB (t + 1) 1) (numB b 2) (5 * k) (by rw [numB_length, numB_length]; omega)
  have e2 := splice_join l (numB (t + 1) 1 ++ numB b 2) (numB m 2) (5 * k) (by rw [List.length_append, numB_length, numB_length, numB_length]; omega)
  rw [List.length_append, numB_length, numB_length] at e2
  rw [numB_length] at e1
  rw [e1, show 5 * k + 3 = 5 * k + (1 + 2) by omega, e2]
  unfold putEnt entB
  rw [entO_k]
  have hm : numB (t + 1) 1 = [UInt8.ofNat (t + 1)] := by
    show [UInt8.ofNat ((t + 1) % 256)] = _
    rw [Nat.mod_eq_of_lt (by omega)]
  rw [hm]
  rfl
theorem refPutEntry_ok (A : Option Addr) (n c : Nat) (l : Bytes) (h a len tag : Int) (w : World) (hln : l.length = n) (hr : rightB n = true) (hrd : Rd w A l) (hh : handleB h = true) (ht : tagB tag = true) (hl : lenB len = true) (hw : withinB n a len = true) :
    Calls Tryd.prog 78 #[.slice A n c, entV h a len tag] w fun e w' => ∃ A' c', e = .returned (.tuple #[.slice A' n c', .int .i64 0]) ∧ Rd w' A' (putEnt l h a len tag) ∧ Below w.heap.size w w' := by
  have htb := tagB_true.1 ht
  have hlb := lenB_true.1 hl
  have hhb := handleB_true.1 hh
  have hwb := withinB_true.1 hw
  have hnb := rightB_true.1 hr
  obtain ⟨k, rfl⟩ : ∃ k : Nat, h = (k : Int) + 1 := ⟨(h - 1).toNat, by omega⟩
  obtain ⟨t, rfl⟩ := Int.eq_ofNat_of_zero_le (show 0 ≤ tag by omega)
  obtain ⟨b, rfl⟩ := Int.eq_ofNat_of_zero_le (show 0 ≤ a by omega)
  obtain ⟨m, rfl⟩ := Int.eq_ofNat_of_zero_le (show 0 ≤ len by omega)
  rw [putEnt_three l k t b m (by omega) (by omega)]
  have hl1 : (splice l (5 * k) (numB (t + 1) 1)).length = n := by rw [splice_len _ _ _ (by rw [numB_length]; omega)]; exact hln
  have hl2 : (splice (splice l (5 * k) (numB (t + 1) 1)) (5 * k + 1) (numB b 2)).length = n := by rw [splice_len _ _ _ (by rw [numB_length, hl1]; omega)]; exact hl1
  have hm1 : mostN ((1 : Nat) : Int) = 255 := rfl
  have hm2 : mostN ((2 : Nat) : Int) = 65535 := rfl
  exact refPutEntry_walk A n c k (5 * k) (5 * k + 1) (5 * k + 3) t (t + 1) b m l _ _ _ w hrd hh (IntWalk.i64_in _ (by omega)) (by rw [IntWalk.i64_in _ (by omega)]; omega) (by rw [IntWalk.i64_in _ (by omega)]; omega) (by rw [IntWalk.i64_in _ (by omega)]; omega) (by rw [IntWalk.i64_in _ (by omega)]; omega)
    (by omega) (by omega) (by omega) (by omega) (by omega) (by omega)
    (putAt n (5 * k) (t + 1) 1 l hln (by omega) (by omega) (by omega) (by rw [hm1]; omega) (by omega))
    (putAt n (5 * k + 1) b 2 _ hl1 (by omega) (by omega) (by omega) (by rw [hm2]; omega) (by omega))
    (putAt n (5 * k + 3) m 2 _ hl2 (by omega) (by omega) (by omega) (by rw [hm2]; omega) (by omega))
theorem refPutEntry_any (A : Option Addr) (n c : Nat) (l : Bytes) (h a len tag : Int) (w : World) (hln : l.length = n) (hr : rightB n = true) (hrd : Rd w A l) :
    Calls Tryd.prog 78 #[.slice A n c, entV h a len tag] w fun e w' => RowAns w w' e (entF l h a len tag) (.int .i64 (entE n h a len tag)) := by
  unfold entF
  rw [hln]
  by_cases hbad : handleB h = false ∨ tagB tag = false ∨ lenB len = false
  · have hE : entE n h a len tag = 1 := by unfold entE; rw [if_pos hbad]
    rw [hE]
    exact (refPutEntry_e1 A n c h a len tag w hbad).mono fun e w' ⟨he, hb⟩ => ⟨none, 0, he, Rd.nil_, hb⟩
  · have h1 : handleB h = true := by cases hx : handleB h <;> simp_all
    have h2 : tagB tag = true := by cases hx : tagB tag <;> simp_all
    have h3 : lenB len = true := by cases hx : lenB len <;> simp_all
    cases hw : withinB n a len with
    | false =>
      have hE : entE n h a len tag = 3 := by unfold entE; rw [if_neg hbad, if_pos hw]
      rw [hE]
      exact (refPutEntry_e3 A n c h a len tag w (by have := rightB_true.1 hr; omega) h1 h2 h3 hw).mono fun e w' ⟨he, hb⟩ => ⟨none, 0, he, Rd.nil_, hb⟩
    | true =>
      have hE : entE n h a len tag = 0 := by unfold entE; rw [if_neg hbad, if_neg (by simp [hw])]
      have hL : (putEnt l h a len tag).length = n := by rw [putEnt_len _ _ _ _ _ (handleB_true.1 h1).1 (handleB_true.1 h1).2 (by have := rightB_true.1 hr; omega)]; exact hln
      rw [hE, if_pos rfl]
      refine (refPutEntry_ok A n c l h a len tag w hln hr hrd h1 h2 h3 hw).mono ?_
      rintro e w' ⟨A', c', rfl, hrd', hb⟩
      exact ⟨A', c', by rw [hL]; rfl, hrd', hb⟩
/-- the program's Put, told likewise -/
theorem iput_ans (A : Option Addr) (n c : Nat) (l : Bytes) (h a len tag : Int) (w : World) (hln : l.length = n) (hnc : n ≤ c) (hr : rightB n = true) (hrd : Rd w A l) :
    Calls Tryd.prog 153 #[.slice A n c, entV h a len tag] w fun e w' => RowAns w w' e (entF l h a len tag) (errV (entE n h a len tag)) := by
  unfold entF
  rw [hln]
  by_cases hbad : handleB h = false ∨ tagB tag = false ∨ lenB len = false
  · have hE : entE n h a len tag = 1 := by unfold entE; rw [if_pos hbad]
    rw [hE]
    exact (iput_e1 A n c h a len tag w hr hbad).mono fun e w' ⟨he, hb⟩ => ⟨none, 0, he, Rd.nil_, hb⟩
  · have h1 : handleB h = true := by cases hx : handleB h <;> simp_all
    have h2 : tagB tag = true := by cases hx : tagB tag <;> simp_all
    have h3 : lenB len = true := by cases hx : lenB len <;> simp_all
    cases hw : withinB n a len with
    | false =>
      have hE : entE n h a len tag = 3 := by unfold entE; rw [if_neg hbad, if_pos hw]
      rw [hE]
      exact (iput_e3w A n c h a len tag w hr h1 h2 h3 hw).mono fun e w' ⟨he, hb⟩ => ⟨none, 0, he, Rd.nil_, hb⟩
    | true =>
      have hE : entE n h a len tag = 0 := by unfold entE; rw [if_neg hbad, if_neg (by simp [hw])]
      have hL : (putEnt l h a len tag).length = n := by rw [putEnt_len _ _ _ _ _ (handleB_true.1 h1).1 (handleB_true.1 h1).2 (by have := rightB_true.1 hr; omega)]; exact hln
      rw [hE, if_pos rfl]
      refine (iput_ok A n c l h a len tag w hln hnc hrd hr h1 h2 h3 hw).mono ?_
      rintro e w' ⟨g, cap, rfl, hg, hrow, hb⟩
      exact ⟨some ⟨g, 0, none⟩, cap, by rw [hL]; rfl, hrow.rd, hb⟩
end Go.Proofs.YthlflklamgdkfaaDoor
/- The reference on images: PutRoot. -/
namespace Go.Proofs.YthlflklamgdkfaaDoor
open Go.RowKit

/-- the fault of a root that is put -/
def rootE (i : Int) (s : Bytes) (h : Int) : Nat := if i < 0 ∨ 8 ≤ i then 1 else if s = [] ∧ h = 0 then 0 else if handleB h = false then 1 else if isName s = false then 2 else 0
def rootF (l : Bytes) (i : Int) (s : Bytes) (h : Int) : Bytes := if rootE i s h = 0 then splice l (rootO i) (if s = [] ∧ h = 0 then List.replicate 11 0 else rootB s h) else []
theorem rootB_get (s : Bytes) (h : Int) (h8 : s.length ≤ 8) (q : Nat) : (rootB s h)[q]? = if q < s.length then s[q]? else if q < 10 then some 0 else if q = 10 then some (UInt8.ofNat h.toNat) else none := by
  unfold rootB nameB
  by_cases h1 : q < s.length
  · rw [if_pos h1, List.append_assoc, List.getElem?_append_left h1]
  · rw [if_neg h1, List.append_assoc, List.getElem?_append_right (by omega)]
    have he : ∀ r, r < 10 - s.length → ((List.replicate (8 - s.length) (0 : UInt8)) ++ [0, 0, UInt8.ofNat h.toNat])[r]? = some 0 := fun r hr => by
      by_cases h2 : r < 8 - s.length
      · rw [List.getElem?_append_left (by simpa using h2)]; simp [h2]
      · rw [List.getElem?_append_right (by simpa using h2), List.length_replicate]
        have : r - (8 - s.length) = 0 ∨ r - (8 - s.length) = 1 := by omega
        rcases this with h | h <;> rw [h] <;> rfl
    by_cases h2 : q < 10
    · rw [if_pos h2, he _ (by omega)]
    · rw [if_neg h2]
      by_cases h3 : q = 10
      · rw [if_pos h3, List.getElem?_append_right (by simp; omega), List.length_replicate, show q - s.length - (8 - s.length) = 2 by omega]; rfl
      · rw [if_neg h3, List.getElem?_append_right (by simp; omega), List.length_replicate]
        apply List.getElem?_eq_none
        simp; omega
theorem rootB_set (l s : Bytes) (o : Nat) (h : Int) (h8 : s.length ≤ 8) (ho : o + 11 ≤ l.length) : (splice (splice l o (List.replicate 11 0)) o s).set (o + 10) (UInt8.ofNat h.toNat) = splice l o (rootB s h) := by
  have hrl : (rootB s h).length = 11 := by unfold rootB nameB; simp; omega
  have hl1 : (splice l o (List.replicate 11 (0 : UInt8))).length = l.length := splice_len _ _ _ (by simpa using ho)
  have hl2 : (splice (splice l o (List.replicate 11 (0 : UInt8))) o s).length = l.length := by rw [splice_len _ _ _ (by rw [hl1]; omega)]; exact hl1
  apply List.ext_getElem?
  intro p
  rw [List.getElem?_set, hl2, splice_at _ _ _ _ (by rw [hl1]; omega), splice_at _ _ _ _ (by simpa using ho), splice_at _ _ _ _ (by rw [hrl]; exact ho), rootB_get s h h8, hrl, List.length_replicate]
  by_cases h1 : o ≤ p ∧ p < o + 11
  · simp only [if_pos h1]
    by_cases h2 : p - o < s.length
    · rw [if_pos h2, if_neg (by omega), if_pos (by omega)]
    · rw [if_neg h2]
      by_cases h3 : p - o < 10
      · rw [if_pos h3, if_neg (by omega), if_neg (by omega), List.getElem?_replicate, if_pos (by omega)]
      · rw [if_neg h3, if_pos (by omega), if_pos (by omega), if_pos (by omega)]
  · simp only [if_neg h1]
    rw [if_neg (by omega), if_neg (by omega)]
theorem two_cells {w w' : World} {a b : Value} {t : TypeId} (hb : Below (w.alloc (.cells #[a, b] t)).heap.size (w.alloc (.cells #[a, b] t)) w') : w'.cell? ⟨w.heap.size, 0, none⟩ = some a ∧ w'.cell? ⟨w.heap.size, 1, none⟩ = some b := by
  have h := (hb.block w.heap.size (by simp)).trans (heap_alloc_new w (.cells #[a, b] t))
  refine ⟨?_, ?_⟩ <;> simp [World.cell?, h]
/-- the program's PutRoot, told likewise -/
theorem iroot_ans (A : Option Addr) (n c : Nat) (l : Bytes) (i : Int) (s : Bytes) (h : Int) (w : World) (hs : s.length ≤ 140737488351232) (hln : l.length = n) (hnc : n ≤ c) (hr : rightB n = true) (hrd : Rd w A l) :
    Calls Tryd.prog 156 #[.slice A n c, .int .i64 i, rootV s h] w fun e w' => RowAns w w' e (rootF l i s h) (errV (rootE i s h)) := by
  have hnb := rightB_true.1 hr
  have hlen : ∀ X : Bytes, X.length = 11 → 0 ≤ i → i < 8 → (splice l (rootO i) X).length = n := fun X hX h1 h2 => by
    rw [splice_len _ _ _ (by unfold rootO; omega)]; exact hln
  unfold rootF
  by_cases hi : i < 0 ∨ 8 ≤ i
  · have hE : rootE i s h = 1 := by unfold rootE; rw [if_pos hi]
    rw [hE]
    exact (root_e1 A n c i s h w hr hi).mono fun e w' ⟨he, hb⟩ => ⟨none, 0, he, Rd.nil_, hb⟩
  by_cases h0 : s = [] ∧ h = 0
  · have hE : rootE i s h = 0 := by unfold rootE; rw [if_neg hi, if_pos h0]
    rw [hE, if_pos rfl, if_pos h0]
    obtain ⟨rfl, rfl⟩ := h0
    refine (root_zero A n c l i w hln hnc hrd hr (by omega) (by omega)).mono ?_
    rintro e w' ⟨g, cap, rfl, hg, hrow, hb⟩
    exact ⟨some ⟨g, 0, none⟩, cap, by rw [hlen _ (by simp) (by omega) (by omega)]; rfl, hrow.rd, hb⟩
  cases hh : handleB h with
  | false =>
    have hE : rootE i s h = 1 := by unfold rootE; rw [if_neg hi, if_neg h0, if_pos hh]
    rw [hE]
    exact (root_e1h A n c i s h w hr (by omega) (by omega) h0 hh).mono fun e w' ⟨he, hb⟩ => ⟨none, 0, he, Rd.nil_, hb⟩
  | true =>
    cases hnm : isName s with
    | false =>
      have hE : rootE i s h = 2 := by unfold rootE; rw [if_neg hi, if_neg h0, if_neg (by simp [hh]), if_pos hnm]
      rw [hE]
      exact (root_e2 A n c i s h w hs hr (by omega) (by omega) hh hnm).mono fun e w' ⟨he, hb⟩ => ⟨none, 0, he, Rd.nil_, hb⟩
    | true =>
      have hE : rootE i s h = 0 := by unfold rootE; rw [if_neg hi, if_neg h0, if_neg (by simp [hh]), if_neg (by simp [hnm])]
      rw [hE, if_pos rfl, if_neg h0]
      refine (root_ok A n c l i s h w hln hrd hr (by omega) (by omega) hh hnm).mono ?_
      rintro e w' ⟨g, cap, rfl, hg, hrow, hb⟩
      have hl11 : (rootB s h).length = 11 := by have := nameB_len s hnm; unfold rootB; simp; omega
      exact ⟨some ⟨g, 0, none⟩, cap, by rw [hlen _ hl11 (by omega) (by omega)]; rfl, hrow.rd, hb⟩
end Go.Proofs.YthlflklamgdkfaaDoor
/- image.Drop where it is refused; image.Get and image.New in one form. -/
namespace Go.Proofs.YthlflklamgdkfaaDoor
open Go.RowKit

theorem idrop_e (A : Option Addr) (n c : Nat) (h k : Int) (w : World) (hget : Calls Tryd.prog 101 #[.slice A n c, .int .i64 h] w fun e w' => e = .returned (.tuple #[entV 0 0 0 0, .iface 149 (.int .i64 k)]) ∧ Below w.heap.size w w') :
    Calls Tryd.prog 105 #[.slice A n c, .int .i64 h] w fun e w' => e = .returned (.tuple #[.slice none 0 0, .iface 149 (.int .i64 k)]) ∧ Below w.heap.size w w' := by
  have HG := Hidden.mk hget
  unfold entV at HG
  clear hget
  go_enter Tryd.func105, Tryd.ntmps105
  go_wp2_with fail
  refine HG.out.mono ?_
  rintro e w1 ⟨rfl, hb1⟩
  have hB2 : Below w.heap.size w (w1.alloc (.cells #[.int .i64 0, .int .i64 0, .int .i64 0, .int .i64 0] 137)) := hb1.alloc hb1.size _
  clear hb1
  go_wp2_with fail
  go_ret2
  exact ⟨rfl, hB2⟩
/-- what Get and Drop answer -/
def handE (n : Nat) (l : Bytes) (h : Int) : Nat := if rightB n = false then 3 else if handleB h = false then 1 else if hasE (rawE l (h - 1).toNat) = true then 0 else 5
theorem new_ans (n : Int) (w : World) : Calls Tryd.prog 98 #[.int .i64 n] w fun e w' => ∃ A' c', e = .returned (.tuple #[.slice A' (if rightB n = true then n.toNat else 0) c', errV (if rightB n = true then 0 else 1)]) ∧ Below w.heap.size w w' := by
  cases hr : rightB n with
  | false =>
    refine (new_e1 n w hr).mono ?_
    rintro e w' ⟨rfl, rfl⟩
    exact ⟨none, 0, rfl, Below.refl _ _⟩
  | true =>
    refine (new_ok n w hr).mono ?_
    rintro e w' ⟨g, rfl, _, _, hb⟩
    exact ⟨_, _, rfl, hb⟩
theorem iget_no (A : Option Addr) (n c : Nat) (l : Bytes) (k : Nat) (w : World) (hn : l.length = n) (hr : rightB n = true) (hnc : n ≤ c) (hrd : Rd w A l) (hk : k < 40) (hE : hasE (rawE l k) = false) :
    Calls Tryd.prog 101 #[.slice A n c, .int .i64 ((k : Int) + 1)] w fun e w' => e = .returned (.tuple #[entV 0 0 0 0, .iface 149 (.int .i64 5)]) ∧ Below w.heap.size w w' :=
  (iget_ok A n c l k w hn hr hnc hrd hk).mono fun _ _ h => ⟨h.2.1 hE, h.2.2⟩
end Go.Proofs.YthlflklamgdkfaaDoor
/- The heap: put, PutRoot, Free, Load. -/
namespace Go.Proofs.YthlflklamgdkfaaDoor
open Go.RowKit

section
variable {w0 w : World} {F : Nat → Prop} {h : Nat} {l : Bytes}
/-- what a heap's block is, for a walk that stores into it -/
theorem Hp.head (hp : Hp w0 w F h l) : ∃ g cap, w.cell? ⟨h, 0, none⟩ = some (.slice (some ⟨g, 0, none⟩) l.length cap) ∧ w.frozen? ⟨h, 0, none⟩ = false ∧ l.length ≤ cap ∧ cap ≤ maxLen ∧ Row w 5 g cap l ∧ F g := by
  obtain ⟨g, cap, h1, h2, h3⟩ := hp.hd
  exact ⟨g, cap, by simp [World.cell?, h1], frozen_of_row _ h 0 _ _ h1, h2.le.1, h2.le.2, h2, h3⟩
set_option maxRecDepth 100000 in
theorem hput_ok (x : Int) (a m t : Int) (hp : Hp w0 w F h l) (hx : handleB x = true) (ht : tagB t = true) (hm : lenB m = true) (hw : withinB l.length a m = true) :
    Calls Tryd.prog 103 #[.pointer (some ⟨h, 0, none⟩), .agg #[.int .i64 x, .int .i64 a, .int .i64 m, .int .i64 t]] w fun e w' => e = .returned .nilIface ∧ ∃ F', HpM w0 w w' F F' h (putEnt l x a m t) := by
  obtain ⟨g, cap, c0, -, hcap, -, hrow, hF⟩ := hp.head
  have hb := rightB_true.1 hp.len
  have hhb := handleB_true.1 hx
  have hal := (Below.refl w.heap.size w).alloc (Nat.le_refl _) (.cells #[.int .i64 x, .int .i64 a, .int .i64 m, .int .i64 t] 137)
  have hlen : (putEnt l x a m t).length = l.length := putEnt_len l x a m t hhb.1 hhb.2 (by omega)
  have HC := Hidden.mk (fun (W : World) (hW : Below w.heap.size w W) => iput_ok (some ⟨g, 0, none⟩) l.length cap l x a m t W rfl hcap (hrow.rd.below hW) hp.len hx ht hm hw)
  have hf := fourAt_one w x a m t 137
  have hc1 := (hal.cell (p := ⟨h, 0, none⟩) (block_lt_of_cell c0)).trans c0
  have HP := Hidden.mk hp
  have HAL := Hidden.mk hal
  have HLEN := Hidden.mk hlen
  generalize putEnt l x a m t = l' at *
  clear hp hrow hal hlen hx ht hm hw c0
  unfold entV at HC
  go_enter Tryd.func103, Tryd.ntmps103
  go_wp2_with fail
  generalize w.alloc (.cells #[.int .i64 x, .int .i64 a, .int .i64 m, .int .i64 t] 137) = w1 at *
  have KF := Hidden.mk hf
  have KC := Hidden.mk hc1
  have KL := Hidden.mk (And.intro (block_lt_of_cell hc1) (block_lt_of_cell hf.1))
  clear hf hc1
  go_region_held3 (fun W => W.cell? ⟨h, 0, none⟩ = some (.slice (some ⟨g, 0, none⟩) l.length cap) ∧ W.cell? ⟨w.heap.size, 0, none⟩ = some (.int .i64 x) ∧ W.cell? ⟨w.heap.size, 1, none⟩ = some (.int .i64 a) ∧ W.cell? ⟨w.heap.size, 2, none⟩ = some (.int .i64 m) ∧ W.cell? ⟨w.heap.size, 3, none⟩ = some (.int .i64 t)) (first | exact ⟨KC.out, KF.out⟩ | exact ⟨(hb2.cell (p := ⟨h, 0, none⟩) KL.out.1).trans KC.out, (hb2.cell (p := ⟨w.heap.size, 0, none⟩) KL.out.2).trans KF.out.1, (hb2.cell (p := ⟨w.heap.size, 1, none⟩) KL.out.2).trans KF.out.2.1, (hb2.cell (p := ⟨w.heap.size, 2, none⟩) KL.out.2).trans KF.out.2.2.1, (hb2.cell (p := ⟨w.heap.size, 3, none⟩) KL.out.2).trans KF.out.2.2.2⟩)
    ((go_at_call 153; refine (HC.out _ (HAL.out.trans ((Below.refl _ _).drew.mono HAL.out.size))).mono ?_; rintro e w2 ⟨g', cap', rfl, hg', hrow', hb2⟩))
  all_goals
    have hb2 : Below w1.heap.size w1 w2 := ((Below.refl _ _).drew).trans hb2
    have hB2 := HAL.out.trans (hb2.mono HAL.out.size)
    have hP2 := HP.out.below hB2
    obtain ⟨g2, cap2, y0, yf, -, -, -, -⟩ := hP2.head
    have hs := hP2.set hrow' (by rw [HLEN.out]; exact HP.out.len) (Nat.le_trans HP.out.bel.size (Nat.le_trans HAL.out.size hg'))
    rw [HLEN.out] at hs
    have HS := Hidden.mk (HpM.mk hs.1 ((Keep.of_below (F := F) hB2).trans hs.2 (fun k hk => .inl hk)) (fun k hk => by
      rcases hk with hk | rfl
      · exact .inl hk
      · exact .inr (Nat.le_trans HAL.out.size hg')))
    clear hs hP2 hB2 hb2 hrow' HC
    go_wp2_with fail
    go_ret
    exact ⟨rfl, _, HS.out⟩
/-- a root as it is put: what stands there then -/
def putRo (s : Bytes) (x : Int) : Bytes := if s = [] ∧ x = 0 then List.replicate 11 0 else rootB s x
set_option maxRecDepth 100000 in
theorem hroot_ok (i : Nat) (s : Bytes) (x : Int) (hp : Hp w0 w F h l) (hi : i < 8) (hs : (s = [] ∧ x = 0) ∨ (handleB x = true ∧ isName s = true)) :
    Calls Tryd.prog 114 #[.pointer (some ⟨h, 0, none⟩), .int .i64 (i : Int), .agg #[sv s, .int .i64 x]] w fun e w' => e = .returned .nilIface ∧ ∃ F', HpM w0 w w' F F' h (splice l (200 + 11 * i) (putRo s x)) := by
  obtain ⟨g, cap, c0, -, hcap, -, hrow, hF⟩ := hp.head
  have hb := rightB_true.1 hp.len
  have hal := (Below.refl w.heap.size w).alloc (Nat.le_refl _) (.cells #[sv s, .int .i64 x] 76)
  have hlen : (splice l (200 + 11 * i) (putRo s x)).length = l.length := by
    rw [splice_len]
    have : (putRo s x).length = 11 := by
      unfold putRo
      split
      · simp
      · rename_i hn
        rcases hs with hs | ⟨-, hs⟩
        · exact absurd hs hn
        · unfold rootB; rw [List.length_append, nameB_len s hs]; rfl
    omega
  have HC : Hidden (∀ W, Below w.heap.size w W → Calls Tryd.prog 156 #[.slice (some ⟨g, 0, none⟩) l.length cap, .int .i64 (i : Int), .agg #[sv s, .int .i64 x]] W fun e w' => ∃ g' cap', e = .returned (.tuple #[.slice (some ⟨g', 0, none⟩) l.length cap', .nilIface]) ∧ W.heap.size ≤ g' ∧ Row w' 5 g' cap' (splice l (200 + 11 * i) (putRo s x)) ∧ Below W.heap.size W w') := ⟨fun W hW => by
    unfold putRo
    rcases hs with ⟨rfl, rfl⟩ | ⟨h1, h2⟩
    · rw [if_pos ⟨rfl, rfl⟩, ← rootO_k]
      exact root_zero (some ⟨g, 0, none⟩) l.length cap l i _ rfl hcap (hrow.rd.below hW) hp.len (by omega) (by omega)
    · have hx := handleB_true.1 h1
      rw [if_neg (by omega), ← rootO_k]
      exact root_ok (some ⟨g, 0, none⟩) l.length cap l i s x _ rfl (hrow.rd.below hW) hp.len (by omega) (by omega) h1 h2⟩
  have hbk := heap_alloc_new w (.cells #[sv s, .int .i64 x] 76)
  have hf : (w.alloc (.cells #[sv s, .int .i64 x] 76)).cell? ⟨w.heap.size, 0, none⟩ = some (sv s) ∧ (w.alloc (.cells #[sv s, .int .i64 x] 76)).cell? ⟨w.heap.size, 1, none⟩ = some (.int .i64 x) := ⟨by simp only [World.cell?]; rw [hbk]; rfl, by simp only [World.cell?]; rw [hbk]; rfl⟩
  have hc1 := (hal.cell (p := ⟨h, 0, none⟩) (block_lt_of_cell c0)).trans c0
  have HP := Hidden.mk hp
  have HAL := Hidden.mk hal
  have HLEN := Hidden.mk hlen
  generalize splice l (200 + 11 * i) (putRo s x) = l' at *
  clear hp hrow hal hlen hs c0 hbk
  go_enter Tryd.func114, Tryd.ntmps114
  go_wp2_with fail
  generalize w.alloc (.cells #[sv s, .int .i64 x] 76) = w1 at *
  have KF := Hidden.mk hf
  have KC := Hidden.mk hc1
  have KL := Hidden.mk (And.intro (block_lt_of_cell hc1) (block_lt_of_cell hf.1))
  clear hf hc1
  go_region_held3 (fun W => W.cell? ⟨h, 0, none⟩ = some (.slice (some ⟨g, 0, none⟩) l.length cap) ∧ W.cell? ⟨w.heap.size, 0, none⟩ = some (sv s) ∧ W.cell? ⟨w.heap.size, 1, none⟩ = some (.int .i64 x)) (first | exact ⟨KC.out, KF.out⟩ | exact ⟨(hb2.cell (p := ⟨h, 0, none⟩) KL.out.1).trans KC.out, (hb2.cell (p := ⟨w.heap.size, 0, none⟩) KL.out.2).trans KF.out.1, (hb2.cell (p := ⟨w.heap.size, 1, none⟩) KL.out.2).trans KF.out.2⟩)
    ((go_at_call 156; refine (HC.out _ (HAL.out.trans ((Below.refl _ _).drew.mono HAL.out.size))).mono ?_; rintro e w2 ⟨g', cap', rfl, hg', hrow', hb2⟩))
  all_goals
    have hb2 : Below w1.heap.size w1 w2 := ((Below.refl _ _).drew).trans hb2
    have hB2 := HAL.out.trans (hb2.mono HAL.out.size)
    have hP2 := HP.out.below hB2
    obtain ⟨g2, cap2, y0, yf, -, -, -, -⟩ := hP2.head
    have hs := hP2.set hrow' (by rw [HLEN.out]; exact HP.out.len) (Nat.le_trans HP.out.bel.size (Nat.le_trans HAL.out.size hg'))
    rw [HLEN.out] at hs
    have HS := Hidden.mk (HpM.mk hs.1 ((Keep.of_below (F := F) hB2).trans hs.2 (fun k hk => .inl hk)) (fun k hk => by
      rcases hk with hk | rfl
      · exact .inl hk
      · exact .inr (Nat.le_trans HAL.out.size hg')))
    clear hs hP2 hB2 hb2 hrow' HC
    go_wp2_with fail
    go_ret
    exact ⟨rfl, _, HS.out⟩
/-- the fault of Free; the image behind it -/
def freeE (l : Bytes) (x : Int) : Nat := if hE l x ≠ 0 then hE l x else if (rootsL l).any (fun r => (r.2 : Int) == x) = true then 7 else 0
def freeL (l : Bytes) (x : Int) : Bytes := if freeE l x = 0 then splice l (5 * (x - 1).toNat) (List.replicate 5 0) else l
set_option maxRecDepth 100000 in
theorem hfree_any (x : Int) (hp : Hp w0 w F h l) :
    Calls Tryd.prog 34 #[.pointer (some ⟨h, 0, none⟩), .int .i64 x] w fun e w' => e = .returned (errV (freeE l x)) ∧ ∃ F', HpM w0 w w' F F' h (freeL l x) := by
  obtain ⟨g, cap, c0, -, hcap, -, hrow, hF⟩ := hp.head
  have hb := rightB_true.1 hp.len
  have hal := (Below.refl w.heap.size w).alloc (Nat.le_refl _) (.cells #[.int .i64 x] 3)
  have hbx : (w.alloc (.cells #[.int .i64 x] 3)).heap[w.heap.size]? = some (.cells #[.int .i64 x] 3 (0, 0)) := heap_alloc_new w _
  by_cases h0 : hE l x = 0
  · obtain ⟨k, hk, rfl, hh, hr⟩ := hE_zero h0
    have hlen : (splice l (5 * k) (List.replicate 5 0)).length = l.length := by rw [splice_len]; simp; omega
    have hk1 : ((k : Int) + 1 - 1).toNat = k := by omega
    have HC := Hidden.mk (fun (W : World) (hW : Below w.heap.size w W) => idrop_ok (some ⟨g, 0, none⟩) l.length cap l k W rfl hp.len hcap (hrow.rd.below hW) hk hh)
    have hc1 := (hal.cell (p := ⟨h, 0, none⟩) (block_lt_of_cell c0)).trans c0
    have hf : (w.alloc (.cells #[.int .i64 ((k : Int) + 1)] 3)).cell? ⟨w.heap.size, 0, none⟩ = some (.int .i64 ((k : Int) + 1)) := by simp only [World.cell?]; rw [hbx]; rfl
    have HP := Hidden.mk hp
    have HAL := Hidden.mk hal
    have HLEN := Hidden.mk hlen
    have HBX := Hidden.mk hbx
    have HE : Hidden (freeE l ((k : Int) + 1) = if (rootsL l).any (fun r => (r.2 : Int) == (k : Int) + 1) = true then 7 else 0) := ⟨by unfold freeE; rw [if_neg (by rw [h0]; simp)]⟩
    have HL : Hidden (freeL l ((k : Int) + 1) = if freeE l ((k : Int) + 1) = 0 then splice l (5 * k) (List.replicate 5 0) else l) := ⟨by unfold freeL; rw [hk1]⟩
    have HRL : Hidden ((rootsL l).length ≤ 8) := ⟨rootsF_len _ _⟩
    have HRT : Hidden (∀ W, Hp w0 W F h l → Calls Tryd.prog 107 #[.pointer (some ⟨h, 0, none⟩)] W fun e w' => ∃ v, e = .returned v ∧ w'.ownsRow W.heap.size 76 2 v (rootsL l).length ((rootsL l).flatMap rcells) ∧ Below W.heap.size W w') := ⟨fun W hW => hroots_any hW⟩
    generalize hl' : splice l (5 * k) (List.replicate 5 0) = l' at *
    generalize rootsL l = RL at *
    generalize freeE l ((k : Int) + 1) = fe at *
    generalize freeL l ((k : Int) + 1) = fl at *
    have HK : Hidden (k = k) := ⟨rfl⟩
    clear hp hrow hal hlen hbx hl' hk1 h0 hr c0
    go_enter Tryd.func34, Tryd.ntmps34
    go_wp2_with fail
    generalize w.alloc (.cells #[.int .i64 ((k : Int) + 1)] 3) = w1 at *
    have KF := Hidden.mk hf
    have KC := Hidden.mk hc1
    have KL := Hidden.mk (And.intro (block_lt_of_cell hc1) (block_lt_of_cell hf))
    clear hf hc1
    go_region_held3 (fun W => W.cell? ⟨h, 0, none⟩ = some (.slice (some ⟨g, 0, none⟩) l.length cap) ∧ W.cell? ⟨w.heap.size, 0, none⟩ = some (.int .i64 ((k : Int) + 1))) (first | exact ⟨KC.out, KF.out⟩ | exact ⟨(hb2.cell (p := ⟨h, 0, none⟩) KL.out.1).trans KC.out, (hb2.cell (p := ⟨w.heap.size, 0, none⟩) KL.out.2).trans KF.out⟩)
      ((go_at_call 105; refine (HC.out _ (HAL.out.trans ((Below.refl _ _).drew.mono HAL.out.size))).mono ?_; rintro e w2 ⟨g', cap', rfl, hg', hrow', hb2⟩))
    all_goals
      have hb2 : Below w1.heap.size w1 w2 := ((Below.refl _ _).drew).trans hb2
      have HB2 := Hidden.mk (HAL.out.trans (hb2.mono HAL.out.size))
      have HBX2 := Hidden.mk ((hb2.block _ (Array.getElem?_eq_some_iff.1 HBX.out).1).trans HBX.out)
      have HR2 := Hidden.mk hrow'
      clear hb2 hrow' HBX HC
      go_wp2_with fail
      refine (HRT.out _ (HP.out.below HB2.out)).mono ?_
      rintro e w3 ⟨v, rfl, hown, hb3⟩
      have hB3 := HB2.out.trans (hb3.mono HB2.out.size)
      have hP3 := HP.out.below hB3
      have HBX3 := Hidden.mk ((hb3.block _ (Array.getElem?_eq_some_iff.1 HBX2.out).1).trans HBX2.out)
      have hR3 := HR2.out.block (hb3.block _ HR2.out.lt)
      obtain ⟨A3, c3, rfl, hc3, -⟩ := own_split hown
      have HCF := Hidden.mk (cfR_free (fun r => (r.2 : Int) == (k : Int) + 1) A3 RL.length c3 RL (.pointer (some ⟨w.heap.size, 0, none⟩)) w3 rfl (by have := HRL.out; omega) (own_rdX3 (f := rcells) (fun _ => rfl) rfl hown)
        (fun y _ W hW => root1_free y ((k : Int) + 1) w.heap.size W (by have := (hW.block _ (Array.getElem?_eq_some_iff.1 HBX3.out).1).trans HBX3.out; simp [World.cell?, this])))
      have H3 := Hidden.mk (And.intro hB3 (And.intro hP3 hR3))
      clear hown hb3 hB3 hP3 hR3 HB2 HR2 HBX2
      go_wp2_with fail
      refine HCF.out.mono ?_
      rintro e w4 ⟨rfl, hb4⟩
      have hB4 := H3.out.1.trans (hb4.mono H3.out.1.size)
      have hP4 := H3.out.2.1.below hb4
      have hR4 := H3.out.2.2.block (hb4.block _ H3.out.2.2.lt)
      cases ha : RL.any (fun r => (r.2 : Int) == (k : Int) + 1) with
      | true =>
        have hfe : fe = 7 := by rw [HE.out, if_pos ha]
        have hfl : fl = l := by rw [HL.out, hfe]; rfl
        have HF := Hidden.mk (HP.out.same hB4)
        subst hfe hfl
        clear hb4 hB4 hP4 hR4 HE HL
        go_wp2_with fail
        go_ret
        exact ⟨rfl, _, HF.out⟩
      | false =>
        have hfe : fe = 0 := by rw [HE.out, if_neg (by rw [ha]; decide)]
        have hfl : fl = l' := by rw [HL.out, hfe]; rfl
        obtain ⟨g2, cap2, y0, yf, -, -, -, -⟩ := hP4.head
        have hs := hP4.set hR4 (by rw [HLEN.out]; exact HP.out.len) (Nat.le_trans HP.out.bel.size (Nat.le_trans HAL.out.size hg'))
        rw [HLEN.out] at hs
        have HF := Hidden.mk (HpM.mk hs.1 ((Keep.of_below (F := F) hB4).trans hs.2 (fun k hk => .inl hk)) (fun k hk => by
          rcases hk with hk | rfl
          · exact .inl hk
          · exact .inr (Nat.le_trans HAL.out.size hg')))
        subst hfe hfl
        clear hb4 hB4 hP4 hR4 HE HL hs ha
        go_wp2_with fail
        go_ret
        exact ⟨rfl, _, HF.out⟩
  · have HC : Hidden (∀ W, Below w.heap.size w W → Calls Tryd.prog 105 #[.slice (some ⟨g, 0, none⟩) l.length cap, .int .i64 x] W fun e w' => e = .returned (.tuple #[.slice none 0 0, .iface 149 (.int .i64 (hE l x : Int))]) ∧ Below W.heap.size W w') := ⟨fun W hW => idrop_e _ _ _ _ _ _ ((iget_ans (some ⟨g, 0, none⟩) l.length cap l x _ rfl hp.len hcap (hrow.rd.below hW)).mono fun e w' ⟨he, hb'⟩ => ⟨by
      rw [he]
      unfold gH gA gL gT errV
      rw [if_neg h0, if_neg h0, if_neg h0, if_neg h0, if_neg h0], hb'⟩)⟩
    have hc1 := (hal.cell (p := ⟨h, 0, none⟩) (block_lt_of_cell c0)).trans c0
    have hf : (w.alloc (.cells #[.int .i64 x] 3)).cell? ⟨w.heap.size, 0, none⟩ = some (.int .i64 x) := by simp only [World.cell?]; rw [hbx]; rfl
    have hfe : freeE l x = hE l x := by unfold freeE; rw [if_pos h0]
    have hfl : freeL l x = l := by unfold freeL; rw [if_neg (by rw [hfe]; exact h0)]
    have hev : errV (hE l x) = .iface 149 (.int .i64 (hE l x)) := by unfold errV; rw [if_neg h0]
    rw [hfe, hfl, hev]
    have HP := Hidden.mk hp
    have HAL := Hidden.mk hal
    generalize (hE l x : Int) = q at *
    clear hp hrow hal hbx hfe hfl hev h0 c0
    go_enter Tryd.func34, Tryd.ntmps34
    go_wp2_with fail
    generalize w.alloc (.cells #[.int .i64 x] 3) = w1 at *
    have KF := Hidden.mk hf
    have KC := Hidden.mk hc1
    have KL := Hidden.mk (And.intro (block_lt_of_cell hc1) (block_lt_of_cell hf))
    clear hf hc1
    go_region_held3 (fun W => W.cell? ⟨h, 0, none⟩ = some (.slice (some ⟨g, 0, none⟩) l.length cap) ∧ W.cell? ⟨w.heap.size, 0, none⟩ = some (.int .i64 x)) (first | exact ⟨KC.out, KF.out⟩ | exact ⟨(hb2.cell (p := ⟨h, 0, none⟩) KL.out.1).trans KC.out, (hb2.cell (p := ⟨w.heap.size, 0, none⟩) KL.out.2).trans KF.out⟩)
      ((go_at_call 105; refine (HC.out _ (HAL.out.trans ((Below.refl _ _).drew.mono HAL.out.size))).mono ?_; rintro e w2 ⟨rfl, hb2⟩))
    all_goals
      have hb2 : Below w1.heap.size w1 w2 := ((Below.refl _ _).drew).trans hb2
      have HF := Hidden.mk (HP.out.same (HAL.out.trans (hb2.mono HAL.out.size)))
      clear hb2 HC
      go_wp2_with fail
      go_ret
      exact ⟨rfl, _, HF.out⟩
end
theorem hload_ok (A : Option Addr) (n c : Nat) (l : Bytes) (w0 w : World) (hn : l.length = n) (hg : Good l) (hnc : n ≤ c) (hrd : Rd w A l) (hb0 : Below w0.heap.size w0 w) :
    Calls Tryd.prog 109 #[.slice A n c] w fun e w' => ∃ h F, e = .returned (.tuple #[.pointer (some ⟨h, 0, none⟩), .nilIface]) ∧ Hp w0 w' F h l ∧ Below w.heap.size w w' ∧ ∀ k, F k → w.heap.size ≤ k := by
  subst hn
  have hb := hg.bd
  obtain ⟨p, off, rfl, hlt⟩ := hrd.lt (by omega)
  have HC := Hidden.mk (fine_t (some ⟨p, off, none⟩) l.length c l w rfl hg.len hnc hrd hg.chk)
  have HCL : Hidden (∀ W, Below w.heap.size w W → Calls Tryd.prog 88 #[.slice (some ⟨p, off, none⟩) l.length c] W fun e w' => ∃ g cap, e = .returned (.slice (some ⟨g, 0, none⟩) l.length cap) ∧ W.heap.size ≤ g ∧ Row w' 5 g cap l ∧ Below W.heap.size W w') := ⟨fun W hW => clone_some ⟨p, off, none⟩ l.length c l W rfl (by omega) (hrd.below hW)⟩
  have HR := Hidden.mk hg.len
  have HB0 := Hidden.mk hb0
  clear hrd hg hb0
  go_enter Tryd.func109, Tryd.ntmps109
  go_wp2_with fail
  refine HC.out.mono ?_
  rintro e w1 ⟨rfl, hb1⟩
  have HB1 := Hidden.mk hb1
  clear hb1
  go_wp2_with fail
  refine (HCL.out _ HB1.out).mono ?_
  rintro e w2 ⟨g, cap, rfl, hg, hrow, hb2⟩
  have hB2 := HB1.out.trans (hb2.mono HB1.out.size)
  have hglt := hrow.lt
  have hB02 := HB0.out.trans (hB2.mono HB0.out.size)
  have hgw : w.heap.size ≤ g := Nat.le_trans HB1.out.size hg
  have hP : Hp w0 (w2.alloc (.cells #[.slice (some ⟨g, 0, none⟩) l.length cap] 162)) (fun k => k = w2.heap.size ∨ k = g) w2.heap.size l :=
    ⟨⟨g, cap, heap_alloc_new w2 _, hrow.block (Below.heap_alloc _ _ _ hglt), .inr rfl⟩, .inl rfl, HR.out,
      fun k hk => by rcases hk with rfl | rfl; exact hB02.size; exact Nat.le_trans HB0.out.size hgw, fun k hk => by simp; omega, hB02.alloc hB02.size _⟩
  have HF := Hidden.mk (And.intro hP (And.intro (hB2.alloc hB2.size (.cells #[.slice (some ⟨g, 0, none⟩) l.length cap] 162)) (show ∀ k, (k = w2.heap.size ∨ k = g) → w.heap.size ≤ k from fun k hk => by rcases hk with rfl | rfl; exact hB2.size; exact hgw)))
  clear hP hB2 hb2 hrow hB02 HC HCL
  go_wp2_with fail
  go_ret2
  exact ⟨_, _, rfl, HF.out.1, HF.out.2.1, HF.out.2.2⟩
end Go.Proofs.YthlflklamgdkfaaDoor
