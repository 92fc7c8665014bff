/- The contracts of errors.As at a target that points to an api.Errno, of plain.Told and of vaultsame.Error. -/
import Derived.Test.YtbcafgocachddaaDoorTold
namespace Go.Proofs.YtbcafgocachddaaDoor
open Go.RowKit Go.Extern.Stop Go.Stop Go.Extern

theorem rl_methKind (n : Nat) (h : Value) (w : World) : (Go.method (n + 1) 215 (.agg #[h]) "Kind").run Tryd.prog w = .ok (194, h) w := by kernel_rfl
theorem rl_methElem (n : Nat) (h : Value) (w : World) : (Go.method (n + 1) 215 (.agg #[h]) "Elem").run Tryd.prog w = .ok (205, .agg #[h]) w := by kernel_rfl
theorem rl_methImpl (n : Nat) (h : Value) (w : World) : (Go.method (n + 1) 215 (.agg #[h]) "Implements").run Tryd.prog w = .ok (206, .agg #[h]) w := by kernel_rfl
theorem rl_methAssign (n : Nat) (h : Value) (w : World) : (Go.method (n + 1) 215 (.agg #[h]) "AssignableTo").run Tryd.prog w = .ok (203, .agg #[h]) w := by kernel_rfl

set_option maxRecDepth 100000 in
set_option maxHeartbeats 4000000 in
theorem as_errno (k : Int) (t : Addr) (old : Value) (w : World) (hg : HasType w) (ht0 : w.cell? t = some old) (hf0 : w.frozen? t = false) :
    Calls Tryd.prog 114 #[.iface 132 (.int .i64 k), .iface 177 (.pointer (some t))] w fun ev w' => ev = .returned (.bool true) ∧ w' = ((((w.alloc (.cells #[.pointer (some t)] 177)).alloc (.cells #[.pointer (some ⟨1, 177, none⟩), .pointer (some ⟨w.heap.size, 0, none⟩), .int .u64 150] 197)).alloc (.cells #[.pointer (some ⟨1, 177, none⟩), .pointer (some ⟨w.heap.size, 0, none⟩), .int .u64 150] 197)).alloc (.cells #[.int .i64 k] 132)).setCell t (.int .i64 k) := by
  have h6 := @run_callFunc_extern Tryd.prog 135 _ (fun args => ReflectliteValue.unpack (args.getD 0 (.tuple #[]))) Tryd.func135 (by kernel_rfl) (by kernel_rfl) (by kernel_rfl) (by kernel_rfl)
  have h7 := @run_callFunc_extern Tryd.prog 136 _ (ReflectliteValue.methodAny (ReflectliteValue.valueError "reflectlite.Value.Type" 0) (fun t _ _ _ => ReflectliteType.toType t)) Tryd.func136 (by kernel_rfl) (by kernel_rfl) (by kernel_rfl) (by kernel_rfl)
  have h8 := @run_callFunc_extern Tryd.prog 137 _ (ReflectliteValue.method (ReflectliteValue.valueError "reflectlite.Value.IsNil" 0) ReflectliteValue.isNil) Tryd.func137 (by kernel_rfl) (by kernel_rfl) (by kernel_rfl) (by kernel_rfl)
  have h27 := @run_callFunc_extern Tryd.prog 194 _ (ReflectliteType.abiMethod fun t => do pure (.int .u8 (← Rtype.kind t))) Tryd.func194 (by kernel_rfl) (by kernel_rfl) (by kernel_rfl) (by kernel_rfl)
  have h37 := @run_callFunc_extern Tryd.prog 205 _ (ReflectliteType.method ReflectliteType.elem) Tryd.func205 (by kernel_rfl) (by kernel_rfl) (by kernel_rfl) (by kernel_rfl)
  have h38 := @run_callFunc_extern Tryd.prog 206 _ (ReflectliteType.relation "Implements" ReflectliteType.implements_) Tryd.func206 (by kernel_rfl) (by kernel_rfl) (by kernel_rfl) (by kernel_rfl)
  have h10 := @run_callFunc_extern Tryd.prog 148 _ ReflectliteType.typeOf Tryd.func148 (by kernel_rfl) (by kernel_rfl) (by kernel_rfl) (by kernel_rfl)
  have h35 := @run_callFunc_extern Tryd.prog 203 _ (ReflectliteType.relation "AssignableTo" ReflectliteType.assignableTo) Tryd.func203 (by kernel_rfl) (by kernel_rfl) (by kernel_rfl) (by kernel_rfl)
  have h11 := @run_callFunc_extern Tryd.prog 149 _ (ReflectliteValue.method (ReflectliteValue.valueError "reflectlite.Value.Elem" 0) ReflectliteValue.elem) Tryd.func149 (by kernel_rfl) (by kernel_rfl) (by kernel_rfl) (by kernel_rfl)
  have h12 := @run_callFunc_extern Tryd.prog 150 _ ReflectliteValue.set Tryd.func150 (by kernel_rfl) (by kernel_rfl) (by kernel_rfl) (by kernel_rfl)
  have tO := rl_typeOfE
  have aE := rl_assignE
  have vE := rl_valueOfE
  have f6 := rl_valueOfP
  have f7 := rl_typeP
  have mK := rl_methKind
  have mE := rl_methElem
  have mI := rl_methImpl
  have mA := rl_methAssign
  have kP := rl_kindP
  have kE := rl_kindE
  have eP := rl_elemP
  have iE := rl_implE
  have n8 := rl_isNilP ⟨w.heap.size, 0, none⟩ t ((w.alloc (.cells #[.pointer (some t)] 177)).alloc (.cells #[.pointer (some ⟨1, 177, none⟩), .pointer (some ⟨w.heap.size, 0, none⟩), .int .u64 150] 197)) (by simp)
  have hlt : 0 < w.heap.size := hg.lt
  unfold HasType at hg
  have hg2 : ((w.alloc (.cells #[.pointer (some t)] 177)).alloc (.cells #[.pointer (some ⟨1, 177, none⟩), .pointer (some ⟨w.heap.size, 0, none⟩), .int .u64 150] 197)).cell? ⟨0, 0, none⟩ = some (.iface 215 (.agg #[.pointer (some ⟨1, 31, none⟩)])) := by
    rw [World.cell?_alloc_lt _ _ ⟨0, 0, none⟩ (by simp), World.cell?_alloc_lt _ _ ⟨0, 0, none⟩ hlt]; exact hg
  have htl : t.block < w.heap.size := by
    rcases Nat.lt_or_ge t.block w.heap.size with h | h
    · exact h
    · simp [World.cell?, Array.getElem?_eq_none h] at ht0
  have el := rl_elemVP ⟨w.heap.size, 0, none⟩ t (((w.alloc (.cells #[.pointer (some t)] 177)).alloc (.cells #[.pointer (some ⟨1, 177, none⟩), .pointer (some ⟨w.heap.size, 0, none⟩), .int .u64 150] 197)).alloc (.cells #[.pointer (some ⟨1, 177, none⟩), .pointer (some ⟨w.heap.size, 0, none⟩), .int .u64 150] 197)) (by rw [World.cell?_alloc_lt _ _ ⟨w.heap.size, 0, none⟩ (by simp; omega)]; simp)
  have st := rl_setE t ⟨w.heap.size + 1 + 1 + 1, 0, none⟩ k old ((((w.alloc (.cells #[.pointer (some t)] 177)).alloc (.cells #[.pointer (some ⟨1, 177, none⟩), .pointer (some ⟨w.heap.size, 0, none⟩), .int .u64 150] 197)).alloc (.cells #[.pointer (some ⟨1, 177, none⟩), .pointer (some ⟨w.heap.size, 0, none⟩), .int .u64 150] 197)).alloc (.cells #[.int .i64 k] 132))
    (by rw [World.cell?_alloc_at _ _ _ _ (by simp)]; rfl)
    (by rw [World.cell?_alloc_lt _ _ t (by simp; omega), World.cell?_alloc_lt _ _ t (by simp; omega), World.cell?_alloc_lt _ _ t (by simp; omega), World.cell?_alloc_lt _ _ t htl]; exact ht0)
    (by rw [World.frozen?_alloc_old _ _ t (by simp; omega), World.frozen?_alloc_old _ _ t (by simp; omega), World.frozen?_alloc_old _ _ t (by simp; omega), World.frozen?_alloc_old _ _ t (Nat.ne_of_lt htl)]; exact hf0)
  go_enter Tryd.func114, Tryd.ntmps114
  go_wp2
  refine wp_loop_rounds 1 ?_
  rw [rounds_succ]
  go_wp2
  go_ret
  exact ⟨rfl, rfl⟩
end Go.Proofs.YtbcafgocachddaaDoor
