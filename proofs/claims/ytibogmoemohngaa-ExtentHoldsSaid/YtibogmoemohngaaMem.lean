/- Runs of make and copy over bytes, as equations for a walk. -/
import Derived.Test.YtibogmoemohngaaNum3
import Derived.Laws.MakeOwn
namespace Go.Proofs.Ytibogmoemohngaa
open Go.RowKit

/-- so many zeros, as cells -/
def zeroRow (n : Nat) : Array Value := Array.replicate n (.int .u8 0)
theorem zeroRow_size (n : Nat) : (zeroRow n).size = n := by simp [zeroRow]
theorem zeroRow_list (n : Nat) : (zeroRow n).toList = (List.replicate n (0 : UInt8)).map bv := by simp [zeroRow]
/-- make([]byte, n) -/
theorem mk_bytes (z : Int) (n : Nat) (hz : z = n) (hn : n ≤ 281474976710656) (w : World) :
    (Instr.makeSlice 22 (.int .i64 z) (.int .i64 z)).run Try.prog w = .ok (.slice (some ⟨w.heap.size, 0, none⟩) n n) (w.alloc (.cells (zeroRow n) 5)) := by
  subst hz
  obtain ⟨i0, hi0, hz0, hz1, hz2⟩ := info_parts byte_info
  have hr := run_make (P := Try.prog) w 22 5 i0 _ Try.underlying22 hi0 hz0 .i64 .i64 n n (by omega) (by omega) (by rw [hz2]; omega) (by omega)
  simp only [Int.toNat_natCast, hz1, Nat.mul_one] at hr
  have hcells : madeCells (Value.int IntKind.u8 0).cells n = zeroRow n := by
    apply Array.ext'
    rw [show (Value.int IntKind.u8 0).cells = #[Value.int IntKind.u8 0] from rfl, toList_madeCells_one, zeroRow]
    simp
  rw [hcells] at hr
  exact hr
theorem row_zeros (w : World) (n : Nat) (hn : n ≤ maxLen) : Row (w.alloc (.cells (zeroRow n) 5)) 5 w.heap.size n (List.replicate n 0) :=
  ⟨_, heap_alloc_new w _, by simp, hn, zeroRow_size n, by rw [List.take_of_length_le (by rw [Array.length_toList, zeroRow_size]; simp), zeroRow_list]⟩

/-- copy of a text into a row -/
theorem run_copy_text (w : World) (g o dLen dCap k : Nat) (l : Bytes) (cur : Array Value) (T : Nat) (hg : w.heap[g]? = some (.cells cur T (0, 0))) (hk : k = Nat.min l.length dLen) (hfit : o + k ≤ cur.size) (ty : TypeId) :
    (Builtin.copy_ #[22, 9] ty #[.slice (some ⟨g, o, none⟩) dLen dCap, .string ⟨l.toArray⟩]).run Try.prog w = .ok (.int .i64 (k : Int)) (w.setRow g (setB cur o ((l.take k).map bv))) := by
  obtain ⟨i0, hi0, hz0, hz1, hz2⟩ := info_parts byte_info
  have hkl : k ≤ l.length := by rw [hk]; exact Nat.min_le_left _ _
  have hlen : ((l.take k).map bv).length = k := by simp; omega
  have hst := run_storeCells_at Try.prog g o T ((l.take k).map bv) 0 cur w hg (by rw [hlen]; simpa using hfit) one_bv
  have hsz : (⟨l.toArray⟩ : ByteArray).size = l.length := by simp [ByteArray.size]
  generalize hcs : (l.take k).map bv = cs at hst hlen ⊢
  subst hlen
  have hcs2 : List.take cs.length (List.map (fun b => Value.int IntKind.u8 (b.toNat : Int)) l) = cs := by rw [← List.map_take]; exact hcs
  simp only [Nat.add_zero] at hst
  simp [Builtin.copy_, run_underlying Try.underlying22, Builtin.lenOf, Builtin.firstCells, sizeOf, typeInfo, hi0, hsz, ← hk, goInt, setB, splice]
  rw [hcs2, hst]
  simp
/-- copy of bytes into a row -/
theorem run_copy_rd (w : World) (g o dLen dCap n c k : Nat) (A : Option Addr) (l : Bytes) (cur : Array Value) (T : Nat) (hg : w.heap[g]? = some (.cells cur T (0, 0))) (hn : l.length = n) (hr : Rd w A l)
    (hk : k = Nat.min n dLen) (hfit : o + k ≤ cur.size) (ty : TypeId) :
    (Builtin.copy_ #[22, 22] ty #[.slice (some ⟨g, o, none⟩) dLen dCap, .slice A n c]).run Try.prog w = .ok (.int .i64 (k : Int)) (w.setRow g (setB cur o ((l.take k).map bv))) := by
  subst hn
  obtain ⟨i0, hi0, hz0, hz1, hz2⟩ := info_parts byte_info
  have hkl : k ≤ l.length := by rw [hk]; exact Nat.min_le_left _ _
  have hlen : ((l.take k).map bv).length = k := by simp; omega
  rcases A with _ | ad
  · have h0 : l = [] := by
      cases l with
      | nil => rfl
      | cons x r => obtain ⟨b, off, h, _⟩ := hr 0 (by simp); cases h
    subst h0
    have hk0 : k = 0 := by simp at hkl; exact hkl
    subst hk0
    simp only [List.take_nil, List.map_nil, setB_nil, setRow_self w g cur T _ hg]
    simp [Builtin.copy_, run_underlying Try.underlying22, Builtin.lenOf, Builtin.firstCells, sizeOf, typeInfo, hi0, goInt, storeCells]
  · have hr2 := run_copy_row (P := Try.prog) w 22 22 ty 5 g o dLen dCap ad l.length c cur T ((l.take k).map bv) Try.underlying22 (by rw [hi0]; simp [hz1]) hg (by rw [hlen, hk])
      (fun j v hj => (hr.take k hkl).cells j v hj) (by rw [hlen]; exact hfit) one_bv
    have he : ∀ X : List Value, (cur.toList.take o ++ X ++ cur.toList.drop (o + X.length)).toArray = setB cur o X := fun X => by simp [setB, splice]
    rw [he] at hr2
    rw [hr2, hlen]
    rfl
/-- s[i:k] of bytes -/
theorem run_cut (p off n c i k : Nat) (hik : i ≤ k) (hkc : k ≤ c) (hlt : i < c) (W : World) :
    (Instr.sliceAt 22 (.slice (some ⟨p, off, none⟩) n c) (some (.int .i64 i)) (some (.int .i64 k)) none).run Try.prog W = .ok (.slice (some ⟨p, off + i, none⟩) (k - i) (c - i)) W := by
  obtain ⟨i0, hi0, hz0, hz1, hz2⟩ := info_parts byte_info
  have h3 : ¬ c = i := by omega
  simp [Instr.sliceAt, Instr.slice, Instr.sliceBounds, Instr.sliceBound, run_underlying Try.underlying22, asIntOf, sizeOf, typeInfo, hi0, hz1, hik, hkc, h3, Addr.add_lit]
end Go.Proofs.Ytibogmoemohngaa
