/- The contract of image.Put. -/
import Derived.Test.YtdojjcgciccjiaaImg1
namespace Go.Proofs.Ytdojjcgciccjiaa
open Go.RowKit

theorem splice_join (l x y : Bytes) (o : Nat) (h : o + x.length + y.length ≤ l.length) : splice (splice l o x) (o + x.length) y = splice l o (x ++ y) := by
  unfold splice
  have h1 : (l.take o).length = o := by simp; omega
  rw [List.take_append, h1, List.take_of_length_le (by omega), List.take_append, show o + x.length - o = x.length from by omega, List.take_of_length_le (Nat.le_refl _), Nat.sub_self, List.take_zero, List.append_nil]
  rw [List.drop_append, h1, List.drop_of_length_le (by omega), List.nil_append, List.drop_append, List.drop_of_length_le (by omega), List.nil_append, List.drop_drop]
  simp only [List.append_assoc, List.length_append]
  congr 4
  omega
/-- the five bytes of an entry -/
def entB (at_ len tag : Nat) : Bytes := UInt8.ofNat (tag + 1) :: (numB at_ 2 ++ numB len 2)
theorem entB_len (at_ len tag : Nat) : (entB at_ len tag).length = 5 := by simp [entB, numB_length]
def entO (h : Int) : Nat := (5 * (h - 1)).toNat

theorem raw_any (A : Option Addr) (n c : Nat) (h : Int) (w : World) (h1 : 1 ≤ h) (h2 : h ≤ 40) (hn : 200 ≤ n) (hc : n ≤ c) :
    Calls Try.prog 28 #[.slice A n c, .int .i64 h] w fun e w' => e = .returned (.slice (A.map (·.add (entO h))) 5 (c - entO h)) ∧ w = w' := by
  obtain ⟨k, rfl⟩ : ∃ k : Nat, h = (k : Int) + 1 := ⟨(h - 1).toNat, by omega⟩
  have he : Hidden (entO ((k : Int) + 1) = 5 * k) := ⟨by unfold entO; omega⟩
  have hk : k < 40 := by omega
  go_enter Try.func28, Try.ntmps28
  go_wp2
  go_ret
  rw [he.out]
  refine ⟨?_, rfl⟩
  show Ending.returned (.slice (A.map (·.add (k * 5))) ((k + 1) * 5 - k * 5) (c - k * 5)) = _
  rw [Nat.mul_comm k 5, show (k + 1) * 5 - 5 * k = 5 from by omega]

/-- an entry as a value -/
abbrev entV (h at_ len tag : Int) : Value := .agg #[.int .i64 h, .int .i64 at_, .int .i64 len, .int .i64 tag]
/-- a block of an entry's four cells -/
structure EntAt (w : World) (p : Nat) (h at_ len tag : Int) : Prop where
  c0 : w.cell? ⟨p, 0, none⟩ = some (.int .i64 h)
  c1 : w.cell? ⟨p, 1, none⟩ = some (.int .i64 at_)
  c2 : w.cell? ⟨p, 2, none⟩ = some (.int .i64 len)
  c3 : w.cell? ⟨p, 3, none⟩ = some (.int .i64 tag)
theorem EntAt.new (w : World) (h at_ len tag : Int) (t : TypeId) : EntAt (w.alloc (.cells #[.int .i64 h, .int .i64 at_, .int .i64 len, .int .i64 tag] t)) w.heap.size h at_ len tag :=
  ⟨World.cell?_alloc_mark w _ t (0, 0) 0, World.cell?_alloc_mark w _ t (0, 0) 1, World.cell?_alloc_mark w _ t (0, 0) 2, World.cell?_alloc_mark w _ t (0, 0) 3⟩
theorem EntAt.keep {w w' : World} {p : Nat} {h at_ len tag : Int} (e : EntAt w p h at_ len tag) (hk : w'.heap[p]? = w.heap[p]?) : EntAt w' p h at_ len tag :=
  ⟨(World.cell?_of_block (w := w) hk).trans e.c0, (World.cell?_of_block (w := w) hk).trans e.c1, (World.cell?_of_block (w := w) hk).trans e.c2, (World.cell?_of_block (w := w) hk).trans e.c3⟩

/-- an image with an entry -/
def putEnt (l : Bytes) (h at_ len tag : Int) : Bytes := splice l (entO h) (entB at_.toNat len.toNat tag.toNat)
theorem putEnt_len (l : Bytes) (h at_ len tag : Int) (h1 : 1 ≤ h) (h2 : h ≤ 40) (hl : 200 ≤ l.length) : (putEnt l h at_ len tag).length = l.length := by
  unfold putEnt; refine splice_len _ _ _ ?_; rw [entB_len]; unfold entO; omega

/-- what Put answers, whatever it is handed -/
def PutAns (w w' : World) (n : Nat) (l : Bytes) (h at_ len tag : Int) (v err : Value) : Prop :=
  (∃ k, err = .iface 70 (.int .i64 k)) ∨
  (err = .nilIface ∧ handleB h = true ∧ tagB tag = true ∧ lenB len = true ∧ withinB n at_ len = true ∧ ∃ g cap, v = .slice (some ⟨g, 0, none⟩) n cap ∧ w.heap.size ≤ g ∧ Row w' 5 g cap (putEnt l h at_ len tag))
/-- is an error nil? -/
def ErrIs (err : Value) (b : Bool) : Prop := (∀ (W : World) (x : Operand), (eqGuard .eql 24 x (.const .nilIface) err .nilIface).run Try.prog W = .ok () W) ∧ (∀ (W : World) (x : Operand), (eqGuard .neq 24 x (.const .nilIface) err .nilIface).run Try.prog W = .ok () W) ∧ (∀ W : World, (binOp .eql 24 err .nilIface).run Try.prog W = .ok (.bool b) W) ∧ (∀ W : World, (binOp .neq 24 err .nilIface).run Try.prog W = .ok (.bool (!b)) W)
theorem errIs_nil : ErrIs .nilIface true := ⟨fun W x => by go_simp, fun W x => by go_simp, fun W => by go_simp, fun W => by go_simp⟩
theorem errIs_some (k : Int) : ErrIs (.iface 70 (.int .i64 k)) false := ⟨fun W x => by go_simp, fun W x => by go_simp, fun W => by go_simp, fun W => by go_simp⟩
theorem PutAns.isNil {w w' : World} {n : Nat} {l : Bytes} {h at_ len tag : Int} {v err : Value} (a : PutAns w w' n l h at_ len tag v err) : ∃ b, ErrIs err b ∧
    (b = true → handleB h = true ∧ tagB tag = true ∧ lenB len = true ∧ withinB n at_ len = true ∧ ∃ g cap, v = .slice (some ⟨g, 0, none⟩) n cap ∧ w.heap.size ≤ g ∧ Row w' 5 g cap (putEnt l h at_ len tag)) := by
  rcases a with ⟨k, rfl⟩ | ⟨rfl, h1⟩
  · exact ⟨false, errIs_some k, fun h => by cases h⟩
  · exact ⟨true, errIs_nil, fun _ => h1⟩
end Go.Proofs.Ytdojjcgciccjiaa
