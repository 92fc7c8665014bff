/- The contracts of num.Get, slices.Clone and num.Put. -/
import Derived.Test.YtibogmoemohngaaNum2
namespace Go.Proofs.Ytibogmoemohngaa
open Go.RowKit

/-- an error of the program: nil, or a number of api.Errno -/
def errV (n : Nat) : Value := if n = 0 then .nilIface else .iface 78 (.int .i64 n)
def getE (n : Nat) (at_ size : Int) : Nat := if 1 ≤ size ∧ size ≤ 4 then (if at_ < 0 ∨ (n : Int) - size < at_ then 3 else 0) else 1
def getN (l : Bytes) (at_ size : Int) : Nat := ofB ((l.drop at_.toNat).take size.toNat)

theorem byte_info : (Try.prog.info? 5).map (fun i => (i.zero, i.size, i.bytes)) = some (some (.int .u8 0), 1, 1) := by kernel_rfl

/-- slices.Clone of bytes: nil stays nil, else the call's own -/
theorem clone_nil (n c : Nat) (w : World) : Calls Try.prog 37 #[.slice none n c] w fun e w' => e = .returned (.slice none 0 0) ∧ w = w' := by
  have he := fun W => Lib.run_eql_slice_nil (P := Try.prog) W 22 5 none n c 0 0 Try.underlying22
  go_enter Try.func37, Try.ntmps37
  go_wp2
  go_ret
  exact ⟨rfl, rfl⟩
theorem clone_some (ad : Addr) (n c : Nat) (l : Bytes) (w : World) (hn : l.length = n) (hl : n ≤ 140737488351232) (hr : Rd w (some ad) l) :
    Calls Try.prog 37 #[.slice (some ad) n c] w fun e w' => ∃ g cap, e = .returned (.slice (some ⟨g, 0, none⟩) n cap) ∧ w.heap.size ≤ g ∧ Row w' 5 g cap l ∧ Below w.heap.size w w' := by
  subst hn
  have he := fun W => Lib.run_eql_slice_nil (P := Try.prog) W 22 5 (some ad) l.length c 0 0 Try.underlying22
  obtain ⟨i0, hi0, hz0, hz1, hz2⟩ := info_parts byte_info
  go_enter Try.func37, Try.ntmps37
  have hown := World.ownsRow_lit (base := w.heap.size) (e := 5) (size := 1) w #[] 0 (Nat.le_refl _) (by simp) rfl
  have hr1 : Rd (w.alloc (.cells #[] 5)) (some ad) l := hr.below ((Below.refl _ _).alloc (Nat.le_refl _) _)
  go_wp2_with (at_builtin; refine wpList_append_own _ rfl (.tmp 5) (.tmp 6) _ rfl w.heap.size 5 i0 _ 1 1 Try.underlying22 hi0 hz0 hz1 hz2 rfl (by decide) (.slice (some ⟨w.heap.size, 0, none⟩) 0 0) 0 [] rfl hown ad l.length c (l.map bv) rfl (by simp) hr1.cells one_bv (by simp only [maxLen]; omega) (by omega) (by simp) ?_; intro v1 w1 hown1 hg1 hnn)
  go_ret
  have hnn' : v1 ≠ .slice none 0 0 := fun h => by have := hnn.1 h; simp at this
  obtain ⟨g, cap, rfl, hbg, hrow⟩ := Row.of_own (l := l) (by simpa [Own] using hown1) hnn'
  refine ⟨g, cap, rfl, hbg, hrow, ?_⟩
  · exact ((Below.refl _ _).alloc (Nat.le_refl _) _).grown hg1 (by simp) (fun k hk => by simp [Value.ownBlock] at hk; omega)

def putE (n : Nat) (at_ x size : Int) : Nat := if 1 ≤ size ∧ size ≤ 4 ∧ 0 ≤ x ∧ x ≤ mostN size then (if at_ < 0 ∨ (n : Int) - size < at_ then 3 else 0) else 1
def putB (l : Bytes) (at_ x size : Int) : Bytes := splice l at_.toNat (numB x.toNat size.toNat)
theorem isNil_err (n : Nat) : errV (n + 1) ≠ .nilIface := by simp [errV]
end Go.Proofs.Ytibogmoemohngaa
