/- The contract of image.PutRoot. -/
import Derived.Test.YtmahnlkbbpbeoaaImg2
import Derived.Test.YtmahnlkbbpbeoaaNumBack1
import Derived.Test.YtmahnlkbbpbeoaaStamp1
namespace Go.Proofs.Ytmahnlkbbpbeoaa
open Go.RowKit

abbrev rootV (s : Bytes) (h : Int) : Value := .agg #[sv s, .int .i64 h]
def rootO (i : Int) : Nat := (200 + i * 11).toNat
theorem rawRoot_any (A : Option Addr) (n c : Nat) (i : Int) (w : World) (h1 : 0 ≤ i) (h2 : i < 8) (hn : 288 ≤ n) (hc : n ≤ c) :
    Calls Try.prog 41 #[.slice A n c, .int .i64 i] w fun e w' => e = .returned (.slice (A.map (·.add (rootO i))) 11 (c - rootO i)) ∧ w = w' := by
  obtain ⟨k, rfl⟩ := Int.eq_ofNat_of_zero_le h1
  have he : Hidden (rootO (k : Int) = 200 + k * 11) := ⟨by unfold rootO; omega⟩
  have hk : k < 8 := by omega
  go_enter Try.func41, Try.ntmps41
  go_wp2
  go_ret
  rw [he.out]
  refine ⟨?_, rfl⟩
  show Ending.returned (.slice (A.map (·.add (200 + k * 11))) ((200 + (k + 1) * 11) - (200 + k * 11)) (c - (200 + k * 11))) = _
  rw [show (200 + (k + 1) * 11) - (200 + k * 11) = 11 from by omega]

/-- the eleven bytes of a root -/
def rootB (s : Bytes) (h : Int) : Bytes := nameB s ++ [0, 0, UInt8.ofNat h.toNat]
end Go.Proofs.Ytmahnlkbbpbeoaa
