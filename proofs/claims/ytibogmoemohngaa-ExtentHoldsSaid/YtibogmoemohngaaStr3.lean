/- The contract of num.GetName. -/
import Derived.Test.YtibogmoemohngaaStr2
namespace Go.Proofs.Ytibogmoemohngaa
open Go.RowKit

/-- bytes as a text -/
theorem conv_text (w : World) (A : Option Addr) (n c : Nat) (l : Bytes) (hn : l.length = n) (hr : Rd w A l) : (convert 22 9 (.slice A n c)).run Try.prog w = .ok (sv l) w := by
  subst hn
  rcases A with _ | ad
  · have h0 : l = [] := by
      cases l with
      | nil => rfl
      | cons x r => obtain ⟨b, off, h, _⟩ := hr 0 (by simp); cases h
    subst h0
    have he := Try.underlying5
    simp [convert, run_underlying Try.underlying22, run_underlying Try.underlying9, run_underlying he, Conv.bytesToString]
    rfl
  · exact run_convert_bytes_back w _ _ _ ad c l Try.underlying22 Try.underlying5 Try.underlying9 (fun j hj => by
      have := hr.cells j (bv l[j]) (by simp [hj])
      exact this)

def nameAt (l : Bytes) : Bytes := l.take (l.idxOf 0)
def nameRest (l : Bytes) : Bytes := l.drop (l.idxOf 0)
def gotName (l : Bytes) : Bool := isName (nameAt l) && !(nameRest l).any nonZero

theorem getName_e3 (A : Option Addr) (n c : Nat) (w : World) (h8 : n ≠ 8) :
    Calls Try.prog 88 #[.slice A n c] w fun e w' => e = .returned (.tuple #[sv [], .iface 78 (.int .i64 3)]) ∧ w = w' := by
  have h8' : ((n : Int) != 8) = true := by simp; omega
  clear h8
  go_enter Try.func88, Try.ntmps88
  go_wp2
  go_ret2
  exact ⟨rfl, rfl⟩
set_option maxRecDepth 100000 in
theorem getName_any (A : Option Addr) (c : Nat) (l : Bytes) (w : World) (h8 : l.length = 8) (hc : 8 ≤ c) (hr : Rd w A l) :
    Calls Try.prog 88 #[.slice A 8 c] w fun e w' => e = .returned (.tuple (if gotName l = true then #[sv (nameAt l), .nilIface] else #[sv [], .iface 78 (.int .i64 2)])) ∧ Below w.heap.size w w' := by
  generalize hres : (if gotName l = true then #[sv (nameAt l), .nilIface] else #[sv [], .iface 78 (.int .i64 2)]) = res
  have HRES := Hidden.mk hres
  clear hres
  go_enter Try.func88, Try.ntmps88
  go_wp2_with fail
  refine (index_any A 8 c l 0 _ h8 (by simp [maxLen]) hr).mono ?_
  rintro e w1 ⟨rfl, rfl⟩
  by_cases hz : (0 : UInt8) ∈ l
  · have hk : l.idxOf 0 < l.length := List.idxOf_lt_length_of_mem hz
    have hi : idxB l 0 = (l.idxOf 0 : Nat) := if_pos hz
    rw [hi]
    have hna : Rd w A (nameAt l) := hr.take _ (by omega)
    have hlen : (nameAt l).length = l.idxOf 0 := by simp [nameAt]; omega
    have HN : Hidden (nameRest l = l.drop (l.idxOf 0)) := ⟨rfl⟩
    generalize l.idxOf 0 = k at *
    have hcv := conv_text w A k c (nameAt l) hlen hna
    go_wp2_with fail
    refine (name_any (nameAt l) _ (by omega)).mono ?_
    rintro e w2 ⟨rfl, hb2⟩
    cases hnm : isName (nameAt l) with
    | false =>
      have hr2 : Hidden (#[sv [], .iface 78 (.int .i64 2)] = res) := ⟨by rw [← HRES.out]; simp [gotName, hnm]⟩
      clear hnm
      go_wp2_with fail
      go_ret2
      exact ⟨congrArg (fun r => Ending.returned (.tuple r)) hr2.out, hb2⟩
    | true =>
      have hrest : Rd w2 (A.map (·.add k)) ((l.drop k).take (8 - k)) := (hr.below hb2).cut k (8 - k) (by omega)
      rw [List.take_of_length_le (by simp; omega), ← HN.out] at hrest
      have hlr : (nameRest l).length = 8 - k := by rw [HN.out]; simp; omega
      go_wp2_with fail
      refine (containsf_zero _ _ _ (nameRest l) _ hlr (by simp only [maxLen]; omega) hrest).mono ?_
      rintro e w3 ⟨rfl, rfl⟩
      cases hz2 : (nameRest l).any nonZero with
      | true =>
        have hr2 : Hidden (#[sv [], .iface 78 (.int .i64 2)] = res) := ⟨by rw [← HRES.out]; simp [gotName, hz2]⟩
        clear hnm hz2
        go_wp2_with fail
        go_ret2
        exact ⟨congrArg (fun r => Ending.returned (.tuple r)) hr2.out, hb2⟩
      | false =>
        have hr2 : Hidden (#[sv (nameAt l), .nilIface] = res) := ⟨by rw [← HRES.out]; simp [gotName, hnm, hz2]⟩
        clear hnm hz2
        go_wp2_with fail
        go_ret2
        exact ⟨congrArg (fun r => Ending.returned (.tuple r)) hr2.out, hb2⟩
  · have hi : idxB l 0 = -1 := if_neg hz
    rw [hi]
    have hk : l.idxOf 0 = 8 := by rw [List.idxOf_eq_length hz, h8]
    have hna : Rd w A (nameAt l) := hr.take _ (by omega)
    have hlen : (nameAt l).length = 8 := by simp [nameAt]; omega
    have hrest0 : nameRest l = [] := by simp [nameRest, hk]; omega
    have hcv := conv_text w A 8 c (nameAt l) hlen hna
    clear hk hz hi
    go_wp2_with fail
    refine (name_any (nameAt l) _ (by omega)).mono ?_
    rintro e w2 ⟨rfl, hb2⟩
    cases hnm : isName (nameAt l) with
    | false =>
      have hr2 : Hidden (#[sv [], .iface 78 (.int .i64 2)] = res) := ⟨by rw [← HRES.out]; simp [gotName, hnm]⟩
      clear hnm hrest0
      go_wp2_with fail
      go_ret2
      exact ⟨congrArg (fun r => Ending.returned (.tuple r)) hr2.out, hb2⟩
    | true =>
      have hr2 : Hidden (#[sv (nameAt l), .nilIface] = res) := ⟨by rw [← HRES.out]; simp [gotName, hnm, hrest0]⟩
      clear hnm hrest0
      go_wp2_with fail
      all_goals
        refine (containsf_zero _ _ _ [] _ rfl (by simp) Rd.nil_).mono ?_
        rintro e w3 ⟨rfl, rfl⟩
        go_wp2_with fail
        go_ret2
        exact ⟨congrArg (fun r => Ending.returned (.tuple r)) hr2.out, hb2⟩
end Go.Proofs.Ytibogmoemohngaa
