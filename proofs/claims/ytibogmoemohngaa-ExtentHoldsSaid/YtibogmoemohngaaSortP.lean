/- A row of structs that the library has sorted: what it holds then. No program in sight. -/
import Derived.Test.YtibogmoemohngaaRows2
import Derived.Shelf.SlSortCmp.WholeK
namespace Go.Proofs.Ytibogmoemohngaa
open Go.RowKit Go.Sort Go.Shelf Go.Lib

theorem flatK_list {α : Type} [Inhabited α] (enc : α → List Value) (k : Nat) (hk : ∀ x, (enc x).length = k) (h0 : 0 < k) (d : Array α) : (flatK enc k d).toList = d.toList.flatMap enc := by
  apply List.ext_getElem?
  intro t
  by_cases ht : t < d.size * k
  · have h1 : t / k < d.size := by rw [Nat.div_lt_iff_lt_mul h0]; exact ht
    have h2 := flat_at enc k hk d.toList (t / k) (by simpa using h1) (t % k) (Nat.mod_lt _ h0)
    rw [Nat.div_add_mod' t k] at h2
    rw [h2]
    have h3 : t < (flatK enc k d).size := by simpa using ht
    have h4 := get_flatK enc k d t ht
    rw [getElem!_pos _ t h3] at h4
    rw [Array.getElem?_toList, Array.getElem?_eq_getElem h3, h4]
    have h5 : t % k < (enc d[t / k]!).length := by rw [hk]; exact Nat.mod_lt _ h0
    have h6 : d[t / k]! = d.toList[t / k]'(by simpa using h1) := by rw [getElem!_pos d (t / k) h1, Array.getElem_toList]
    rw [getElem!_pos (enc d[t / k]!) (t % k) h5, ← h6, List.getElem?_eq_getElem h5]
  · have hl : (d.toList.flatMap enc).length = d.size * k := by
      rw [List.length_flatMap]
      have : d.toList.map (fun x => (enc x).length) = List.replicate d.size k := by
        rw [List.eq_replicate_iff]
        exact ⟨by simp, fun b hb => by obtain ⟨x, _, rfl⟩ := List.mem_map.1 hb; exact hk x⟩
      rw [this]; simp
    rw [List.getElem?_eq_none (by rw [Array.length_toList, size_flatK]; omega), List.getElem?_eq_none (by omega)]
theorem take_putCellsK (cur F : Array Value) (h : F.size ≤ cur.size) : (putCells id 0 F cur).toList.take F.size = F.toList := by
  apply List.ext_getElem?
  intro j
  by_cases hj : j < F.size
  · rw [List.getElem?_take_of_lt hj, Array.getElem?_toList]
    simp [putCells, hj, show j < cur.size by omega]
  · rw [List.getElem?_take_eq_none (by omega), List.getElem?_eq_none (by simp; omega)]
theorem holdsK_own {α : Type} [Inhabited α] {enc : α → List Value} {k : Nat} (hk : ∀ x, (enc x).length = k) (h0 : 0 < k) {w : World} {base : Nat} {e : TypeId} {g n cap : Nat} {L : List α} (h : w.ownsRow base e k (.slice (some ⟨g, 0, none⟩) n cap) n (L.flatMap enc)) :
    HoldsK enc k w g 0 L.toArray := by
  rcases h.2 with ⟨h1, _⟩ | ⟨g', cap', cur, he, _, hh, _⟩
  · cases h1
  · injection he with he _ hcap
    injection he with he
    injection he with he
    subst he hcap
    intro j hj
    have hf := flatK_list enc k hk h0 L.toArray
    have hj' : j < L.length * k := by simpa using hj
    have hc : (L.flatMap enc)[j]? = some ((flatK enc k L.toArray)[j]!) := by
      have : (flatK enc k L.toArray).toList[j]? = some ((flatK enc k L.toArray)[j]!) := by
        rw [getElem!_pos _ j hj, Array.getElem?_toList, Array.getElem?_eq_getElem hj]
      rw [hf] at this
      simpa using this
    have := h.cells (g := g) rfl j _ hc
    rw [Addr.add_lit] at this
    exact ⟨this, by simp [World.frozen?, hh]⟩
theorem own_sortedK {α : Type} [Inhabited α] {enc : α → List Value} {k : Nat} (hk : ∀ x, (enc x).length = k) (h0 : 0 < k) {w : World} {base : Nat} {e : TypeId} {g n cap m : Nat} {L : List α} {d : Array α} {os : Array Obj} (hd : d.size = n) (h : w.ownsRow base e k (.slice (some ⟨g, 0, none⟩) n cap) n (L.flatMap enc)) :
    (sortWorldK enc k w g 0 m d os).ownsRow base e k (.slice (some ⟨g, 0, none⟩) n cap) n (d.toList.flatMap enc) ∧ w.grownBy (sortWorldK enc k w g 0 m d os) (some g) := by
  rcases h.2 with ⟨h1, _⟩ | ⟨g', cap', cur, he, hb, hh, hc, hm, hz, ht⟩
  · cases h1
  · injection he with he _ hcap
    injection he with he
    injection he with he
    subst he hcap
    have hg : g < w.heap.size := (Array.getElem?_eq_some_iff.1 hh).1
    have hfs : (flatK enc k d).size = n * k := by simp [hd]
    have hheap : (sortWorldK enc k w g 0 m d os).heap[g]? = some (.cells (putCells id 0 (flatK enc k d) cur) e (0, 0)) := by
      unfold sortWorldK
      rw [heap_grow_old _ _ (by simpa [putRowK] using hg)]
      simp [putRowK, putRow, mapBlock, Sort.ahead, Array.getElem?_modify, hh, onCells]
    have hle : n * k ≤ cap * k := Nat.mul_le_mul_right _ hc
    refine ⟨⟨?_, .inr ⟨g, cap, _, rfl, hb, hheap, hc, hm, by simp [putCells, hz], ?_⟩⟩, ?_⟩
    · rw [← flatK_list enc k hk h0 d, Array.length_toList, hfs]
    · rw [← hfs, take_putCellsK _ _ (by rw [hfs, hz]; exact hle), flatK_list enc k hk h0 d]
    · unfold sortWorldK
      refine ⟨rfl, rfl, rfl, by simp [putRowK], fun q hq hne => ?_⟩
      rw [heap_grow_old _ _ (by simpa [putRowK] using hq)]
      have : g ≠ q := fun e => hne (by rw [e])
      simp [putRowK, putRow, mapBlock, Sort.ahead, Array.getElem?_modify, this]
/-- sorted as the library sorts -/
def pdqL {α : Type} [Inhabited α] (cf : α → α → Int) (l : List α) : List α := (pdq (ltOf cf) l.toArray 0 l.length (Lib.bitLen l.length) true true).toList
theorem pdqL_perm {α : Type} [Inhabited α] (cf : α → α → Int) (hO : SWO (ltOf cf)) (l : List α) : (pdqL cf l).Perm l ∧ (pdqL cf l).Pairwise (fun a b => ltOf cf b a = false) := by
  have h := pdq_sorts (ltOf cf) hO l.toArray 0 l.length (Lib.bitLen l.length) true true (Nat.zero_le _) (by simp) (Or.inl rfl)
  obtain ⟨⟨hs, _, hp⟩, hsort⟩ := h
  have hs' : (pdq (ltOf cf) l.toArray 0 l.length (Lib.bitLen l.length) true true).size = l.length := by simpa using hs
  refine ⟨?_, ?_⟩
  · unfold pdqL
    have e1 : ∀ d : Array α, d.size = l.length → (d.extract 0 l.length).toList = d.toList := fun d hd => by
      rw [← hd]; simp
    rw [e1 _ hs', e1 _ (by simp)] at hp
    simpa using hp
  · unfold pdqL
    rw [List.pairwise_iff_getElem]
    intro i j hi hj hij
    have h1 := hsort i j (Nat.zero_le _) hij (by rw [Array.length_toList] at hj; omega)
    rw [getElem!_pos _ j (by simpa using hj), getElem!_pos _ i (by simpa using hi)] at h1
    simpa using h1
end Go.Proofs.Ytibogmoemohngaa
