/- The contracts of package device: Read and Write. -/
import Derived.Test.YtlkibidblpdjcaaDoorDev1
import Derived.Deep.RegionHeld3
namespace Go.Proofs.YtlkibidblpdjcaaDoor
open Go.RowKit Go.Maps Go.ChangeMaps

theorem wf_nat {n : Nat} (hn : n ≤ 100000) : (Lit.int .i64 (n : Int)).wf = true := by
  have : (-9223372036854775808 : Int) ≤ n ∧ (n : Int) ≤ 9223372036854775807 := by omega
  simpa [Lit.wf, IntKind.min, IntKind.max, IntKind.bits, IntKind.signed] using this
theorem int_key {n : Nat} (hn : n ≤ 100000) : keyOf Tryd.prog 3 (.int .i64 (n : Int)) = some (natL n) := keyOf_int_mk Tryd.underlying3 (wf_nat hn)
theorem int_keyed : Go.Maps.Keyed Tryd.prog 3 := Go.Maps.int_keyed Tryd.underlying3
theorem zero_bytes (w : World) : (zeroValue 29).run Tryd.prog w = .ok (.slice none 0 0) w := by kernel_rfl
theorem int_info : (Tryd.prog.info? 3).map (fun i => (i.zero, i.size, i.bytes)) = some (some (.int .i64 0), 1, 8) := by kernel_rfl
/-- what a sector reads as -/
def readD (D : Dv) (i : Nat) : Bytes := if i ∈ D.O then D.M i else D.S.getD i []
def InO (D : Dv) (i : Nat) : Prop := i ∈ D.O
theorem dread_e1 (i : Int) (w : World) (F : Nat → Prop) (d : Nat) (D : Dv) (Y : Lay) (live : Nat → Prop) (h : DevIs w F d D Y live) (hi : i < 0 ∨ (D.S.length : Int) ≤ i) :
    Calls Tryd.prog 12 #[.pointer (some ⟨d, 0, none⟩), .int .i64 i] w fun e w' => e = .returned (.tuple #[.slice none 0 0, .iface 112 (.int .i64 1)]) ∧ w = w' := by
  obtain ⟨⟨c0, c1, c2, c3, c4⟩, -⟩ := five h.hd
  rcases hi with hi | hi
  · clear h
    go_enter Tryd.func12, Tryd.ntmps12
    go_wp2_with fail
    go_ret2
    exact ⟨rfl, rfl⟩
  · have h0 := h.n0
    have t1 : decide (i < 0) = false := by simp; omega
    have t2 : decide ((D.S.length : Int) ≤ i) = true := by simpa using hi
    clear h
    go_enter Tryd.func12, Tryd.ntmps12
    go_wp2_with fail
    go_ret2
    exact ⟨rfl, rfl⟩
theorem dread_e9 (i : Nat) (w : World) (F : Nat → Prop) (d : Nat) (D : Dv) (Y : Lay) (live : Nat → Prop) (h : DevIs w F d D Y live) (hi : i < D.S.length) (hd : D.down = true) :
    Calls Tryd.prog 12 #[.pointer (some ⟨d, 0, none⟩), .int .i64 (i : Int)] w fun e w' => e = .returned (.tuple #[.slice none 0 0, .iface 112 (.int .i64 9)]) ∧ w = w' := by
  obtain ⟨⟨c0, c1, c2, c3, c4⟩, -⟩ := five h.hd
  have t2 : decide ((D.S.length : Int) ≤ i) = false := by simp; omega
  have t3 : decide (D.S.length ≤ i) = false := by simp; omega
  rw [hd] at c4
  clear h hd
  go_enter Tryd.func12, Tryd.ntmps12
  go_wp2_with fail
  go_ret2
  exact ⟨rfl, rfl⟩
set_option maxRecDepth 100000 in
theorem dread_ok (i : Nat) (w : World) (F : Nat → Prop) (d : Nat) (D : Dv) (Y : Lay) (h : DevIs w F d D Y (InO D)) (hi : i < D.S.length) (hd : D.down = false) :
    Calls Tryd.prog 12 #[.pointer (some ⟨d, 0, none⟩), .int .i64 (i : Int)] w fun e w' => ∃ g cap, e = .returned (.tuple #[.slice (some ⟨g, 0, none⟩) 32 cap, .nilIface]) ∧ w.heap.size ≤ g ∧ Row w' 5 g cap (readD D i) ∧ (readD D i).length = 32 ∧ Below w.heap.size w w' := by
  obtain ⟨⟨c0, c1, c2, c3, c4⟩, -⟩ := five h.hd
  have t2 : decide ((D.S.length : Int) ≤ i) = false := by simp; omega
  have t3 : decide (D.S.length ≤ i) = false := by simp; omega
  have n1 := h.n1
  rw [hd] at c4
  by_cases hO : i ∈ D.O
  · have hf : memF D.O Y i = some (rowV (Y.mb i) (Y.mc i)) := by unfold memF; rw [if_pos hO]
    have hl := (h.mem.look_some int_keyed (T := 113) Tryd.underlying113 (zero_bytes w) (int_key (n := i) (by omega)) hf).1
    unfold rowV at hl
    have hrow := h.mrow i hO
    have hlen := (h.mlen i hO).2
    have HR : Hidden (readD D i = D.M i) := ⟨by unfold readD; rw [if_pos hO]⟩
    generalize D.M i = b at *
    clear h hf hd hO
    go_enter Tryd.func12, Tryd.ntmps12
    go_wp2_with fail
    refine (clone_some _ _ _ b _ hlen (by omega) hrow.rd).mono ?_
    rintro e w1 ⟨g, cap, rfl, hg, hr, hb⟩
    go_wp2_with fail
    go_ret2
    exact ⟨g, cap, rfl, hg, by rw [HR.out]; exact hr, by rw [HR.out]; exact hlen, hb⟩
  · have hf : memF D.O Y i = none := by unfold memF; rw [if_neg hO]
    have hl := (h.mem.look_none int_keyed (T := 113) Tryd.underlying113 (zero_bytes w) (int_key (n := i) (by omega)) hf).1
    obtain ⟨hrow, hlen⟩ := h.row i hi
    have HR : Hidden (readD D i = D.S[i]) := ⟨by unfold readD; rw [if_neg hO]; simp [hi]⟩
    obtain ⟨cur, hs, hcs, hcur⟩ := h.sec
    have hcell : w.cell? ⟨Y.gs, i, none⟩ = some (.slice (some ⟨Y.sb i, 0, none⟩) 32 (Y.sc i)) := by
      rw [cell_of_row w Y.gs i cur _ _ hs]; exact hcur i hi
    have i0 : (0 : Int) ≤ i := by omega
    have i1 : (i : Int) < D.S.length := by omega
    generalize D.S[i] = b at *
    clear h hf hd hO hs hcs hcur
    go_enter Tryd.func12, Tryd.ntmps12
    go_wp2_with fail
    refine (clone_some _ _ _ b _ hlen (by omega) hrow.rd).mono ?_
    rintro e w1 ⟨g, cap, rfl, hg, hr, hb⟩
    go_wp2_with fail
    go_ret2
    exact ⟨g, cap, rfl, hg, by rw [HR.out]; exact hr, by rw [HR.out]; exact hlen, hb⟩
/-- a device in which something more is pending -/
def putD (D : Dv) (i : Nat) (b : Bytes) : Dv := { D with O := if i ∈ D.O then D.O else D.O ++ [i], M := fun k => if k = i then b else D.M k }
def growF (F : Nat → Prop) (w w' : World) : Nat → Prop := fun k => (F k ∨ w.heap.size ≤ k) ∧ k < w'.heap.size
theorem putD_mem (D : Dv) (i : Nat) (b : Bytes) (k : Nat) : k ∈ (putD D i b).O ↔ k ∈ D.O ∨ k = i := by
  unfold putD
  by_cases hi : i ∈ D.O
  · simp only [if_pos hi]
    exact ⟨.inl, fun h => by rcases h with h | rfl; exact h; exact hi⟩
  · simp [if_neg hi]
theorem DevIs.wrote {w w' : World} {F : Nat → Prop} {d : Nat} {D : Dv} {Y : Lay} (h : DevIs w F d D Y (InO D)) (i : Nat) (hi : i < D.S.length) (b : Bytes) (hbl : b.length = 32) (vo' : Value) (g c cnt : Nat)
    (hh : w'.heap[d]? = some (.cells #[.slice (some ⟨Y.gs, 0, none⟩) D.S.length Y.cs, .map (some Y.gm), vo', .int .i64 D.left, .bool D.down] 115 (0, 0)))
    (ho : w'.ownsRow 0 3 1 vo' (putD D i b).O.length ((putD D i b).O.map fun i : Nat => .int .i64 (i : Int))) (hvo : ∀ q, vo'.ownBlock = some q → growF F w w' q)
    (him : IM Tryd.prog 3 natL w' Y.gm (upd (memF D.O Y) i (rowV g c)) cnt) (hcnt : cnt = (putD D i b).O.length)
    (hrow : Row w' 5 g c b) (hg : w.heap.size ≤ g)
    (hb : ∀ k, F k → k ≠ d → k ≠ Y.gm → Y.vo.ownBlock ≠ some k → w'.heap[k]? = w.heap[k]?) (hs : w.heap.size ≤ w'.heap.size) :
    DevIs w' (growF F w w') d (putD D i b) { Y with vo := vo', mb := fun k => if k = i then g else Y.mb k, mc := fun k => if k = i then c else Y.mc k } (InO (putD D i b)) := by
  have hF : ∀ k, F k → growF F w w' k := fun k hk => ⟨.inl hk, Nat.lt_of_lt_of_le (h.flt k hk) hs⟩
  have hsec := h.sec
  have hmb : ∀ k, k ∈ D.O → Y.mb k < w.heap.size := fun k hk => h.flt _ (h.fb k hk)
  have hsb : ∀ k, k < D.S.length → Y.sb k < w.heap.size := fun k hk => h.flt _ (h.fr k hk)
  have hrowb : ∀ {q cap : Nat} {l : Bytes}, F q → Row w 5 q cap l → Row w' 5 q cap l := fun {q cap l} hf hr => by
    obtain ⟨cur, h0, _⟩ := id hr
    refine hr.block (hb q hf (DevIs.ne_row h.hd hr (by decide)).symm (DevIs.ne_map h0 h.mem) ?_)
    exact DevIs.ne_own h0 h.ord (by decide)
  refine { hd := hh, sec := ?_, cap := h.cap, row := ?_, ord := ho, mem := ?_, mrow := ?_, mlen := ?_, liv := fun _ hi => hi, inj1 := h.inj1, inj2 := ?_, inj3 := ?_, nd := ?_, n0 := h.n0, n1 := h.n1, l0 := h.l0, l1 := h.l1, fd := hF _ h.fd, fs := hF _ h.fs, fm := hF _ h.fm, fo := hvo, fr := fun k hk => hF _ (h.fr k hk), fb := ?_, flt := fun k hk => hk.2 }
  · obtain ⟨cur, h0, h1⟩ := hsec
    exact ⟨cur, (hb _ h.fs (DevIs.ne_cells h.hd h0 (by decide)).symm (DevIs.ne_map h0 h.mem) (DevIs.ne_own h0 h.ord (by decide))).trans h0, h1⟩
  · exact fun k hk => ⟨hrowb (h.fr k hk) (h.row k hk).1, (h.row k hk).2⟩
  · rw [← hcnt]
    refine (?_ : upd (memF D.O Y) i (rowV g c) = memF (putD D i b).O { Y with vo := vo', mb := fun k => if k = i then g else Y.mb k, mc := fun k => if k = i then c else Y.mc k }) ▸ him
    funext k
    unfold upd memF
    by_cases hk : k = i
    · subst hk
      rw [if_pos rfl, if_pos ((putD_mem D k b k).2 (.inr rfl))]
      simp
    · rw [if_neg hk]
      by_cases hko : k ∈ D.O
      · rw [if_pos hko, if_pos ((putD_mem D i b k).2 (.inl hko))]
        simp [hk]
      · rw [if_neg hko, if_neg (fun hx => by rcases (putD_mem D i b k).1 hx with h' | h'; exact hko h'; exact hk h')]
  · intro k hk
    show Row w' 5 (if k = i then g else Y.mb k) (if k = i then c else Y.mc k) (if k = i then b else D.M k)
    by_cases hki : k = i
    · rw [if_pos hki, if_pos hki, if_pos hki]; exact hrow
    · rw [if_neg hki, if_neg hki, if_neg hki]
      have hko : k ∈ D.O := by rcases (putD_mem D i b k).1 hk with h' | h'; exact h'; exact absurd h' hki
      exact hrowb (h.fb k hko) (h.mrow k hko)
  · intro k hk
    show k < D.S.length ∧ (if k = i then b else D.M k).length = 32
    by_cases hki : k = i
    · rw [if_pos hki]; exact ⟨hki ▸ hi, hbl⟩
    · rw [if_neg hki]
      have hko : k ∈ D.O := by rcases (putD_mem D i b k).1 hk with h' | h'; exact h'; exact absurd h' hki
      exact h.mlen k hko
  · intro k j hk hj he
    have hk' := (putD_mem D i b k).1 hk
    have hj' := (putD_mem D i b j).1 hj
    simp only at he
    by_cases hki : k = i
    · by_cases hji : j = i
      · rw [hki, hji]
      · rw [if_pos hki, if_neg hji] at he
        have hjo : j ∈ D.O := by rcases hj' with h' | h'; exact h'; exact absurd h' hji
        have := hmb j hjo; omega
    · have hko : k ∈ D.O := by rcases hk' with h' | h'; exact h'; exact absurd h' hki
      by_cases hji : j = i
      · rw [if_neg hki, if_pos hji] at he
        have := hmb k hko; omega
      · rw [if_neg hki, if_neg hji] at he
        have hjo : j ∈ D.O := by rcases hj' with h' | h'; exact h'; exact absurd h' hji
        exact h.inj2 k j hko hjo he
  · intro k j hk hj
    show Y.sb k ≠ (if j = i then g else Y.mb j)
    by_cases hji : j = i
    · rw [if_pos hji]; have := hsb k hk; omega
    · rw [if_neg hji]
      have hjo : j ∈ D.O := by rcases (putD_mem D i b j).1 hj with h' | h'; exact h'; exact absurd h' hji
      exact h.inj3 k j hk hjo
  · show (if i ∈ D.O then D.O else D.O ++ [i]).Nodup
    by_cases hi : i ∈ D.O
    · rw [if_pos hi]; exact h.nd
    · rw [if_neg hi, List.nodup_append]
      exact ⟨h.nd, by simp, fun x hx y hy e => hi (by simp at hy; rw [← hy, ← e]; exact hx)⟩
  · intro k hk
    show growF F w w' (if k = i then g else Y.mb k)
    by_cases hki : k = i
    · rw [if_pos hki]; exact ⟨.inr hg, hrow.lt⟩
    · rw [if_neg hki]
      have hko : k ∈ D.O := by rcases (putD_mem D i b k).1 hk with h' | h'; exact h'; exact absurd h' hki
      exact hF _ (h.fb k hko)
end Go.Proofs.YtlkibidblpdjcaaDoor
