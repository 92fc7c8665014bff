/- The contracts of package device: Len, Down, step, Fail, forget. -/
import Derived.Test.YtlkibidblpdjcaaDoorDev0
namespace Go.Proofs.YtlkibidblpdjcaaDoor
open Go.RowKit

theorem five {w : World} {d : Nat} {a b c e f : Value} {t : TypeId} (h : w.heap[d]? = some (.cells #[a, b, c, e, f] t (0, 0))) :
    (w.cell? ⟨d, 0, none⟩ = some a ∧ w.cell? ⟨d, 1, none⟩ = some b ∧ w.cell? ⟨d, 2, none⟩ = some c ∧ w.cell? ⟨d, 3, none⟩ = some e ∧ w.cell? ⟨d, 4, none⟩ = some f) ∧ ∀ k, w.frozen? ⟨d, k, none⟩ = false := by
  refine ⟨⟨?_, ?_, ?_, ?_, ?_⟩, fun k => by simp [World.frozen?, h]⟩ <;> simp [World.cell?, h]
theorem heap_set5 {w : World} {d k : Nat} {cur : Array Value} {t : TypeId} (h : w.heap[d]? = some (.cells cur t (0, 0))) (v : Value) : (w.setCell ⟨d, k, none⟩ v).heap[d]? = some (.cells (cur.setIfInBounds k v) t (0, 0)) := by
  rw [setCell_eq_setRow w d k cur t _ _ h]
  exact setRow_heap w d cur _ t _ h
theorem Keep.setCell {F : Nat → Prop} {w w' : World} (h : Keep F w w') {p : Addr} (hp : F p.block ∨ w.heap.size ≤ p.block) (u : Value) : Keep F w (w'.setCell p u) :=
  ⟨h.os, h.tape, h.output, by simpa using h.size, fun k hk hn => by
    have : k ≠ p.block := fun e => by rcases hp with h' | h'; exact hn (e ▸ h'); omega
    exact (Below.heap_setCell w' p u k this).trans (h.block k hk hn)⟩
theorem dlen_any (w : World) (F : Nat → Prop) (d : Nat) (D : Dv) (Y : Lay) (live : Nat → Prop) (h : DevIs w F d D Y live) :
    Calls Tryd.prog 26 #[.pointer (some ⟨d, 0, none⟩)] w fun e w' => e = .returned (.int .i64 D.S.length) ∧ w = w' := by
  obtain ⟨⟨c0, c1, c2, c3, c4⟩, -⟩ := five h.hd
  go_enter Tryd.func26, Tryd.ntmps26
  go_wp2_with fail
  go_ret
  exact ⟨rfl, rfl⟩
theorem ddown_any (w : World) (F : Nat → Prop) (d : Nat) (D : Dv) (Y : Lay) (live : Nat → Prop) (h : DevIs w F d D Y live) :
    Calls Tryd.prog 17 #[.pointer (some ⟨d, 0, none⟩)] w fun e w' => e = .returned (.bool D.down) ∧ w = w' := by
  obtain ⟨⟨c0, c1, c2, c3, c4⟩, -⟩ := five h.hd
  go_enter Tryd.func17, Tryd.ntmps17
  go_wp2_with fail
  go_ret
  exact ⟨rfl, rfl⟩
theorem DevIs.set34 {w : World} {F : Nat → Prop} {d : Nat} {D : Dv} {Y : Lay} {live : Nat → Prop} (h : DevIs w F d D Y live) (l' : Int) (h0 : -1 ≤ l') (h1 : l' ≤ 9223372036854775807) (b : Bool) :
    DevIs ((w.setCell ⟨d, 4, none⟩ (.bool b)).setCell ⟨d, 3, none⟩ (.int .i64 l')) F d { D with left := l', down := b } Y live ∧ Keep F w ((w.setCell ⟨d, 4, none⟩ (.bool b)).setCell ⟨d, 3, none⟩ (.int .i64 l')) ∧
      ((w.setCell ⟨d, 4, none⟩ (.bool b)).setCell ⟨d, 3, none⟩ (.int .i64 l')).heap.size = w.heap.size := by
  refine ⟨h.head l' b (heap_set5 (heap_set5 h.hd _) _) (fun k _ hk => ?_) (by simp) h0 h1, ((Keep.refl F w).setCell (.inl h.fd) _).setCell (.inl h.fd) _, by simp⟩
  exact (Below.heap_setCell _ _ _ k hk).trans (Below.heap_setCell _ _ _ k hk)
theorem DevIs.set3 {w : World} {F : Nat → Prop} {d : Nat} {D : Dv} {Y : Lay} {live : Nat → Prop} (h : DevIs w F d D Y live) (l' : Int) (h0 : -1 ≤ l') (h1 : l' ≤ 9223372036854775807) :
    DevIs (w.setCell ⟨d, 3, none⟩ (.int .i64 l')) F d { D with left := l' } Y live ∧ Keep F w (w.setCell ⟨d, 3, none⟩ (.int .i64 l')) ∧ (w.setCell ⟨d, 3, none⟩ (.int .i64 l')).heap.size = w.heap.size := by
  refine ⟨h.head l' D.down (heap_set5 h.hd _) (fun k _ hk => Below.heap_setCell _ _ _ k hk) (by simp) h0 h1, (Keep.refl F w).setCell (.inl h.fd) _, by simp⟩
/-- one step of the power -/
def stepD (D : Dv) : Dv := { D with left := max (-1) (D.left - 1), down := D.left == 0 }
theorem dstep_any (w : World) (F : Nat → Prop) (d : Nat) (D : Dv) (Y : Lay) (live : Nat → Prop) (h : DevIs w F d D Y live) :
    Calls Tryd.prog 60 #[.pointer (some ⟨d, 0, none⟩)] w fun e w' => e = .returned (.bool (!(D.left == 0))) ∧ DevIs w' F d (stepD D) Y live ∧ Keep F w w' ∧ w'.heap.size = w.heap.size := by
  obtain ⟨⟨c0, c1, c2, c3, c4⟩, ff⟩ := five h.hd
  have f3 := ff 3
  have f4 := ff 4
  have l0 := h.l0
  have l1 := h.l1
  have s1 : IntKind.i64.wrap (D.left - 1) = D.left - 1 := IntWalk.i64_in _ (by omega)
  have HH := Hidden.mk h
  clear h ff
  go_enter Tryd.func60, Tryd.ntmps60
  go_wp2_with fail
  all_goals
    go_ret
    refine ⟨rfl, ?_⟩
    have hm := HH.out.set34 (max (-1) (D.left - 1)) (by omega) (by omega) (D.left == 0)
  · rw [show max (-1) (D.left - 1) = D.left - 1 from by omega] at hm
    unfold stepD
    rw [show max (-1) (D.left - 1) = D.left - 1 from by omega]
    exact hm
  · rw [show max (-1) (D.left - 1) = -1 from by omega] at hm
    unfold stepD
    rw [show max (-1) (D.left - 1) = -1 from by omega]
    exact hm
theorem dfail_any (n : Int) (w : World) (F : Nat → Prop) (d : Nat) (D : Dv) (Y : Lay) (live : Nat → Prop) (h : DevIs w F d D Y live) (hn : n ≤ 9223372036854775807) :
    Calls Tryd.prog 18 #[.pointer (some ⟨d, 0, none⟩), .int .i64 n] w fun e w' => e = .returned (.tuple #[]) ∧ DevIs w' F d { D with left := max (-1) n } Y live ∧ Keep F w w' ∧ w'.heap.size = w.heap.size := by
  obtain ⟨⟨c0, c1, c2, c3, c4⟩, ff⟩ := five h.hd
  have f3 := ff 3
  have HH := Hidden.mk h
  clear h ff
  go_enter Tryd.func18, Tryd.ntmps18
  go_wp2_with fail
  · go_end0
    rw [show max (-1) n = n from by omega]
    exact ⟨rfl, HH.out.set3 n (by omega) hn⟩
  · go_end0
    rw [show max (-1) n = -1 from by omega]
    exact ⟨rfl, HH.out.set3 (-1) (by omega) (by omega)⟩
theorem DevIs.fed {w : World} {F : Nat → Prop} {d : Nat} {D : Dv} {Y : Lay} {live : Nat → Prop} (h : DevIs w F d D Y live) {w' : World}
    (hb : ∀ k, F k → k ≠ d → k ≠ Y.gm → w'.heap[k]? = w.heap[k]?) (hm : IM Tryd.prog 3 natL w' Y.gm (fun _ => none) 0) (hs : w'.heap.size = w.heap.size)
    (hh : w'.heap[d]? = some (.cells #[.slice (some ⟨Y.gs, 0, none⟩) D.S.length Y.cs, .map (some Y.gm), .slice none 0 0, .int .i64 D.left, .bool D.down] 115 (0, 0))) :
    DevIs w' F d { D with O := [] } { Y with vo := .slice none 0 0 } (fun _ => False) where
  hd := hh
  sec := by
    obtain ⟨cur, h0, h1⟩ := h.sec
    exact ⟨cur, (hb _ h.fs (DevIs.ne_cells h.hd h0 (by decide)).symm (DevIs.ne_map h0 h.mem)).trans h0, h1⟩
  cap := h.cap
  row := fun i hi => by
    have hr := (h.row i hi).1
    obtain ⟨cur, h0, _⟩ := id hr
    exact ⟨hr.block (hb _ (h.fr i hi) (DevIs.ne_row h.hd hr (by decide)).symm (DevIs.ne_map h0 h.mem)), (h.row i hi).2⟩
  ord := World.ownsRow_nil _ _ _ _
  mem := by
    have : memF [] { Y with vo := .slice none 0 0 } = fun _ => none := by funext k; simp [memF]
    rw [this]
    exact hm
  mrow := fun i hi => hi.elim
  mlen := fun i hi => by simp at hi
  liv := fun i hi => hi.elim
  inj1 := h.inj1
  inj2 := fun i j hi => hi.elim
  inj3 := fun i j _ hj => hj.elim
  nd := List.nodup_nil
  n0 := h.n0
  n1 := h.n1
  l0 := h.l0
  l1 := h.l1
  fd := h.fd
  fs := h.fs
  fm := h.fm
  fo := fun q hq => by simp [Value.ownBlock] at hq
  fr := h.fr
  fb := fun i hi => hi.elim
  flt := fun k hk => by rw [hs]; exact h.flt k hk
theorem dforget_any (w : World) (F : Nat → Prop) (d : Nat) (D : Dv) (Y : Lay) (live : Nat → Prop) (h : DevIs w F d D Y live) :
    Calls Tryd.prog 62 #[.pointer (some ⟨d, 0, none⟩)] w fun e w' => e = .returned (.tuple #[]) ∧ DevIs w' F d { D with O := [] } { Y with vo := .slice none 0 0 } (fun _ => False) ∧ Keep F w w' ∧ w'.heap.size = w.heap.size := by
  obtain ⟨⟨c0, c1, c2, c3, c4⟩, ff⟩ := five h.hd
  obtain ⟨w1, hclear, him, hg, hsz⟩ := h.mem.clear_ (T := 113) Tryd.underlying113 0
  have hne := DevIs.ne_map h.hd h.mem
  have hdlt := h.flt d h.fd
  have hh1 := (hg.block d hdlt (fun e => hne (Option.some.inj e))).trans h.hd
  obtain ⟨⟨-, -, e2, -, -⟩, fe⟩ := five hh1
  have f2 := fe 2
  have HK : Hidden (DevIs (w1.setCell ⟨d, 2, none⟩ (.slice none 0 0)) F d { D with O := [] } { Y with vo := .slice none 0 0 } (fun _ => False) ∧ Keep F w (w1.setCell ⟨d, 2, none⟩ (.slice none 0 0)) ∧ (w1.setCell ⟨d, 2, none⟩ (.slice none 0 0)).heap.size = w.heap.size) := by
    refine ⟨h.fed (fun k hf hk hkm => (Below.heap_setCell _ _ _ k hk).trans (hg.block k (h.flt k hf) (fun e => hkm (Option.some.inj e)))) (him.block (Below.heap_setCell _ _ _ _ hne.symm)) (by simp [hsz]) (heap_set5 hh1 _), ?_, by simp [hsz]⟩
    refine (⟨hg.os, hg.tape, hg.output, hg.size, fun k hk hn => hg.block k hk (fun e => hn ?_)⟩ : Keep F w w1).setCell (.inl h.fd) _
    have := Option.some.inj e
    rw [this]; exact h.fm
  clear h ff fe hh1 him hg hsz hne hdlt
  go_enter Tryd.func62, Tryd.ntmps62
  go_wp2_with (simp only [hclear])
  go_end0
  exact ⟨rfl, HK.out⟩
end Go.Proofs.YtlkibidblpdjcaaDoor
