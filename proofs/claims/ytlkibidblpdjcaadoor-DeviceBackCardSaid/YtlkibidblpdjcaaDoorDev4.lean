/- The contracts of package device: Flush. -/
import Derived.Test.YtlkibidblpdjcaaDoorDev3
import Derived.Deep.LoopGhost
namespace Go.Proofs.YtlkibidblpdjcaaDoor
open Go.RowKit Go.Maps Go.ChangeMaps

theorem grownBy_setCell (w : World) (p : Addr) (u : Value) : w.grownBy (w.setCell p u) (some p.block) :=
  ⟨rfl, rfl, rfl, by simp, fun k _ hne => Below.heap_setCell w p u k (fun e => hne (by rw [e]))⟩
theorem DevIs.moved {w w' : World} {F : Nat → Prop} {d : Nat} {D : Dv} {Y : Lay} {live : Nat → Prop} (h : DevIs w F d D Y live) (i : Nat) (hi : live i) (cur : Array Value) (hcur : w.heap[Y.gs]? = some (.cells cur 29 (0, 0)))
    (hs : w'.heap[Y.gs]? = some (.cells (cur.setIfInBounds i (rowV (Y.mb i) (Y.mc i))) 29 (0, 0))) (hb : ∀ k, F k → k ≠ Y.gs → w'.heap[k]? = w.heap[k]?) (hsz : w.heap.size ≤ w'.heap.size) :
    DevIs w' F d { D with S := D.S.set i (D.M i) } { Y with sb := fun k => if k = i then Y.mb i else Y.sb k, sc := fun k => if k = i then Y.mc i else Y.sc k } (fun k => live k ∧ k ≠ i) := by
  have hin := h.mlen i (h.liv i hi)
  have hrowb : ∀ {q cap : Nat} {l : Bytes}, F q → Row w 5 q cap l → Row w' 5 q cap l := fun {q cap l} hf hr =>
    hr.block (hb q hf (DevIs.ne_row hcur hr (by decide)).symm)
  have hlen : (D.S.set i (D.M i)).length = D.S.length := by simp
  refine { hd := ?_, sec := ?_, cap := by rw [hlen]; exact h.cap, row := ?_, ord := ?_, mem := ?_, mrow := fun k hk => hrowb (h.fb k hk.1) (h.mrow k hk.1), mlen := ?_, liv := fun k hk => h.liv k hk.1, inj1 := ?_, inj2 := fun a b ha hb => h.inj2 a b ha.1 hb.1, inj3 := ?_, nd := h.nd, n0 := by rw [hlen]; exact h.n0, n1 := by rw [hlen]; exact h.n1, l0 := h.l0, l1 := h.l1, fd := h.fd, fs := h.fs, fm := h.fm, fo := h.fo, fr := ?_, fb := fun k hk => h.fb k hk.1, flt := fun k hk => Nat.lt_of_lt_of_le (h.flt k hk) hsz }
  · simp only [List.length_set]
    exact (hb _ h.fd (DevIs.ne_cells h.hd hcur (by decide))).trans h.hd
  · obtain ⟨cur', h0, h1, h2⟩ := h.sec
    rw [hcur] at h0
    injection h0 with h0
    injection h0 with h0
    subst h0
    refine ⟨_, hs, by simpa using h1, fun k hk => ?_⟩
    simp only [List.length_set] at hk
    have hcl : i < cur.size := by have := h.cap; omega
    rw [Array.getElem?_setIfInBounds]
    by_cases hki : i = k
    · subst hki; simp [hcl]
    · rw [if_neg hki]
      simp only [if_neg (fun e : k = i => hki e.symm)]
      exact h2 k hk
  · intro k hk
    simp only [List.length_set] at hk
    by_cases hki : k = i
    · subst hki
      simp only [if_true, List.getElem_set_self]
      exact ⟨hrowb (h.fb k hi) (h.mrow k hi), hin.2⟩
    · simp only [if_neg hki]
      rw [List.getElem_set_ne (fun e => hki e.symm)]
      exact ⟨hrowb (h.fr k hk) (h.row k hk).1, (h.row k hk).2⟩
  · exact ownsRow_block h.ord fun q hq => hb q (h.fo q hq) (fun e => DevIs.ne_own hcur h.ord (by decide) (by rw [hq, e]))
  · exact h.mem.block (hb _ h.fm (DevIs.ne_map hcur h.mem).symm)
  · intro k hk
    simp only [List.length_set]
    exact h.mlen k hk
  · intro a b ha hb he
    simp only [List.length_set] at ha hb
    simp only at he
    by_cases hai : a = i
    · by_cases hbi : b = i
      · rw [hai, hbi]
      · rw [if_pos hai, if_neg hbi] at he
        exact absurd he.symm (h.inj3 b i hb hi)
    · by_cases hbi : b = i
      · rw [if_neg hai, if_pos hbi] at he
        exact absurd he (h.inj3 a i ha hi)
      · rw [if_neg hai, if_neg hbi] at he
        exact h.inj1 a b ha hb he
  · intro a b ha hb
    simp only [List.length_set] at ha
    show (if a = i then Y.mb i else Y.sb a) ≠ Y.mb b
    by_cases hai : a = i
    · rw [if_pos hai]; exact fun e => hb.2 (h.inj2 i b hi hb.1 e).symm
    · rw [if_neg hai]; exact h.inj3 a b ha hb.1
  · intro k hk
    simp only [List.length_set] at hk
    show F (if k = i then Y.mb i else Y.sb k)
    by_cases hki : k = i
    · rw [if_pos hki]; exact h.fb i hi
    · rw [if_neg hki]; exact h.fr k hk
/-- a device whose memory is written -/
def flushD (D : Dv) : Dv := { D with S := (List.range D.S.length).map (readD D), O := [] }
theorem DevIs.live_of {w : World} {F : Nat → Prop} {d : Nat} {D : Dv} {Y : Lay} {live live' : Nat → Prop} (h : DevIs w F d D Y live) (hl : ∀ k, live' k ↔ live k) : DevIs w F d D Y live' := by
  have : live' = live := funext fun k => propext (hl k)
  rw [this]; exact h
theorem dflush_dn (w : World) (F : Nat → Prop) (d : Nat) (D : Dv) (Y : Lay) (live : Nat → Prop) (h : DevIs w F d D Y live) (hd : D.down = true) :
    Calls Tryd.prog 15 #[.pointer (some ⟨d, 0, none⟩)] w fun e w' => e = .returned (.iface 112 (.int .i64 9)) ∧ w = w' := by
  obtain ⟨⟨c0, c1, c2, c3, c4⟩, -⟩ := five h.hd
  rw [hd] at c4
  clear h hd
  go_enter Tryd.func15, Tryd.ntmps15
  go_wp2_with fail
  go_ret
  exact ⟨rfl, rfl⟩
theorem dflush_lost (w : World) (F : Nat → Prop) (d : Nat) (D : Dv) (Y : Lay) (live : Nat → Prop) (h : DevIs w F d D Y live) (hd : D.down = false) (hl : D.left = 0) :
    Calls Tryd.prog 15 #[.pointer (some ⟨d, 0, none⟩)] w fun e w' => e = .returned (.iface 112 (.int .i64 9)) ∧ DevIs w' F d (stepD D) Y live ∧ Keep F w w' := by
  obtain ⟨⟨c0, c1, c2, c3, c4⟩, -⟩ := five h.hd
  rw [hd] at c4
  have HS := Hidden.mk (dstep_any w F d D Y live h)
  rw [hl] at HS
  clear h hd hl
  go_enter Tryd.func15, Tryd.ntmps15
  go_wp2_with fail
  refine HS.out.mono ?_
  rintro e w1 ⟨rfl, hdev, hkp, -⟩
  have H := Hidden.mk (And.intro hdev hkp)
  clear hdev hkp
  go_wp2_with fail
  go_ret
  exact ⟨rfl, H.out⟩
theorem nat_sameKey (a b : Nat) : (natL a).sameKey (natL b) = decide (a = b) := by
  by_cases h : a = b
  · subst h
    simp [WideAt.sameKey_self (show WideAt.IsKeyLit (natL a) from trivial)]
  · rw [decide_eq_false h]
    exact sameKey_ne (fun e => h (natL_inj _ _ e))
set_option maxRecDepth 100000 in
theorem dflush_ok (w : World) (F : Nat → Prop) (d : Nat) (D : Dv) (Y : Lay) (h : DevIs w F d D Y (InO D)) (hd : D.down = false) (hl : D.left ≠ 0) :
    Calls Tryd.prog 15 #[.pointer (some ⟨d, 0, none⟩)] w fun e w' => e = .returned .nilIface ∧ (∃ Y', DevIs w' F d (flushD (stepD D)) Y' (InO (flushD (stepD D)))) ∧ Keep F w w' := by
  obtain ⟨⟨c0, c1, c2, c3, c4⟩, -⟩ := five h.hd
  rw [hd] at c4
  have HS := Hidden.mk (dstep_any w F d D Y (InO D) h)
  have h0 : (D.left == 0) = false := by simpa using hl
  rw [h0] at HS
  clear h hd hl h0
  go_enter Tryd.func15, Tryd.ntmps15
  go_wp2_with fail
  refine HS.out.mono ?_
  rintro e w1 ⟨rfl, hdev, hkp, hsz⟩
  have HKP := Hidden.mk hkp
  have HIO : Hidden (∀ k, InO D k ↔ k ∈ (stepD D).O) := ⟨fun _ => Iff.rfl⟩
  have hD1 : ∃ D1, D1 = stepD D := ⟨_, rfl⟩
  obtain ⟨D1, hD1⟩ := hD1
  rw [← hD1] at hdev HIO
  have HD1 := Hidden.mk hD1
  clear hD1
  obtain ⟨⟨e0, e1, e2, e3, e4⟩, -⟩ := five hdev.hd
  obtain ⟨Dm, hown, hms, hhas⟩ := hdev.mem
  have HHAS := Hidden.mk hhas
  have HDEV := Hidden.mk hdev
  have HSZ := Hidden.mk hsz
  have HMS := Hidden.mk hms
  clear hkp hdev hhas hsz hms c0 c1 c2 c3 c4
  go_wp2_with (at_range; refine wpList_range_own _ rfl _ 113 rfl 3 29 int_keyed Tryd.underlying113 heldR Y.gm D1.O.length Dm rfl hown ?_; intro w2 hrg2 hg2 hs2)
  go_frame
  generalize hr : w1.heap.size = r at *
  have HR := Hidden.mk hr
  have hdev2 : DevIs w2 F d D1 Y (InO D1) := (HDEV.out.same (fun k hk => hg2.block k (HDEV.out.flt k hk) (by simp)) (fun _ hk => hk) (fun k hk => by have := HDEV.out.flt k hk; rw [hs2]; omega)).live_of (fun k => (HIO.out k).symm)
  have HDEV2 := Hidden.mk hdev2
  have hK2 : Keep F w w2 := HKP.out.trans (F' := F) ⟨hg2.os, hg2.tape, hg2.output, hg2.size, fun k hk _ => hg2.block k hk (by simp)⟩ (fun x hx => .inl hx)
  clear hr hdev2 hown e0 e1 e2 e3 e4
  go_loopg [] (Maps.size Dm) (fun m wr => ∃ (left : Lit → Bool) (S' : List Bytes) (Y' : Lay), wr.ranges Tryd.prog 3 heldR Y.gm r D1.O.length Dm left m ∧ (Y'.gm = Y.gm ∧ Y'.mb = Y.mb ∧ Y'.mc = Y.mc) ∧ DevIs wr F d { D1 with S := S' } Y' (fun k => k ∈ D1.O ∧ left (natL k) = true) ∧ Keep F w wr ∧
    Hidden (S'.length = D1.S.length ∧ (∀ k, k < D1.S.length → S'[k]? = if k ∈ D1.O ∧ left (natL k) = false then some (D1.M k) else D1.S[k]?) ∧ ∀ l, left l = true → Maps.has Dm l = true))
  case atStart =>
    refine ⟨_, D1.S, Y, hrg2, ⟨rfl, rfl, rfl⟩, ?_, hK2, ⟨rfl, fun k hk => ?_, fun _ h => h⟩⟩
    · exact HDEV2.out.live_of fun k => ⟨fun h => h.1, fun h => ⟨h, by
        have := (HHAS.out.1 k).2 _ (show memF D1.O Y k = some _ from if_pos h)
        exact this.1⟩⟩
    · have : k ∈ D1.O → Maps.has Dm (natL k) = true := fun h => ((HHAS.out.1 k).2 _ (show memF D1.O Y k = some _ from if_pos h)).1
      rw [if_neg (fun hx => by rw [this hx.1] at hx; exact absurd hx.2 (by simp))]
  case round =>
    obtain ⟨left, S', Y', hrg, hY, hdev, hkp, hfacts⟩ := hrel
    have HD := Hidden.mk hdev
    have HY := Hidden.mk hY
    have HK := Hidden.mk hkp
    clear hdev hY hkp hrg2 hg2 hs2
    go_wp2_with (at_next; refine wpList_next_ranges _ rfl _ rfl 3 int_keyed heldR (Value.int .i64) (fun v => v) (fun key kl hkey => (by obtain ⟨x, hx, _⟩ := Maps.keyOf_int_inv Tryd.underlying3 hkey; exact ⟨x, hx⟩)) (fun v y _ => ⟨v, rfl⟩) Y.gm r D1.O.length Dm left _ rfl hrg ?_ ?_)
    · intro hc0 hl0
      have HFIN : Hidden ({ D1 with S := S', O := [] } = flushD D1) := ⟨by
        unfold flushD
        congr 1
        obtain ⟨h1, h2, _⟩ := hfacts.out
        apply List.ext_getElem?
        intro k
        by_cases hk : k < D1.S.length
        · rw [h2 k hk, hl0, List.getElem?_map, List.getElem?_range hk]
          unfold readD
          by_cases hO : k ∈ D1.O
          · simp [hO]
          · simp [hO, hk]
        · rw [List.getElem?_eq_none (by omega), List.getElem?_eq_none (by simp; omega)]⟩
      clear hrg hfacts hc0 hl0
      go_wp2_with fail
      refine (dforget_any _ F d _ Y' _ HD.out).mono ?_
      rintro e w5 ⟨rfl, hdev5, hkp5, hsz5⟩
      have H5 : Hidden ((∃ Y', DevIs w5 F d (flushD D1) Y' (InO (flushD D1))) ∧ Keep F w w5) := ⟨⟨_, (by rw [HFIN.out] at hdev5; exact hdev5.live_of fun k => ⟨fun h => by simp [InO, flushD] at h, fun h => h.elim⟩)⟩, HK.out.trans hkp5 (fun x hx => .inl hx)⟩
      clear hdev5 hkp5 hsz5
      go_wp2_with fail
      go_ret
      exact ⟨rfl, by rw [← HD1.out]; exact H5.out⟩
    · intro x c kl y y2 w3 cnt3 hkey hlk hy hat hrg3 hlt3 hg3 hs3 hen
      obtain ⟨h1, h2, h3⟩ := hfacts.out
      obtain ⟨k, rfl, hfk⟩ := HHAS.out.2 kl (h3 kl hlk)
      have hkO : k ∈ D1.O := by
        unfold memF at hfk
        by_cases hx : k ∈ D1.O
        · exact hx
        · rw [if_neg hx] at hfk; cases hfk
      obtain ⟨x', ex, ekl, hwx⟩ := Maps.keyOf_int_inv Tryd.underlying3 hkey
      injection ex with _ ex
      subst ex
      have exk : x = (k : Int) := by unfold natL at ekl; injection ekl with _ e; omega
      subst exk
      have hck : c = rowV (Y.mb k) (Y.mc k) := by
        have ha := ((HHAS.out.1 k).2 _ (show memF D1.O Y k = some _ from if_pos hkO)).2 (.held c)
        rw [hat] at ha
        unfold heldR at hy
        rw [← (Prod.mk.inj (Option.some.inj hy)).1] at ha
        simpa using ha
      subst hck
      have hkn := (HD.out.mlen k hkO).1
      have hFr : ∀ q, F q → q ≠ r := fun q hq e => by have := HDEV.out.flt q hq; rw [HR.out] at this; omega
      have hdev3 : DevIs w3 F d { D1 with S := S' } Y' (fun k => k ∈ D1.O ∧ left (natL k) = true) := HD.out.same (fun q hq => hg3.block q (HD.out.flt q hq) (fun e => hFr q hq (Option.some.inj e))) (fun _ hq => hq) (fun q hq => by rw [hs3]; exact HD.out.flt q hq)
      obtain ⟨⟨e0, e1, e2, e3, e4⟩, -⟩ := five hdev3.hd
      obtain ⟨cur, hcur, hcsz, hcs⟩ := hdev3.sec
      have hcap := hdev3.cap
      have hcell : w3.cell? ⟨Y'.gs, k, none⟩ = some (rowV (Y'.sb k) (Y'.sc k)) := by
        rw [cell_of_row w3 Y'.gs k cur _ _ hcur]; exact hcs k hkn
      have hfr : w3.frozen? ⟨Y'.gs, k, none⟩ = false := frozen_of_row w3 Y'.gs k cur _ hcur
      have i0 : (0 : Int) ≤ k := by omega
      have i1 : (k : Int) < S'.length := by simp only at hkn; omega
      have hnew := hdev3.moved k ⟨hkO, hlk⟩ cur hcur (heap_set5 (k := k) hcur _) (fun q _ hq => Below.heap_setCell _ ⟨Y'.gs, k, none⟩ (rowV (Y'.mb k) (Y'.mc k)) q hq) (by simp)
      have hgmgs : some Y.gm ≠ some Y'.gs := fun e => DevIs.ne_map hcur hdev3.mem (by rw [HY.out.1]; exact (Option.some.inj e).symm)
      have hrgs : some r ≠ some Y'.gs := fun e => hFr Y'.gs hdev3.fs (Option.some.inj e).symm
      have hrg4 := hrg3.kept (grownBy_setCell w3 ⟨Y'.gs, k, none⟩ (rowV (Y.mb k) (Y.mc k))) hgmgs hrgs
      have hkp4 : Keep F w (w3.setCell ⟨Y'.gs, k, none⟩ (rowV (Y.mb k) (Y.mc k))) := (HK.out.trans (F' := fun q => q = r) ⟨hg3.os, hg3.tape, hg3.output, hg3.size, fun q hq hn => hg3.block q hq (fun e => hn (Option.some.inj e))⟩ (fun q hq => .inr (by rw [hq, ← HR.out]; exact HKP.out.size))).setCell (.inl hdev3.fs) _
      rw [HY.out.2.1, HY.out.2.2] at hnew
      have hnew2 := hnew.live_of (live' := fun j => j ∈ D1.O ∧ (left (natL j) && !(natL j).sameKey (natL k)) = true) fun j => by
        rw [nat_sameKey]
        by_cases hjk : j = k
        · simp [hjk]
        · simp [hjk]
      have HNEW : Hidden (∃ (left' : Lit → Bool) (S'' : List Bytes) (Y'' : Lay), (w3.setCell ⟨Y'.gs, k, none⟩ (rowV (Y.mb k) (Y.mc k))).ranges Tryd.prog 3 heldR Y.gm r D1.O.length Dm left' cnt3 ∧ (Y''.gm = Y.gm ∧ Y''.mb = Y.mb ∧ Y''.mc = Y.mc) ∧ DevIs (w3.setCell ⟨Y'.gs, k, none⟩ (rowV (Y.mb k) (Y.mc k))) F d { D1 with S := S'' } Y'' (fun k => k ∈ D1.O ∧ left' (natL k) = true) ∧ Keep F w (w3.setCell ⟨Y'.gs, k, none⟩ (rowV (Y.mb k) (Y.mc k))) ∧
          Hidden (S''.length = D1.S.length ∧ (∀ k, k < D1.S.length → S''[k]? = if k ∈ D1.O ∧ left' (natL k) = false then some (D1.M k) else D1.S[k]?) ∧ ∀ l, left' l = true → Maps.has Dm l = true)) := by
        refine ⟨⟨_, S'.set k (D1.M k), ⟨Y'.gs, Y'.cs, Y'.gm, Y'.vo, fun q => if q = k then Y.mb k else Y'.sb q, fun q => if q = k then Y.mc k else Y'.sc q, Y.mb, Y.mc⟩, hrg4, ⟨HY.out.1, rfl, rfl⟩, hnew2, hkp4, ⟨by simpa using h1, fun j hj => ?_, fun l hl => ?_⟩⟩⟩
        · rw [nat_sameKey, List.getElem?_set]
          by_cases hjk : k = j
          · subst hjk
            rw [if_pos rfl, if_pos (by omega), if_pos ⟨hkO, by simp⟩]
          · rw [if_neg hjk, h2 j hj]
            simp [show ¬ j = k from fun e => hjk e.symm]
        · simp only [Bool.and_eq_true] at hl
          exact h3 l hl.1
      unfold rowV at hcell hen
      have HMSR := Hidden.mk hlt3
      clear hrg hfacts hkey hlk hy hat hrg3 hlt3 hg3 hs3 h1 h2 h3 hfk hkO hwx ekl hkn hFr hdev3 hcur hcsz hcs hcap hnew hnew2 hgmgs hrgs hrg4 hkp4
      unfold rowV at HNEW
      go_wp2_with fail
      go_roundg cnt3
      case measure => exact HMSR.out
      case rel => exact HNEW.out
end Go.Proofs.YtlkibidblpdjcaaDoor
