/- The contract of Crash. -/
import Derived.Test.YtlkibidblpdjcaaDoorDev5
namespace Go.Proofs.YtlkibidblpdjcaaDoor
open Go.RowKit Go.Maps Go.ChangeMaps

/-- the slice at A has these booleans -/
def RdB (w : World) (A : Option Addr) (l : List Bool) : Prop := ∀ j (h : j < l.length), ∃ b off, A = some ⟨b, off, none⟩ ∧ w.cell? ⟨b, off + j, none⟩ = some (.bool l[j])
/-- what becomes of the k-th sector that is pending -/
def crash1 (D : Dv) (keep : List Bool) (torn : Int) (c k : Nat) : Bytes :=
  if (k : Int) = torn then splice (D.S.getD (D.O.getD k 0) []) 0 ((D.M (D.O.getD k 0)).take c) else if keep.getD k false = true then D.M (D.O.getD k 0) else D.S.getD (D.O.getD k 0) []
def crashS (D : Dv) (keep : List Bool) (torn : Int) (c : Nat) : Nat → List Bytes
  | 0 => D.S
  | k + 1 => (crashS D keep torn c k).set (D.O.getD k 0) (crash1 D keep torn c k)
def crashD (D : Dv) (keep : List Bool) (torn : Int) (c : Nat) : Dv := { D with S := crashS D keep torn c D.O.length, O := [], left := -1, down := false }
theorem crashS_len (D : Dv) (keep : List Bool) (torn : Int) (c : Nat) : ∀ k, (crashS D keep torn c k).length = D.S.length
  | 0 => rfl
  | k + 1 => by simp [crashS, crashS_len D keep torn c k]
/-- what is not yet looked at is as it was -/
theorem crashS_old (D : Dv) (keep : List Bool) (torn : Int) (c i : Nat) : ∀ k, (∀ j, j < k → D.O.getD j 0 ≠ i) → (crashS D keep torn c k)[i]? = D.S[i]?
  | 0, _ => rfl
  | k + 1, h => by
    rw [crashS, List.getElem?_set_ne (h k (by omega)), crashS_old D keep torn c i k (fun j hj => h j (by omega))]
theorem DevIs.less {w : World} {F : Nat → Prop} {d : Nat} {D : Dv} {Y : Lay} {live live' : Nat → Prop} (h : DevIs w F d D Y live) (hl : ∀ k, live' k → live k) : DevIs w F d D Y live' :=
  { hd := h.hd, sec := h.sec, cap := h.cap, row := h.row, ord := h.ord, mem := h.mem, mrow := fun i hi => h.mrow i (hl i hi), mlen := h.mlen, liv := fun i hi => h.liv i (hl i hi), inj1 := h.inj1, inj2 := fun i j hi hj => h.inj2 i j (hl i hi) (hl j hj), inj3 := fun i j hi hj => h.inj3 i j hi (hl j hj), nd := h.nd, n0 := h.n0, n1 := h.n1, l0 := h.l0, l1 := h.l1, fd := h.fd, fs := h.fs, fm := h.fm, fo := h.fo, fr := h.fr, fb := fun i hi => h.fb i (hl i hi), flt := h.flt }
theorem DevIs.torn {w w' : World} {F : Nat → Prop} {d : Nat} {D : Dv} {Y : Lay} {live : Nat → Prop} (h : DevIs w F d D Y live) (i : Nat) (hi : i < D.S.length) (x : Bytes)
    (hr : Row w' 5 (Y.sb i) (Y.sc i) x) (hx : x.length = 32) (hb : ∀ k, F k → k ≠ Y.sb i → w'.heap[k]? = w.heap[k]?) (hsz : w.heap.size ≤ w'.heap.size) (hlv : ∀ k, live k → k ≠ i) :
    DevIs w' F d { D with S := D.S.set i x } Y live := by
  obtain ⟨cur0, hcur0, _⟩ := id (h.row i hi).1
  have hlen : (D.S.set i x).length = D.S.length := by simp
  refine { hd := ?_, sec := ?_, cap := by rw [hlen]; exact h.cap, row := ?_, ord := ?_, mem := ?_, mrow := fun k hk => ?_, mlen := ?_, liv := h.liv, inj1 := ?_, inj2 := h.inj2, inj3 := ?_, nd := h.nd, n0 := by rw [hlen]; exact h.n0, n1 := by rw [hlen]; exact h.n1, l0 := h.l0, l1 := h.l1, fd := h.fd, fs := h.fs, fm := h.fm, fo := h.fo, fr := ?_, fb := h.fb, flt := fun k hk => Nat.lt_of_lt_of_le (h.flt k hk) hsz }
  · simp only [List.length_set]
    exact (hb _ h.fd (DevIs.ne_cells h.hd hcur0 (by decide))).trans h.hd
  · obtain ⟨cur, h0, h1, h2⟩ := h.sec
    refine ⟨cur, (hb _ h.fs (DevIs.ne_cells h0 hcur0 (by decide))).trans h0, h1, fun k hk => ?_⟩
    simp only [List.length_set] at hk
    exact h2 k hk
  · intro k hk
    simp only [List.length_set] at hk
    by_cases hki : k = i
    · subst hki
      simp only [List.getElem_set_self]
      exact ⟨hr, hx⟩
    · rw [List.getElem_set_ne (fun e => hki e.symm)]
      exact ⟨(h.row k hk).1.block (hb _ (h.fr k hk) (fun e => hki (h.inj1 k i hk hi e))), (h.row k hk).2⟩
  · exact ownsRow_block h.ord fun q hq => hb q (h.fo q hq) (fun e => DevIs.ne_own hcur0 h.ord (by decide) (by rw [hq, e]))
  · exact h.mem.block (hb _ h.fm (DevIs.ne_map hcur0 h.mem).symm)
  · exact (h.mrow k hk).block (hb _ (h.fb k hk) (h.inj3 i k hi hk).symm)
  · intro k hk
    simp only [List.length_set]
    exact h.mlen k hk
  · intro a b ha hb
    simp only [List.length_set] at ha hb
    exact h.inj1 a b ha hb
  · intro a b ha hb
    simp only [List.length_set] at ha
    exact h.inj3 a b ha hb
  · intro k hk
    simp only [List.length_set] at hk
    exact h.fr k hk
theorem own_nats {w : World} {base n : Nat} {v : Value} {O : List Nat} (h : w.ownsRow base 3 1 v n (O.map fun i : Nat => .int .i64 (i : Int))) :
    ∃ A c, v = .slice A n c ∧ ∀ k (hk : k < O.length), ∃ g off, A = some ⟨g, off, none⟩ ∧ w.cell? ⟨g, off + k, none⟩ = some (.int .i64 (O[k] : Int)) := by
  rcases h.2 with ⟨rfl, rfl⟩ | ⟨g, cap, cur, rfl, _, hh, hc, hm, hz, ht⟩
  · have hl := h.1
    simp only [List.length_map, Nat.zero_mul] at hl
    exact ⟨none, 0, rfl, fun k hk => by omega⟩
  · refine ⟨_, cap, rfl, fun k hk => ⟨g, 0, rfl, ?_⟩⟩
    have := h.cells (g := g) rfl k (.int .i64 (O[k] : Int)) (by simp [hk])
    rw [Addr.add_lit] at this
    exact this
theorem run_tear {wr : World} {g cap mb mc c : Nat} {l m : Bytes} (h : Row wr 5 g cap l) (hl : l.length = 32) (hm : Row wr 5 mb mc m) (hml : m.length = 32) (hc : c ≤ 32) :
    ∃ W, (∀ ty, (Builtin.copy_ #[29, 29] ty #[.slice (some ⟨g, 0, none⟩) 32 cap, .slice (some ⟨mb, 0, none⟩) c mc]).run Tryd.prog wr.drew = .ok (.int .i64 (c : Int)) W.drew) ∧ Row W 5 g cap (splice l 0 (m.take c)) ∧ (∀ k, k ≠ g → W.heap[k]? = wr.heap[k]?) ∧ Keep (fun k => k = g) wr W ∧ W.heap.size = wr.heap.size := by
  obtain ⟨cur, hcur, hc1, hc2, hcs, hct⟩ := id h
  have hlt : (m.take c).length = c := by simp; omega
  have hcopy := fun ty => run_copy_rd wr.drew g 0 32 cap c mc c (some ⟨mb, 0, none⟩) (m.take c) cur 5 hcur hlt ((hm.rd.take c (by omega)).drewN 1) (by simp [Nat.min_def]; omega) (by omega) ty
  rw [List.take_of_length_le (by omega)] at hcopy
  have hg := grownBy_setRow wr g (setB cur 0 ((m.take c).map bv))
  refine ⟨wr.setRow g (setB cur 0 ((m.take c).map bv)), hcopy, h.set_ 0 _ (by omega) cur hcur, fun k hk => ?_, ⟨hg.os, hg.tape, hg.output, hg.size, fun k hk hn => hg.block k hk (fun e => hn (Option.some.inj e))⟩, by simp [World.setRow]⟩
  · simp [World.setRow, Array.getElem?_modify, hk.symm]
/-- the loop's state -/
structure CrSt (w wr : World) (F : Nat → Prop) (d : Nat) (D : Dv) (Y Y' : Lay) (S' : List Bytes) (k : Nat) : Prop where
  dev : DevIs wr F d { D with S := S' } Y' (fun i => ∃ j, k ≤ j ∧ D.O[j]? = some i)
  same : Y'.gm = Y.gm ∧ Y'.mb = Y.mb ∧ Y'.mc = Y.mc ∧ Y'.vo = Y.vo ∧ Y'.gs = Y.gs ∧ Y'.cs = Y.cs
  len : S'.length = D.S.length
  kp : Keep F w wr
set_option maxRecDepth 100000 in
theorem dcrash_any (A : Option Addr) (nk ck : Nat) (keep : List Bool) (torn cut : Int) (w : World) (F : Nat → Prop) (d : Nat) (D : Dv) (Y : Lay) (h : DevIs w F d D Y (InO D)) (hn : keep.length = nk) (hrd : RdB w A keep) (hA : 0 < nk → ∀ ad, A = some ad → ¬ F ad.block) :
    Calls Tryd.prog 14 #[.pointer (some ⟨d, 0, none⟩), .slice A nk ck, .int .i64 torn, .int .i64 cut] w fun e w' => e = .returned (.int .i64 D.O.length) ∧ (∃ Y', DevIs w' F d (crashD D keep torn (min 32 (max 0 cut)).toNat) Y' (InO (crashD D keep torn (min 32 (max 0 cut)).toNat))) ∧ Keep F w w' := by
  obtain ⟨⟨c0, c1, c2, c3, c4⟩, -⟩ := five h.hd
  have hmax : ∀ (ty : TypeId) (W : World), (Builtin.max_ #[3, 3] ty #[.int .i64 0, .int .i64 cut]).run Tryd.prog W = .ok (.int .i64 (max 0 cut)) W := by
    intro ty W
    rw [show max 0 cut = if 0 < cut then cut else 0 by omega]
    by_cases h0 : 0 < cut <;> simp [Builtin.max_, Builtin.max2, h0]
  have hmin : ∀ (ty : TypeId) (W : World), (Builtin.min_ #[3, 3] ty #[.int .i64 32, .int .i64 (max 0 cut)]).run Tryd.prog W = .ok (.int .i64 (min 32 (max 0 cut))) W := by
    intro ty W
    rw [show min 32 (max 0 cut) = if max 0 cut < 32 then max 0 cut else 32 by omega]
    by_cases h0 : max 0 cut < 32 <;> simp [Builtin.min_, Builtin.min2, h0]
  obtain ⟨cn, hcn⟩ : ∃ cn : Nat, cn = (min 32 (max 0 cut)).toNat := ⟨_, rfl⟩
  have hci : min 32 (max 0 cut) = (cn : Int) := by omega
  have hc32 : cn ≤ 32 := by omega
  rw [← hcn]
  rw [hci] at hmin
  obtain ⟨Ao, co, hvo, -⟩ := own_nats h.ord
  have hst0 : CrSt w w F d D Y Y (crashS D keep torn cn 0) 0 := ⟨h.live_of fun i => ⟨fun ⟨j, _, hj⟩ => List.mem_of_getElem? hj, fun hi => by obtain ⟨j, hj⟩ := List.mem_iff_getElem?.1 hi; exact ⟨j, by omega, hj⟩⟩, ⟨rfl, rfl, rfl, rfl, rfl, rfl⟩, rfl, Keep.refl _ _⟩
  have HST := Hidden.mk hst0
  have HH := Hidden.mk h
  have HN := Hidden.mk hn
  have HRD := Hidden.mk hrd
  have HOL := h.ord_le
  have hn1 := h.n1
  rw [hvo] at c2
  clear hst0 h hn hrd hcn hci
  go_enter Tryd.func14, Tryd.ntmps14
  go_wp2_with fail
  clear c0 c1 c2 c3 c4 hmax hmin
  go_loopg [20] D.O.length (fun m i wr => ∃ (k : Nat) (Y' : Lay), k ≤ D.O.length ∧ m = D.O.length - k ∧ i = .int .i64 (k : Int) ∧ CrSt w wr F d D Y Y' (crashS D keep torn cn k) k)
  case atStart => exact ⟨0, Y, by omega, rfl, rfl, HST.out⟩
  case round =>
    obtain ⟨k, Y', hk, rfl, rfl, hst⟩ := hrel
    by_cases hlt : k < D.O.length
    · have i0 : (0 : Int) ≤ k := by omega
      have i1 : (k : Int) < D.O.length := by omega
      have hdev := hst.dev
      obtain ⟨⟨e0, e1, e2, e3, e4⟩, -⟩ := five hdev.hd
      simp only [hst.len] at e0
      obtain ⟨Ax, cx, hvx, hcells⟩ := own_nats hdev.ord
      have hvv : Value.slice Ax D.O.length cx = Value.slice Ao D.O.length co := by rw [← hvo, ← hst.same.2.2.2.1]; exact hvx.symm
      injection hvv with hAx _ hcx
      subst hAx hcx
      obtain ⟨go_, off, rfl, hcell⟩ := hcells k hlt
      have hin := (HH.out.mlen D.O[k] (List.getElem_mem hlt)).1
      have hgd : D.O.getD k 0 = D.O[k] := by simp [hlt]
      have hlook := fun (W : World) (hW : W.heap = wr.heap) => ((hdev.mem.block (w' := W) (by rw [hW])).look_some int_keyed (T := 113) Tryd.underlying113 (zero_bytes W) (int_key (n := D.O[k]) (by omega)) (show memF D.O Y' D.O[k] = some _ from if_pos (List.getElem_mem hlt))).2
      obtain ⟨cur, hcur, hcsz, hcs⟩ := hdev.sec
      have hsc : wr.cell? ⟨Y'.gs, D.O[k], none⟩ = some (rowV (Y'.sb D.O[k]) (Y'.sc D.O[k])) := by
        rw [cell_of_row wr Y'.gs D.O[k] cur _ _ hcur]; exact hcs _ (by simp only [hst.len]; exact hin)
      have hgsl := (Array.getElem?_eq_some_iff.1 hcur).1
      have hfr : ∀ q, wr.frozen? ⟨Y'.gs, q, none⟩ = false := fun q => frozen_of_row wr Y'.gs q cur _ hcur
      have hold := crashS_old D keep torn cn D.O[k] k (fun j hj e => by
        have hj' : j < D.O.length := by omega
        have e' : D.O[j] = D.O[k] := by have : D.O.getD j 0 = D.O[j] := by simp [hj']
                                        rw [← this]; exact e
        exact (List.pairwise_iff_getElem.1 HH.out.nd) j k hj' hlt hj e')
      have i2 : (0 : Int) ≤ D.O[k] := by omega
      have i3 : (D.O[k] : Int) < D.S.length := by omega
      have hlivek : ∃ j, k ≤ j ∧ D.O[j]? = some D.O[k] := ⟨k, Nat.le_refl _, by simp [hlt]⟩
      generalize hik : D.O[k] = i at *
      have HIK := Hidden.mk hik
      clear hik
      have hD1 : d ≠ Y'.gs := DevIs.ne_cells hdev.hd hcur (by decide)
      by_cases ht : (k : Int) = torn
      · have t1 : ((k : Int) == torn) = true := by simpa using ht
        obtain ⟨hrowi, hleni⟩ := hdev.row i (by simp only [hst.len]; exact hin)
        have hmr := hdev.mrow i hlivek
        have hml := (HH.out.mlen i (by rw [← HIK.out]; exact List.getElem_mem hlt)).2
        have hmc := hmr.le.1
        have hmc2 : cn ≤ Y'.mc i := by simp only at hmc; omega
        obtain ⟨W5, hcopy, hrow5, hb5, hk5, hs5⟩ := run_tear (c := cn) hrowi hleni hmr hml hc32
        have hl := hlook wr.drew rfl
        unfold rowV at hl hsc
        have hsne : ∀ q, q ≠ Y'.sb i → W5.drew.cell? ⟨q, 0, none⟩ = wr.cell? ⟨q, 0, none⟩ := fun q hq => World.cell?_of_block (w := wr) (w' := W5.drew) (a := ⟨q, 0, none⟩) (hb5 q hq)
        have n1 : d ≠ Y'.sb i := DevIs.ne_row hdev.hd hrowi (by decide)
        have n2 : Y'.gs ≠ Y'.sb i := DevIs.ne_row hcur hrowi (by decide)
        have p0 : W5.drew.cell? ⟨d, 0, none⟩ = _ := (World.cell?_of_block (w := wr) (w' := W5.drew) (a := ⟨d, 0, none⟩) (hb5 d n1)).trans e0
        have p1 : W5.drew.cell? ⟨d, 1, none⟩ = _ := (World.cell?_of_block (w := wr) (w' := W5.drew) (a := ⟨d, 1, none⟩) (hb5 d n1)).trans e1
        have p2 : W5.drew.cell? ⟨Y'.gs, i, none⟩ = _ := (World.cell?_of_block (w := wr) (w' := W5.drew) (a := ⟨Y'.gs, i, none⟩) (hb5 _ n2)).trans hsc
        have hil : i < (crashS D keep torn cn k).length := by rw [crashS_len]; exact hin
        have hsi : (crashS D keep torn cn k)[i] = D.S.getD i [] := by
          have h1 := hold
          rw [List.getElem?_eq_getElem hil] at h1
          rw [List.getD_eq_getElem?_getD, ← h1]; rfl
        have hle32 : ((crashS D keep torn cn k)[i]'hil).length = 32 := hleni
        have hnext : crashS D keep torn cn (k + 1) = (crashS D keep torn cn k).set i (splice (crashS D keep torn cn k)[i] 0 ((D.M i).take cn)) := by
          rw [crashS, crash1, if_pos ht, hgd, hsi]
        have hnew := (hdev.less (live' := fun q => ∃ j, k + 1 ≤ j ∧ D.O[j]? = some q) (fun q ⟨j, hj, hq⟩ => ⟨j, by omega, hq⟩)).torn i (by simp only [hst.len]; exact hin) _ hrow5 (by rw [length_splice _ _ _ (by rw [List.length_take]; omega)]; exact hleni) (fun q _ hq => hb5 q hq) (by omega) (fun q ⟨j, hj, hq⟩ e => by
          obtain ⟨hj', hq'⟩ := List.getElem?_eq_some_iff.1 hq
          exact (List.pairwise_iff_getElem.1 HH.out.nd) k j hlt hj' (by omega) (by rw [HIK.out, hq', e]))
        have hst5 : CrSt w W5.drew F d D Y Y' (crashS D keep torn cn (k + 1)) (k + 1) := ⟨(by rw [hnext]; exact hnew.below ((Below.refl _ _).drew)), hst.same, crashS_len _ _ _ _ _, (hst.kp.trans hk5 (fun x hx => .inl (hx ▸ hdev.fr i (by simp only [hst.len]; exact hin)))).drewN 1⟩
        have HST5 := Hidden.mk hst5
        have KE0 := Hidden.mk (And.intro e0 (And.intro e1 hsc))
        have KP0 := Hidden.mk (And.intro p0 (And.intro p1 p2))
        clear hst5 hnew hnext hle32 hsi hil hsne n1 n2 hrow5 hb5 hk5 hs5 hrowi hmr hml hmc hleni ht hold hlook hcs hcsz hcur hdev hst hcells hlivek HST e2 e3 e4 hD1 hgsl hfr p0 p1 p2 hvx
        go_wp2_with fail
        go_region_held3 (fun W => W.cell? ⟨d, 0, none⟩ = some (.slice (some ⟨Y'.gs, 0, none⟩) D.S.length Y'.cs) ∧ W.cell? ⟨d, 1, none⟩ = some (.map (some Y'.gm)) ∧ W.cell? ⟨Y'.gs, i, none⟩ = some (.slice (some ⟨Y'.sb i, 0, none⟩) 32 (Y'.sc i))) (first | exact KE0.out | exact KP0.out)
          (go_simp)
        go_wp2_with fail
        go_roundg (D.O.length - (k + 1))
        case measure => omega
        case rel => exact ⟨k + 1, Y', by omega, rfl, by go_num, HST5.out⟩
      · have t1 : ((k : Int) == torn) = false := by simpa using ht
        have hil : i < (crashS D keep torn cn k).length := by rw [crashS_len]; exact hin
        have hsi : (crashS D keep torn cn k)[i] = D.S.getD i [] := by
          have h1 := hold
          rw [List.getElem?_eq_getElem hil] at h1
          rw [List.getD_eq_getElem?_getD, ← h1]; rfl
        have hse : (crashS D keep torn cn k).set i (D.S.getD i []) = crashS D keep torn cn k := by rw [← hsi]; exact List.set_getElem_self hil
        by_cases hkk : k < nk
        · have hkb : wr.heap.size = wr.heap.size := rfl
          obtain ⟨pb, offb, hAe, hcb⟩ := HRD.out k (by rw [HN.out]; exact hkk)
          subst hAe
          have hcb2 := (World.cell?_of_block (w := w) (w' := wr) (a := ⟨pb, offb + k, none⟩) (hst.kp.block pb (block_lt_of_cell hcb) (hA (by omega) _ rfl))).trans hcb
          have hkl : k < keep.length := by rw [HN.out]; exact hkk
          have hkg : keep.getD k false = keep[k] := by simp [hkl]
          have i4 : (k : Int) < nk := by omega
          cases hkf : keep[k]'hkl with
          | false =>
            rw [hkf] at hcb2
            have hnext : crashS D keep torn cn (k + 1) = crashS D keep torn cn k := by
              rw [crashS, crash1, if_neg ht, hkg, hkf, hgd]
              simpa using hse
            clear hkb hcb hkg
            have hst5 : CrSt w wr F d D Y Y' (crashS D keep torn cn (k + 1)) (k + 1) := ⟨by rw [hnext]; exact hdev.less (fun q ⟨j, hj, hq⟩ => ⟨j, by omega, hq⟩), hst.same, crashS_len _ _ _ _ _, hst.kp⟩
            have HST5 := Hidden.mk hst5
            clear hst5 hnext hse hsi hil ht hold hlook hcs hcsz hcur hdev hst hcells hlivek HST e0 e1 e2 e3 e4 hD1 hgsl hfr hvx hkf
            go_wp2_with fail
            go_roundg (D.O.length - (k + 1))
            case measure => omega
            case rel => exact ⟨k + 1, Y', by omega, rfl, by go_num, HST5.out⟩
          | true =>
            rw [hkf] at hcb2
            have hnext : crashS D keep torn cn (k + 1) = (crashS D keep torn cn k).set i (D.M i) := by
              rw [crashS, crash1, if_neg ht, hkg, hkf, hgd]
              simp
            have hl := hlook wr.drew rfl
            unfold rowV at hl
            have hmv := hdev.moved i hlivek cur hcur (heap_set5 (k := i) hcur _) (fun q _ hq => Below.heap_setCell _ ⟨Y'.gs, i, none⟩ (rowV (Y'.mb i) (Y'.mc i)) q hq) (by simp)
            have hmv2 := hmv.less (live' := fun q => ∃ j, k + 1 ≤ j ∧ D.O[j]? = some q) (fun q ⟨j, hj, hq⟩ => ⟨⟨j, by omega, hq⟩, fun e => by
              obtain ⟨hj', hq'⟩ := List.getElem?_eq_some_iff.1 hq
              exact (List.pairwise_iff_getElem.1 HH.out.nd) k j hlt hj' (by omega) (by rw [HIK.out, hq', e])⟩)
            unfold rowV at hmv2 hsc
            have HST5 : Hidden (∃ Yn, CrSt w ((wr.setCell ⟨Y'.gs, i, none⟩ (.slice (some ⟨Y'.mb i, 0, none⟩) 32 (Y'.mc i))).drew) F d D Y Yn (crashS D keep torn cn (k + 1)) (k + 1)) :=
              ⟨⟨⟨Y'.gs, Y'.cs, Y'.gm, Y'.vo, fun q => if q = i then Y'.mb i else Y'.sb q, fun q => if q = i then Y'.mc i else Y'.sc q, Y'.mb, Y'.mc⟩, (by rw [hnext]; exact hmv2.below ((Below.refl _ _).drew)), hst.same, crashS_len _ _ _ _ _, (hst.kp.setCell (.inl hdev.fs) _).drewN 1⟩⟩
            have p0 : ((wr.setCell ⟨Y'.gs, i, none⟩ (.slice (some ⟨Y'.mb i, 0, none⟩) 32 (Y'.mc i))).drew).cell? ⟨d, 0, none⟩ = _ := (World.cell?_of_block (w := wr) (a := ⟨d, 0, none⟩) (Below.heap_setCell wr _ _ d hD1)).trans e0
            have p1 : ((wr.setCell ⟨Y'.gs, i, none⟩ (.slice (some ⟨Y'.mb i, 0, none⟩) 32 (Y'.mc i))).drew).cell? ⟨d, 1, none⟩ = _ := (World.cell?_of_block (w := wr) (a := ⟨d, 1, none⟩) (Below.heap_setCell wr _ _ d hD1)).trans e1
            have hfri := hfr i
            have KE0 := Hidden.mk (And.intro e0 e1)
            have KP0 := Hidden.mk (And.intro p0 p1)
            clear hmv hmv2 hkb hcb hkg hnext hse hsi hil ht hold hlook hcs hcsz hcur hdev hst hcells hlivek HST e2 e3 e4 hD1 hgsl hfr hvx hkf p0 p1
            go_wp2_with fail
            go_region_held3 (fun W => W.cell? ⟨d, 0, none⟩ = some (.slice (some ⟨Y'.gs, 0, none⟩) D.S.length Y'.cs) ∧ W.cell? ⟨d, 1, none⟩ = some (.map (some Y'.gm))) (first | exact KE0.out | exact KP0.out)
              (go_simp)
            go_wp2_with fail
            obtain ⟨Y5, hst5⟩ := HST5.out
            have HST6 := Hidden.mk hst5
            clear hst5
            go_roundg (D.O.length - (k + 1))
            case measure => omega
            case rel => exact ⟨k + 1, Y5, by omega, rfl, by go_num, HST6.out⟩
        · have i4 : (nk : Int) ≤ k := by omega
          have t4 : decide (k < nk) = false := by simp; omega
          have hkf : keep.getD k false = false := by
            have h0 : keep.length ≤ k := by rw [HN.out]; omega
            simp [h0]
          have hnext : crashS D keep torn cn (k + 1) = crashS D keep torn cn k := by
            rw [crashS, crash1, if_neg ht, hkf, hgd]
            simpa using hse
          have hst5 : CrSt w wr F d D Y Y' (crashS D keep torn cn (k + 1)) (k + 1) := ⟨by rw [hnext]; exact hdev.less (fun q ⟨j, hj, hq⟩ => ⟨j, by omega, hq⟩), hst.same, crashS_len _ _ _ _ _, hst.kp⟩
          have HST5 := Hidden.mk hst5
          clear hst5 hnext hse hsi hil ht hold hlook hcs hcsz hcur hdev hst hcells hlivek HST e0 e1 e2 e3 e4 hD1 hgsl hfr hvx hkf
          go_wp2_with fail
          go_roundg (D.O.length - (k + 1))
          case measure => omega
          case rel => exact ⟨k + 1, Y', by omega, rfl, by go_num, HST5.out⟩
    · obtain rfl : k = D.O.length := by omega
      have hdev := hst.dev
      obtain ⟨⟨e0, e1, e2, e3, e4⟩, -⟩ := five hdev.hd
      rw [hst.same.2.2.2.1, hvo] at e2
      have HD := Hidden.mk hdev
      have HK := Hidden.mk hst.kp
      clear hst hdev e0 e1 e3 e4 HST
      go_wp2_with fail
      refine (dforget_any _ F d _ Y' _ HD.out).mono ?_
      rintro e w5 ⟨rfl, hdev5, hkp5, hsz5⟩
      obtain ⟨⟨e0, e1, e2', e3, e4⟩, ff⟩ := five hdev5.hd
      have f3 := ff 3
      have f4 := ff 4
      obtain ⟨hd6, hk6, hs6⟩ := hdev5.set34 (-1) (by omega) (by omega) false
      have H6 : Hidden ((∃ Y', DevIs ((w5.setCell ⟨d, 4, none⟩ (.bool false)).setCell ⟨d, 3, none⟩ (.int .i64 (-1))) F d (crashD D keep torn cn) Y' (InO (crashD D keep torn cn))) ∧ Keep F w ((w5.setCell ⟨d, 4, none⟩ (.bool false)).setCell ⟨d, 3, none⟩ (.int .i64 (-1)))) :=
        ⟨⟨_, hd6.live_of fun q => ⟨fun h => by simp [InO, crashD] at h, fun h => h.elim⟩⟩, (HK.out.trans hkp5 (fun x hx => .inl hx)).trans hk6 (fun x hx => .inl hx)⟩
      clear hdev5 hkp5 hsz5 ff hd6 hk6 hs6 e0 e1 e2'
      go_wp2_with fail
      go_ret
      exact ⟨rfl, H6.out⟩
end Go.Proofs.YtlkibidblpdjcaaDoor
