/- The contract of Write. -/
import Derived.Test.YtlkibidblpdjcaaDoorDev2
namespace Go.Proofs.YtlkibidblpdjcaaDoor
open Go.RowKit Go.Maps Go.ChangeMaps

section
variable {P : Program} {T K E : TypeId} {κ : Type} [DecidableEq κ] {kl : κ → Lit} {b cnt : Nat} {f : κ → Option Value}
theorem step_store_im (w : World) {ops : Array Oper} {o : Oper} {a : Act} {KK : Act → World → Prop} {Q : Exit → Act → World → Prop} {Z : Prop} (hgd : o.guard = none) (m x v : Operand) (hop : o.op = Op.mapUpdate T m x v)
    (KL : Keyed P K) (hinj : ∀ x y, kl x = kl y → x = y) (ht : P.underlying T = some (.map K E)) (hm : a.eval m = .map (some b)) (h : IM P K kl w b f cnt) (hn : cnt < maxLen) (key val : Value) (k : κ) (hx : a.eval x = key) (hv : a.eval v = val) (hkey : keyOf P K key = some (kl k))
    (hK : ∀ w', IM P K kl w' b (upd f k val) (if (f k).isSome then cnt else cnt + 1) → w.grownBy w' (some b) → w'.heap.size = w.heap.size → KK (a.put o.dst undef) w') :
    if Region.wanted o (yielded ops a.tmps) = true then Oper.wp P o a w KK Q else Z := by
  have hw : Region.wanted o (yielded ops a.tmps) = true := by simp [Region.wanted, hgd]
  rw [if_pos hw]
  obtain ⟨w', hrun, r1, r2, r3⟩ := h.store KL hinj ht hn hkey val
  unfold Oper.wp
  simp [execOp, hop, hm, hx, hv, hrun, Result.andThen]
  exact hK w' r1 r2 r3
end
theorem dwrite_e1 (i : Int) (A : Option Addr) (n c : Nat) (w : World) (F : Nat → Prop) (d : Nat) (D : Dv) (Y : Lay) (live : Nat → Prop) (h : DevIs w F d D Y live) (hi : i < 0 ∨ (D.S.length : Int) ≤ i) :
    Calls Tryd.prog 11 #[.pointer (some ⟨d, 0, none⟩), .int .i64 i, .slice A n c] w fun e w' => e = .returned (.iface 112 (.int .i64 1)) ∧ w = w' := by
  obtain ⟨⟨c0, c1, c2, c3, c4⟩, -⟩ := five h.hd
  rcases hi with hi | hi
  · clear h
    go_enter Tryd.func11, Tryd.ntmps11
    go_wp2_with fail
    go_ret
    exact ⟨rfl, rfl⟩
  · have h0 := h.n0
    have t1 : decide (i < 0) = false := by simp; omega
    have t2 : decide ((D.S.length : Int) ≤ i) = true := by simpa using hi
    clear h
    go_enter Tryd.func11, Tryd.ntmps11
    go_wp2_with fail
    go_ret
    exact ⟨rfl, rfl⟩
theorem dwrite_e3 (i : Nat) (A : Option Addr) (n c : Nat) (w : World) (F : Nat → Prop) (d : Nat) (D : Dv) (Y : Lay) (live : Nat → Prop) (h : DevIs w F d D Y live) (hi : i < D.S.length) (hn : n ≠ 32) :
    Calls Tryd.prog 11 #[.pointer (some ⟨d, 0, none⟩), .int .i64 (i : Int), .slice A n c] w fun e w' => e = .returned (.iface 112 (.int .i64 3)) ∧ w = w' := by
  obtain ⟨⟨c0, c1, c2, c3, c4⟩, -⟩ := five h.hd
  have t2 : decide ((D.S.length : Int) ≤ i) = false := by simp; omega
  have t3 : decide (D.S.length ≤ i) = false := by simp; omega
  have t4 : ((n : Int) != 32) = true := by simp; omega
  clear h hn
  go_enter Tryd.func11, Tryd.ntmps11
  go_wp2_with fail
  go_ret
  exact ⟨rfl, rfl⟩
theorem dwrite_e9 (i : Nat) (A : Option Addr) (c : Nat) (w : World) (F : Nat → Prop) (d : Nat) (D : Dv) (Y : Lay) (live : Nat → Prop) (h : DevIs w F d D Y live) (hi : i < D.S.length) (hd : D.down = true) :
    Calls Tryd.prog 11 #[.pointer (some ⟨d, 0, none⟩), .int .i64 (i : Int), .slice A 32 c] w fun e w' => e = .returned (.iface 112 (.int .i64 9)) ∧ w = w' := by
  obtain ⟨⟨c0, c1, c2, c3, c4⟩, -⟩ := five h.hd
  have t2 : decide ((D.S.length : Int) ≤ i) = false := by simp; omega
  have t3 : decide (D.S.length ≤ i) = false := by simp; omega
  rw [hd] at c4
  clear h hd
  go_enter Tryd.func11, Tryd.ntmps11
  go_wp2_with fail
  go_ret
  exact ⟨rfl, rfl⟩
/-- how Write's error reads -/
def powV (left : Int) : Value := if left = 0 then .iface 112 (.int .i64 9) else .nilIface
/-- a world ahead of Write's last steps -/
structure Mid (w w' : World) (F : Nat → Prop) (d : Nat) (D : Dv) (Y : Lay) (i : Nat) (b : Bytes) (vo' : Value) : Prop where
  hh : w'.heap[d]? = some (.cells #[.slice (some ⟨Y.gs, 0, none⟩) D.S.length Y.cs, .map (some Y.gm), vo', .int .i64 D.left, .bool D.down] 115 (0, 0))
  ho : w'.ownsRow 0 3 1 vo' (putD D i b).O.length ((putD D i b).O.map fun i : Nat => .int .i64 (i : Int))
  hvo : ∀ q, vo'.ownBlock = some q → F q ∨ w.heap.size ≤ q
  him : IM Tryd.prog 3 natL w' Y.gm (memF D.O Y) D.O.length
  hb : ∀ k, F k → k ≠ d → k ≠ Y.gm → Y.vo.ownBlock ≠ some k → w'.heap[k]? = w.heap[k]?
  kp : Keep F w w'
theorem memF_some (O : List Nat) (Y : Lay) (i : Nat) : (if (memF O Y i).isSome = true then O.length else O.length + 1) = (if i ∈ O then O else O ++ [i]).length := by
  unfold memF
  by_cases h : i ∈ O
  · simp [h]
  · simp [h]
theorem Mid.done {w w8 w9 w10 : World} {F : Nat → Prop} {d : Nat} {D : Dv} {Y : Lay} {i : Nat} {b : Bytes} {vo' : Value} (m : Mid w w8 F d D Y i b vo') (h : DevIs w F d D Y (InO D)) (hi : i < D.S.length) (hbl : b.length = 32) {g c : Nat}
    (hg : w8.heap.size ≤ g) (hrow : Row w9 5 g c b) (hb9 : Below w8.heap.size w8 w9)
    (him : IM Tryd.prog 3 natL w10 Y.gm (upd (memF D.O Y) i (rowV g c)) (if (memF D.O Y i).isSome = true then D.O.length else D.O.length + 1)) (hg10 : w9.grownBy w10 (some Y.gm)) :
    (∃ Y', DevIs w10 (growF F w w10) d (putD D i b) Y' (InO (putD D i b))) ∧ Keep F w w10 := by
  have hs8 := m.kp.size
  have hs9 := hb9.size
  have hs10 := hg10.size
  have hgm := h.flt _ h.fm
  have hgne : ∀ k, k ≠ Y.gm → k < w9.heap.size → w10.heap[k]? = w9.heap[k]? := fun k hk hl => hg10.block k hl (fun e => hk (Option.some.inj e))
  have hdl := h.flt _ h.fd
  have hdm := DevIs.ne_map h.hd h.mem
  refine ⟨⟨_, h.wrote i hi b hbl vo' g c _ ((hgne d hdm (by omega)).trans ((hb9.block d (by omega)).trans m.hh)) ?_ ?_ him (by rw [memF_some]; rfl) ?_ (by omega) ?_ (by omega)⟩, ?_⟩
  · refine ownsRow_block m.ho fun q hq => ?_
    have hql := (m.ho.lt q hq).2
    have hqm : q ≠ Y.gm := by
      rcases m.ho.2 with ⟨e, _⟩ | ⟨g', cap', cur', e, _, hh', _⟩
      · rw [e] at hq; simp [Value.ownBlock] at hq
      · rw [e] at hq
        obtain rfl : g' = q := by simpa [Value.ownBlock] using hq
        exact DevIs.ne_map hh' m.him
    exact (hgne q hqm (by omega)).trans (hb9.block q hql)
  · intro q hq
    have hql := (m.ho.lt q hq).2
    exact ⟨m.hvo q hq, by omega⟩
  · have hgl := hrow.lt
    exact hrow.block (hgne g (by omega) hgl)
  · intro k hf hkd hkm hkv
    have hkl := h.flt k hf
    exact (hgne k hkm (by omega)).trans ((hb9.block k (by omega)).trans (m.hb k hf hkd hkm hkv))
  · refine (m.kp.trans (Keep.of_below (F := F) hb9) (fun x hx => .inl hx)).trans (F' := fun k => k = Y.gm) ⟨hg10.os, hg10.tape, hg10.output, hg10.size, fun k hk hn => hgne k hn hk⟩ (fun x hx => .inl (hx ▸ h.fm))
theorem nodup_le : ∀ (n : Nat) (l : List Nat), l.Nodup → (∀ x ∈ l, x < n) → l.length ≤ n
  | 0, l, _, h => by
    cases l with
    | nil => simp
    | cons x r => have := h x (by simp); omega
  | n + 1, l, hd, h => by
    by_cases hm : n ∈ l
    · have h1 := nodup_le n (l.erase n) (hd.erase n) (fun x hx => by
        have h2 := (hd.mem_erase_iff).1 hx
        have := h x h2.2
        omega)
      rw [List.length_erase_of_mem hm] at h1
      omega
    · have h1 := nodup_le n l hd (fun x hx => by
        have := h x hx
        have : x ≠ n := fun e => hm (e ▸ hx)
        omega)
      omega
theorem DevIs.ord_le {w : World} {F : Nat → Prop} {d : Nat} {D : Dv} {Y : Lay} {live : Nat → Prop} (h : DevIs w F d D Y live) : D.O.length ≤ 300 :=
  Nat.le_trans (nodup_le D.S.length D.O h.nd (fun x hx => (h.mlen x hx).1)) h.n1
set_option maxRecDepth 100000 in
theorem dwrite_ok (i : Nat) (A : Option Addr) (c : Nat) (b : Bytes) (w : World) (F : Nat → Prop) (d : Nat) (D : Dv) (Y : Lay) (h : DevIs w F d D Y (InO D)) (hi : i < D.S.length) (hd : D.down = false) (hbl : b.length = 32) (hrd : Rd w A b) (hAF : ∀ ad, A = some ad → ¬ F ad.block) :
    Calls Tryd.prog 11 #[.pointer (some ⟨d, 0, none⟩), .int .i64 (i : Int), .slice A 32 c] w fun e w' => e = .returned (powV D.left) ∧ (∃ Y', DevIs w' (growF F w w') d (stepD (putD D i b)) Y' (InO (putD D i b))) ∧ Keep F w w' := by
  obtain ⟨⟨c0, c1, c2, c3, c4⟩, ff⟩ := five h.hd
  have f2 := ff 2
  have t2 : decide ((D.S.length : Int) ≤ i) = false := by simp; omega
  have t3 : decide (D.S.length ≤ i) = false := by simp; omega
  have n1 := h.n1
  obtain ⟨ad, hA⟩ : ∃ ad, A = some ad := by
    obtain ⟨p, off, hA, _⟩ := hrd.lt (by omega)
    exact ⟨_, hA⟩
  subst hA
  have hAF := hAF ad rfl
  have HH := Hidden.mk h
  have hmem := h.mem
  have hole := h.ord_le
  have hdl := h.flt d h.fd
  have KNE := Hidden.mk (DevIs.ne_map h.hd h.mem)
  rw [hd] at c4
  by_cases hO : i ∈ D.O
  · have hf : memF D.O Y i = some (rowV (Y.mb i) (Y.mc i)) := by unfold memF; rw [if_pos hO]
    have hl := (h.mem.look_some int_keyed (T := 113) Tryd.underlying113 (zero_bytes w) (int_key (n := i) (by omega)) hf).1
    unfold rowV at hl
    have HM : Hidden (Mid w w F d D Y i b Y.vo) := ⟨⟨h.hd, by unfold putD; rw [if_pos hO]; exact h.ord, fun q hq => .inl (h.fo q hq), h.mem, fun _ _ _ _ _ => rfl, Keep.refl _ _⟩⟩
    have HRD : Hidden (∀ W, Mid w W F d D Y i b Y.vo → Rd w (some ad) b) := ⟨fun _ _ => hrd⟩
    have HBL := Hidden.mk hbl
    clear h ff hf hd hO hrd hbl
    go_enter Tryd.func11, Tryd.ntmps11
    go_wp2_with fail
    have KC := Hidden.mk c1
    have KDL := Hidden.mk hdl
    have hdr : w.drew.heap = w.heap := rfl
    clear hdr c0 c1 c2 c3 c4 f2 hl hmem
    have HIM : Hidden (∀ W, Below w.heap.size w W → IM Tryd.prog 3 natL W Y.gm (memF D.O Y) D.O.length) := ⟨fun W hW => HM.out.him.block (hW.block Y.gm HM.out.him.lt)⟩
    have HRDW : Hidden (∀ W, Below w.heap.size w W → Rd W (some ad) b) := ⟨fun W hW => (HRD.out w HM.out).below hW⟩
    have kc1 := KC.out
    have kdl := KDL.out
    go_region_held3 (fun W => W.cell? ⟨d, 1, none⟩ = some (.map (some Y.gm))) (first | exact kc1 | exact (hb9.cell (p := ⟨d, 1, none⟩) kdl).trans kc1 | exact (World.cell?_of_block (a := ⟨d, 1, none⟩) (hg10.block d (Nat.lt_of_lt_of_le kdl hb9.size) (fun e => KNE.out (Option.some.inj e)))).trans ((hb9.cell (p := ⟨d, 1, none⟩) kdl).trans kc1))
      (first
        | (go_at_call 59; refine (clone_some ad 32 c b _ HBL.out (by omega) (HRDW.out _ (by exact (Below.refl _ _).drew))).mono ?_; rintro e w9 ⟨g, cap, rfl, hg9, hrow9, hb9⟩)
        | (obtain ⟨w10, hrun10, him10, hg10, hs10⟩ := (HIM.out w9 (((Below.refl _ _).drew).trans hb9)).store int_keyed natL_inj (T := 113) Tryd.underlying113 (by simp only [maxLen]; omega) (int_key (n := i) (by omega)) (.slice (some ⟨g, 0, none⟩) 32 cap); go_simp))
    have hdone := HM.out.done HH.out hi HBL.out hg9 hrow9 (((Below.refl _ _).drew).trans hb9) him10 hg10
    obtain ⟨⟨Y', hdev⟩, hkp⟩ := hdone
    have HDV := Hidden.mk hdev
    have HKP := Hidden.mk hkp
    clear hdev hkp hg9 hrow9 hb9 him10 hg10 hs10 kc1 kdl
    go_wp2_with fail
    refine (dstep_any _ _ d (putD D i b) Y' _ HDV.out).mono ?_
    rintro e w11 ⟨rfl, hdev, hkp, hsz⟩
    have hG : growF F w w11 = growF F w w10 := by unfold growF; rw [hsz]
    have HFIN : Hidden ((∃ Y', DevIs w11 (growF F w w11) d (stepD (putD D i b)) Y' (InO (putD D i b))) ∧ Keep F w w11) := ⟨⟨Y', by rw [hG]; exact hdev⟩, HKP.out.trans hkp (fun x hx => hx.1)⟩
    have hlf : (putD D i b).left = D.left := rfl
    rw [hlf]
    clear hdev hkp hsz hG hlf
    cases h0 : (D.left == 0) with
    | true =>
      have hp : Hidden (powV D.left = .iface 112 (.int .i64 9)) := ⟨by unfold powV; rw [if_pos (by simpa using h0)]⟩
      clear h0
      go_wp2_with fail
      go_ret
      exact ⟨by rw [hp.out]; rfl, HFIN.out⟩
    | false =>
      have hp : Hidden (powV D.left = .nilIface) := ⟨by unfold powV; rw [if_neg (by simpa using h0)]⟩
      clear h0
      go_wp2_with fail
      go_ret
      exact ⟨by rw [hp.out]; rfl, HFIN.out⟩
  · have hf : memF D.O Y i = none := by unfold memF; rw [if_neg hO]
    have hl := (h.mem.look_none int_keyed (T := 113) Tryd.underlying113 (zero_bytes w) (int_key (n := i) (by omega)) hf).1
    obtain ⟨i2, hi2, hx0, hx1, hx2⟩ := info_parts int_info
    have HOR := Hidden.mk h.ord
    have HBL := Hidden.mk hbl
    have KRD : Hidden (∀ W, Keep F w W → Rd W (some ad) b) := ⟨fun W hW => hW.rd hrd (fun ad' e => by injection e with e; subst e; exact hAF)⟩
    have HO' : Hidden ((putD D i b).O = D.O ++ [i]) := ⟨by unfold putD; rw [if_neg hO]⟩
    have HOWN : Hidden (∀ cur, Y.vo.ownBlock = some cur → cur ≠ d) := ⟨fun cur hc e => DevIs.ne_own h.hd h.ord (by decide) (by rw [hc, e])⟩
    clear h ff hf hO hbl
    go_enter Tryd.func11, Tryd.ntmps11
    go_wp2_with (at_builtin; refine wpList_append_lies _ rfl (.tmp 48) (.tmp 50) _ rfl 0 3 i2 _ 1 8 Tryd.underlying38 hi2 hx0 hx1 hx2 rfl (by decide) Y.vo D.O.length (D.O.map fun i : Nat => .int .i64 (i : Int)) rfl (own_below HOR.out ((Below.refl _ _).alloc (Nat.le_refl _) _)) ⟨w.heap.size, 0, none⟩ 1 1 [.int .i64 (i : Int)] rfl rfl (World.news_of_block (cs := #[.int .i64 (i : Int)]) (t := 3) (fr := (0, 0)) (heap_alloc_new w _)) (by simp [Value.oneCell']) (by omega) (by simp only [maxLen]; omega) (by omega) (by simp) (w.heap.size + 1) (by simp) ?_; intro g7 cap7 w7 hown7 hg7 hat7 hlt7; have hgG := grown_trans' ((Below.refl _ _).alloc (Nat.le_refl _) _) hg7; have hh7 := (hgG.block d hdl (fun e => HOWN.out _ e.symm rfl)).trans HH.out.hd; obtain ⟨⟨e0, e1, e2, e3, e4⟩, fe⟩ := five hh7; have fe2 := fe 2)
    have hh8 := heap_set5 (k := 2) hh7 (.slice (some ⟨g7, 0, none⟩) (D.O.length + 1) cap7)
    have HM8 : Hidden (Mid w (w7.setCell ⟨d, 2, none⟩ (.slice (some ⟨g7, 0, none⟩) (D.O.length + 1) cap7)) F d D Y i b (.slice (some ⟨g7, 0, none⟩) (D.O.length + 1) cap7)) := by
      have hgd : g7 ≠ d := by
        rcases hat7 with h' | h'
        · exact HOWN.out g7 h'
        · omega
      refine ⟨⟨hh8, ?_, ?_, ?_, ?_, ?_⟩⟩
      · rw [HO'.out]
        have := ownsRow_block (w' := w7.setCell ⟨d, 2, none⟩ (.slice (some ⟨g7, 0, none⟩) (D.O.length + 1) cap7)) hown7 (fun q hq => Below.heap_setCell _ _ _ _ (by
          have : g7 = q := by simpa [Value.ownBlock] using hq
          rw [← this]; exact hgd))
        simpa using this
      · intro q hq
        have hq' : g7 = q := by simpa [Value.ownBlock] using hq
        rcases hat7 with h' | h'
        · exact .inl (HH.out.fo q (by rw [h', hq']))
        · exact .inr (by omega)
      · refine HH.out.mem.block ((Below.heap_setCell _ _ _ _ KNE.out.symm).trans (hgG.block Y.gm HH.out.mem.lt (fun e => ?_)))
        rcases HH.out.ord.2 with ⟨e', _⟩ | ⟨g', cap', cur', e', _, hh', _⟩
        · rw [e'] at e; simp [Value.ownBlock] at e
        · rw [e'] at e
          obtain rfl : Y.gm = g' := by simpa [Value.ownBlock] using e
          exact DevIs.ne_map hh' HH.out.mem rfl
      · intro k hf hkd hkm hkv
        exact (Below.heap_setCell _ _ _ _ hkd).trans (hgG.block k (HH.out.flt k hf) (fun e => hkv e.symm))
      · refine Keep.setCell ⟨hgG.os, hgG.tape, hgG.output, hgG.size, fun k hk hn => hgG.block k hk (fun e => hn (HH.out.fo k e.symm))⟩ (.inl HH.out.fd) _
    have HRD : Hidden (∀ W, Mid w W F d D Y i b (.slice (some ⟨g7, 0, none⟩) (D.O.length + 1) cap7) → Rd W (some ad) b) := ⟨fun W hW => KRD.out W hW.kp⟩
    obtain ⟨⟨k0, k1, k2, k3, k4⟩, -⟩ := five hh8
    go_wp2_with fail
    generalize w7.setCell ⟨d, 2, none⟩ (.slice (some ⟨g7, 0, none⟩) (D.O.length + 1) cap7) = w8 at *
    have HM := HM8
    have KC := Hidden.mk k1
    have KDL : Hidden (d < w8.heap.size) := ⟨by have := HM8.out.kp.size; omega⟩
    clear hown7 hg7 hat7 hlt7 hgG hh7 e0 e1 e2 e3 e4 fe fe2 hh8 k0 k1 k2 k3 k4 c0 c1 c2 c3 c4 f2 hl hmem HM8 hrd
    have HIM : Hidden (∀ W, Below w8.heap.size w8 W → IM Tryd.prog 3 natL W Y.gm (memF D.O Y) D.O.length) := ⟨fun W hW => HM.out.him.block (hW.block Y.gm HM.out.him.lt)⟩
    have HRDW : Hidden (∀ W, Below w8.heap.size w8 W → Rd W (some ad) b) := ⟨fun W hW => (HRD.out w8 HM.out).below hW⟩
    have kc1 := KC.out
    have kdl := KDL.out
    go_region_held3 (fun W => W.cell? ⟨d, 1, none⟩ = some (.map (some Y.gm))) (first | exact kc1 | exact (hb9.cell (p := ⟨d, 1, none⟩) kdl).trans kc1 | exact (World.cell?_of_block (a := ⟨d, 1, none⟩) (hg10.block d (Nat.lt_of_lt_of_le kdl hb9.size) (fun e => KNE.out (Option.some.inj e)))).trans ((hb9.cell (p := ⟨d, 1, none⟩) kdl).trans kc1))
      (first
        | (go_at_call 59; refine (clone_some ad 32 c b _ HBL.out (by omega) (HRDW.out _ (by exact (Below.refl _ _).drew))).mono ?_; rintro e w9 ⟨g, cap, rfl, hg9, hrow9, hb9⟩)
        | (obtain ⟨w10, hrun10, him10, hg10, hs10⟩ := (HIM.out w9 (((Below.refl _ _).drew).trans hb9)).store int_keyed natL_inj (T := 113) Tryd.underlying113 (by simp only [maxLen]; omega) (int_key (n := i) (by omega)) (.slice (some ⟨g, 0, none⟩) 32 cap); go_simp))
    have hdone := HM.out.done HH.out hi HBL.out hg9 hrow9 (((Below.refl _ _).drew).trans hb9) him10 hg10
    obtain ⟨⟨Y', hdev⟩, hkp⟩ := hdone
    have HDV := Hidden.mk hdev
    have HKP := Hidden.mk hkp
    clear hdev hkp hg9 hrow9 hb9 him10 hg10 hs10 kc1 kdl
    go_wp2_with fail
    refine (dstep_any _ _ d (putD D i b) Y' _ HDV.out).mono ?_
    rintro e w11 ⟨rfl, hdev, hkp, hsz⟩
    have hG : growF F w w11 = growF F w w10 := by unfold growF; rw [hsz]
    have HFIN : Hidden ((∃ Y', DevIs w11 (growF F w w11) d (stepD (putD D i b)) Y' (InO (putD D i b))) ∧ Keep F w w11) := ⟨⟨Y', by rw [hG]; exact hdev⟩, HKP.out.trans hkp (fun x hx => hx.1)⟩
    have hlf : (putD D i b).left = D.left := rfl
    rw [hlf]
    clear hdev hkp hsz hG hlf
    cases h0 : (D.left == 0) with
    | true =>
      have hp : Hidden (powV D.left = .iface 112 (.int .i64 9)) := ⟨by unfold powV; rw [if_pos (by simpa using h0)]⟩
      clear h0
      go_wp2_with fail
      go_ret
      exact ⟨by rw [hp.out]; rfl, HFIN.out⟩
    | false =>
      have hp : Hidden (powV D.left = .nilIface) := ⟨by unfold powV; rw [if_neg (by simpa using h0)]⟩
      clear h0
      go_wp2_with fail
      go_ret
      exact ⟨by rw [hp.out]; rfl, HFIN.out⟩
end Go.Proofs.YtlkibidblpdjcaaDoor
