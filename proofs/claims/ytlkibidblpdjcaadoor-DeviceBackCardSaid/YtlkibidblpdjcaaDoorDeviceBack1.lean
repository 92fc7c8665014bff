/- DeviceBack: the walk. -/
import Derived.Test.YtlkibidblpdjcaaDoorDev8
import Derived.Test.YtlkibidblpdjcaaDoorTold3
import Derived.Test.YtlkibidblpdjcaaDoorRowSet
import Derived.Test.YtlkibidblpdjcaaDoorStr3
import Derived.Test.YtlkibidblpdjcaaDoorOpen3
import Derived.Deep.DeepCutAuto
import Derived.Deep.CutBlock
namespace Go.Proofs.YtlkibidblpdjcaaDoor
open Go.RowKit Go.Maps Go.ChangeMaps

theorem mk_lists (z : Int) (n : Nat) (hz : z = n) (hn : n ≤ 100000) (w : World) :
    (Instr.makeSlice 40 (.int .i64 z) (.int .i64 z)).run Tryd.prog w = .ok (.slice (some ⟨w.heap.size, 0, none⟩) n n) (w.alloc (.cells (Array.replicate n (.slice none 0 0)) 29)) := by
  subst hz
  obtain ⟨i0, hi0, hz0, hz1, hz2⟩ := info_parts list_info
  have hr := run_make (P := Tryd.prog) w 40 29 i0 _ Tryd.underlying40 hi0 hz0 .i64 .i64 n n (by omega) (by omega) (by rw [hz2]; omega) (by omega)
  simp only [Int.toNat_natCast, hz1, Nat.mul_one] at hr
  have hcells : madeCells (Value.slice none 0 0).cells n = Array.replicate n (.slice none 0 0) := by
    apply Array.ext'
    rw [show (Value.slice none 0 0).cells = #[Value.slice none 0 0] from rfl, toList_madeCells_one]
    simp
  rw [hcells] at hr
  exact hr
/-- block go has rows: the first k of n read as f says; none of it is a device's -/
def Lst (w : World) (F : Nat → Prop) (go n k : Nat) (f : Nat → Bytes) : Prop :=
  ∃ (ob oc : Nat → Nat), (∃ cur, w.heap[go]? = some (.cells cur 29 (0, 0)) ∧ cur.size = n ∧ ∀ i, i < k → cur[i]? = some (rowV (ob i) (oc i))) ∧ (∀ i, i < k → Row w 5 (ob i) (oc i) (f i) ∧ (f i).length = 32 ∧ ¬ F (ob i)) ∧ ¬ F go
section
variable {w w' : World} {F F' : Nat → Prop} {go n k : Nat} {f : Nat → Bytes}
theorem Lst.made (w : World) (F : Nat → Prop) (n : Nat) (f : Nat → Bytes) (hF : ∀ k, F k → k < w.heap.size) : Lst (w.alloc (.cells (Array.replicate n (.slice none 0 0)) 29)) F w.heap.size n 0 f :=
  ⟨fun _ => 0, fun _ => 0, ⟨_, heap_alloc_new w _, by simp, fun i hi => by omega⟩, fun i hi => by omega, fun hf => by have := hF _ hf; omega⟩
theorem Lst.keep (h : Lst w F go n k f) (hk : Keep F w w') (hF : ∀ k, F' k → F k ∨ w.heap.size ≤ k) : Lst w' F' go n k f := by
  obtain ⟨ob, oc, ⟨cur, h0, h1, h2⟩, h3, h4⟩ := h
  have hgl := (Array.getElem?_eq_some_iff.1 h0).1
  refine ⟨ob, oc, ⟨cur, (hk.block go hgl h4).trans h0, h1, h2⟩, fun i hi => ?_, fun hf => ?_⟩
  · obtain ⟨hr, hl, hn⟩ := h3 i hi
    refine ⟨hk.row hr hn, hl, fun hf => ?_⟩
    rcases hF _ hf with h' | h'
    · exact hn h'
    · have := hr.lt; omega
  · rcases hF _ hf with h' | h'
    · exact h4 h'
    · omega
theorem Lst.below (h : Lst w F go n k f) (hb : Below w.heap.size w w') : Lst w' F go n k f := h.keep (Keep.of_below hb) (fun _ hk => .inl hk)
theorem Lst.push (h : Lst w F go n k f) (hk : k < n) {g cap : Nat} (hr : Row w 5 g cap (f k)) (hl : (f k).length = 32) (hg : ¬ F g) : Lst (w.setCell ⟨go, k, none⟩ (rowV g cap)) F go n (k + 1) f := by
  obtain ⟨ob, oc, ⟨cur, h0, h1, h2⟩, h3, h4⟩ := h
  have hrow : ∀ {q c : Nat} {l : Bytes}, Row w 5 q c l → Row (w.setCell ⟨go, k, none⟩ (rowV g cap)) 5 q c l := fun {q c l} hr =>
    hr.block (Below.heap_setCell _ _ _ _ (DevIs.ne_row h0 hr (by decide)).symm)
  refine ⟨fun i => if i = k then g else ob i, fun i => if i = k then cap else oc i, ⟨_, heap_set5 h0 _, by simpa using h1, fun i hi => ?_⟩, fun i hi => ?_, h4⟩
  · rw [Array.getElem?_setIfInBounds]
    by_cases hik : k = i
    · subst hik; simp [h1, hk]
    · rw [if_neg hik]
      simp only [if_neg (fun e : i = k => hik e.symm)]
      exact h2 i (by omega)
  · by_cases hik : i = k
    · subst hik
      simp only [if_true]
      exact ⟨hrow hr, hl, hg⟩
    · simp only [if_neg hik]
      obtain ⟨a, b, c⟩ := h3 i (by omega)
      exact ⟨hrow a, b, c⟩
theorem Lst.cell (h : Lst w F go n k f) (i : Nat) (hi : i < k) : ∃ g c, w.cell? ⟨go, i, none⟩ = some (.slice (some ⟨g, 0, none⟩) 32 c) ∧ Row w 5 g c (f i) ∧ (f i).length = 32 := by
  obtain ⟨ob, oc, ⟨cur, h0, h1, h2⟩, h3, h4⟩ := h
  refine ⟨ob i, oc i, ?_, (h3 i hi).1, (h3 i hi).2.1⟩
  rw [cell_of_row w go i cur _ _ h0]; exact h2 i hi
theorem Lst.slot (h : Lst w F go n k f) (hk : k < n) : (∃ v, w.cell? ⟨go, k, none⟩ = some v) ∧ w.frozen? ⟨go, k, none⟩ = false := by
  obtain ⟨ob, oc, ⟨cur, h0, h1, h2⟩, h3, h4⟩ := h
  refine ⟨⟨cur[k]'(by omega), ?_⟩, frozen_of_row w go k cur _ h0⟩
  rw [cell_of_row w go k cur _ _ h0]; exact Array.getElem?_eq_getElem _
theorem Lst.keepSet (h : Lst w F go n k f) (v : Value) : Keep (fun q => q = go) w (w.setCell ⟨go, k, none⟩ v) := Keep.setCell (F := fun q => q = go) (Keep.refl _ _) (p := ⟨go, k, none⟩) (.inl rfl) _
end
theorem Lst.setOther {w : World} {F : Nat → Prop} {go n k go2 q : Nat} {f : Nat → Bytes} (h : Lst w F go n k f) (hne : go ≠ go2) {cur2 : Array Value} (h2 : w.heap[go2]? = some (.cells cur2 29 (0, 0))) (v : Value) : Lst (w.setCell ⟨go2, q, none⟩ v) F go n k f := by
  obtain ⟨ob, oc, ⟨cur, h0, h1, h3⟩, h4, h5⟩ := h
  refine ⟨ob, oc, ⟨cur, (Below.heap_setCell _ _ _ _ hne).trans h0, h1, h3⟩, fun i hi => ?_, h5⟩
  obtain ⟨a, b, c⟩ := h4 i hi
  exact ⟨a.block (Below.heap_setCell _ _ _ _ (DevIs.ne_row h2 a (by decide)).symm), b, c⟩
theorem Lst.blk {w : World} {F : Nat → Prop} {go n k : Nat} {f : Nat → Bytes} (h : Lst w F go n k f) : (∃ cur, w.heap[go]? = some (.cells cur 29 (0, 0))) ∧ ¬ F go := by
  obtain ⟨ob, oc, ⟨cur, h0, h1, h3⟩, h4, h5⟩ := h
  exact ⟨⟨cur, h0⟩, h5⟩
/-- what is pending, as Pending gave it -/
def Pnd (w : World) (F : Nat → Prop) (base : Nat) (v : Value) (O : List Nat) : Prop := w.ownsRow base 3 1 v O.length (O.map fun i : Nat => .int .i64 (i : Int)) ∧ ∀ q, v.ownBlock = some q → ¬ F q
theorem Pnd.keep {w w' : World} {F : Nat → Prop} {base : Nat} {v : Value} {O : List Nat} (h : Pnd w F base v O) (hk : Keep F w w') : Pnd w' F base v O :=
  ⟨ownsRow_block h.1 fun q hq => hk.block q (h.1.lt q hq).2 (h.2 q hq), h.2⟩
theorem Pnd.below {w w' : World} {F : Nat → Prop} {base : Nat} {v : Value} {O : List Nat} (h : Pnd w F base v O) (hb : Below w.heap.size w w') : Pnd w' F base v O := h.keep (Keep.of_below hb)
theorem Pnd.setOther {w : World} {F : Nat → Prop} {base go2 q : Nat} {v u : Value} {O : List Nat} (h : Pnd w F base v O) {cur2 : Array Value} (h2 : w.heap[go2]? = some (.cells cur2 29 (0, 0))) : Pnd (w.setCell ⟨go2, q, none⟩ u) F base v O :=
  ⟨ownsRow_block h.1 fun p hp => Below.heap_setCell _ _ _ _ (fun e => DevIs.ne_own h2 h.1 (by decide) (by rw [hp, e])), h.2⟩
theorem rdb_of {w : World} {A : Option Addr} {l : List Bool} (h : RdX (fun b => [.bool b]) 1 w A l) : RdB w A l := fun j hj => by
  obtain ⟨b, off, hA, hc⟩ := h j hj
  refine ⟨b, off, hA, ?_⟩
  have := hc 0 (.bool l[j]) rfl
  rwa [Nat.mul_one, Nat.add_zero] at this
theorem RdB.below {w w' : World} {A : Option Addr} {l : List Bool} (h : RdB w A l) (hb : Below w.heap.size w w') : RdB w' A l := fun j hj => by
  obtain ⟨b, off, hA, hc⟩ := h j hj
  exact ⟨b, off, hA, (hb.cell (p := ⟨b, off + j, none⟩) (block_lt_of_cell hc)).trans hc⟩
def pgs (L : List PgX) : List (Int × Bytes) := L.map fun x => (x.num, x.body)
theorem pgs_take (L : List PgX) (j : Nat) (hj : j < L.length) : (pgs L).take (j + 1) = (pgs L).take j ++ [(L[j].num, L[j].body)] := by
  have hl : j < (pgs L).length := by simpa [pgs] using hj
  rw [List.take_succ_eq_append_getElem hl]
  simp [pgs]
theorem newD_up (n : Nat) : Up (newD n) := ⟨rfl, rfl⟩
set_option maxRecDepth 100000 in
set_option maxHeartbeats 4000000 in
theorem deviceBack_walk (n : Int) (A B C : Option Addr) (ca cb cc : Nat) (La Lb : List PgX) (keep : List Bool) (torn cut : Int) (w : World) (hg : HasType w) (hoa : ∀ x ∈ La, PgOk w x) (hra : RdX pcells 2 w A La) (hob : ∀ x ∈ Lb, PgOk w x) (hrb : RdX pcells 2 w B Lb) (hrk : RdX (fun b => [.bool b]) 1 w C keep)
    (hla : La.length ≤ 140737488351232) (hlb : Lb.length ≤ 140737488351232) :
    Calls Tryd.prog 3 #[.int .i64 n, .slice A La.length ca, .slice B Lb.length cb, .slice C keep.length cc, .int .i64 torn, .int .i64 cut] w fun e w' => e = .returned (.bool true) ∧ Below w.heap.size w w' := by
  have HRA := Hidden.mk hra
  have HRB := Hidden.mk hrb
  have HRK := Hidden.mk hrk
  have HOA := Hidden.mk hoa
  have HOB := Hidden.mk hob
  have HG := Hidden.mk hg
  have hmk := fun W => mk_bytes 32 32 rfl (by omega) W
  clear hg hra hrb hrk hoa hob
  go_enter Tryd.func3, Tryd.ntmps3
  go_wp2_with fail
  have hnew2 := dnewB 2 w (by omega) (by omega)
  rw [show ((2 : Nat) : Int) = 2 from rfl] at hnew2
  refine hnew2.mono ?_
  rintro e w1 ⟨d1, F1, rfl, hd1⟩
  clear hnew2
  have hz := row_zeros w1 32 (by simp [maxLen])
  have hcell := hz.cell 0 (by simp)
  have hfr := hz.frozen 0
  have hd2 := hd1.below ((Below.refl _ w1).alloc (Nat.le_refl _) (.cells ((zeroRow 32).setIfInBounds 0 (.int .u8 7)) 5))
  have hz2 : Row (w1.alloc (.cells ((zeroRow 32).setIfInBounds 0 (.int .u8 7)) 5)) 5 w1.heap.size 32 ((List.replicate 32 0).set 0 7) :=
    ⟨_, heap_alloc_new w1 _, by simp, by simp [maxLen], by simp [zeroRow], by kernel_rfl⟩
  have hcf : ¬ F1 w1.heap.size := fun hf => by have := hd1.flt _ hf; omega
  have HD2 := Hidden.mk hd2
  have HZ := Hidden.mk hz2
  have HCF := Hidden.mk hcf
  clear hd1 hd2 hz hz2 hcf
  go_wp2_with fail
  generalize w1.alloc (.cells ((zeroRow 32).setIfInBounds 0 (.int .u8 7)) 5) = w2 at *
  generalize w1.heap.size = g2 at *
  have hw := HD2.out.write 1 (some ⟨g2, 0, none⟩) 32 _ (by simp [newD]) rfl (by simp) HZ.out.rd (fun ad e hf => HCF.out (by obtain rfl := Option.some.inj e; exact hf))
  rw [show ((1 : Nat) : Int) = 1 from rfl] at hw
  refine hw.mono ?_
  rintro e w3 ⟨rfl, F3, hd3, hk3, hF3⟩
  rw [show powV (newD 2).left = .nilIface from rfl]
  clear hw hk3 hF3 hcell hfr
  go_wp2_with fail
  refine (hd3.read_e1 2 (.inr (by simp [stepD, putD, newD]))).mono ?_
  rintro e w4 ⟨rfl, rfl⟩
  go_wp2_with fail
  refine (err_some 1 1 _ (HG.out.below HG.out.lt hd3.bel)).mono ?_
  rintro e w5 ⟨rfl, hb5⟩
  have hd5 := hd3.below hb5
  clear hd3 hb5
  go_wp2_with fail
  refine (hd5.crash none 0 0 [] (-1) 0 rfl (fun j hj => by simp at hj) (fun _ ad e => by cases e)).mono ?_
  rintro e w6 ⟨rfl, hd6, -⟩
  have hone : (stepD (putD (newD 2) 1 ((List.replicate 32 0).set 0 7))).O.length = 1 := rfl
  rw [hone]
  have hr1 := hd6.read 1 (by show 1 < (crashS _ _ _ _ _).length; rw [crashS_len]; simp [stepD, putD, newD]) rfl
  rw [show ((1 : Nat) : Int) = 1 from rfl] at hr1
  clear hd5 hone
  go_wp2_with fail
  refine hr1.mono ?_
  rintro e w7 ⟨g7, c7, rfl, -, hr7, hl7, -, hd7⟩
  have hz7 : readD (crashD (stepD (putD (newD 2) 1 ((List.replicate 32 0).set 0 7))) [] (-1) (min 32 (max 0 (0 : Int))).toNat) 1 = List.replicate 32 0 := by kernel_rfl
  rw [hz7] at hr7
  have hx0 := hr7.cell 0 (by simp)
  rw [show bv ((List.replicate 32 (0 : UInt8))[0]'(by simp)) = .int .u8 0 from rfl] at hx0
  have HB7 := Hidden.mk hd7.bel
  clear hr1 hd6 hd7 hr7 hl7 hz7
  go_wp2_with fail
  by_cases hn : n < 1 ∨ 300 < n
  · refine (dnew_e1 n _ hn).mono ?_
    rintro e w8 ⟨rfl, rfl⟩
    by_cases h1 : n < 1
    · clear hn hx0
      go_wp2_with fail
      go_ret
      exact ⟨rfl, HB7.out⟩
    · have h3 : 300 < n := by omega
      have t1 : decide (n < 1) = false := by simp; omega
      have t2 : decide (300 < n) = true := by simp; omega
      clear hn h1 h3 hx0
      go_wp2_with fail
      go_ret
      exact ⟨rfl, HB7.out⟩
  · obtain ⟨nn, rfl⟩ : ∃ nn : Nat, n = nn := ⟨n.toNat, by omega⟩
    have hn1 : 1 ≤ nn := by omega
    have hn3 : nn ≤ 300 := by omega
    clear hn hx0
    refine (dnewB nn _ hn1 hn3).mono ?_
    rintro e w8 ⟨d, F8, rfl, hd8⟩
    have hd8' := hd8.base HB7.out
    have HD8 := Hidden.mk hd8'
    clear hd8 hd8'
    go_upto_block 0 with (fail)
    go_cut [] (fun wx => ∃ (j : Nat) (F : Nat → Prop), DevB w wx F d (wrs (newD nn) ((pgs La).take j)))
    case first =>
      go_wp2_with fail
      go_loopg [25] La.length (fun m i wr => ∃ (j : Nat) (F : Nat → Prop), j ≤ La.length ∧ m = La.length - j ∧ i = .int .i64 (j : Int) ∧ DevB w wr F d (wrs (newD nn) ((pgs La).take j)))
      case atStart => exact ⟨0, F8, by omega, rfl, rfl, HD8.out⟩
      case round =>
        obtain ⟨j, F, hj, rfl, rfl, hdj⟩ := hrel
        by_cases hlt : j < La.length
        · by_cases h40 : j < 40
          · have i0 : (0 : Int) ≤ j := by omega
            have i1 : (j : Int) < La.length := by omega
            have i2 : (j : Int) < 40 := by omega
            have hup := (wrs_up ((pgs La).take j) (newD_up nn)).1
            obtain ⟨p, off, rfl, hcells⟩ := HRA.out j hlt
            have hx := HOA.out La[j] (List.getElem_mem hlt)
            have c0w := hcells 0 (.int .i64 La[j].num) rfl
            have c1w := hcells 1 (.slice La[j].A La[j].body.length La[j].cap) rfl
            have HNX : Hidden (wrs (newD nn) ((pgs La).take (j + 1)) = wr1 (wrs (newD nn) ((pgs La).take j)) La[j].num La[j].body) := ⟨by rw [pgs_take La j hlt, wrs_snoc]⟩
            rw [Nat.add_zero] at c0w
            have plt := block_lt_of_cell c0w
            have c0 := (hdj.bel.cell (p := ⟨p, off + j * 2, none⟩) plt).trans c0w
            have c1 := (hdj.bel.cell (p := ⟨p, off + j * 2 + 1, none⟩) plt).trans c1w
            have hwr := (hdj.below ((Below.refl _ wr).drew)).write_any hup La[j].num La[j].A La[j].cap La[j].body ((hx.rd.below hdj.bel).drewN 1) (fun h32 ad hA hf => by
              obtain ⟨q, off', hA', hq⟩ := hx.rd.lt (by omega)
              rw [hA] at hA'
              obtain rfl := Option.some.inj hA'
              have := hdj.new _ hf
              simp only at this
              omega)
            generalize La[j] = x at *
            obtain ⟨num, xA, xc, body⟩ := x
            dsimp only at *
            have HW := Hidden.mk hwr
            have KC := Hidden.mk (And.intro c0 c1)
            have KW := Hidden.mk (And.intro c0w c1w)
            have KP := Hidden.mk plt
            clear hwr hx hcells c0w c1w hup hdj plt
            go_wp2_with fail
            go_region_held3 (fun W => W.cell? ⟨p, off + j * 2, none⟩ = some (.int .i64 num) ∧ W.cell? ⟨p, off + j * 2 + 1, none⟩ = some (.slice xA body.length xc)) (first | exact KC.out | exact ⟨(hd3.bel.cell (p := ⟨p, off + j * 2, none⟩) KP.out).trans KW.out.1, (hd3.bel.cell (p := ⟨p, off + j * 2 + 1, none⟩) KP.out).trans KW.out.2⟩)
              ((go_at_call 11; refine HW.out.mono ?_; rintro e w3 ⟨err, F3, rfl, hd3, hk3, hF3⟩))
            rw [← HNX.out] at hd3
            have HD3 := Hidden.mk hd3
            clear hd3 hk3 hF3 c0 c1
            go_wp2_with fail
            go_roundg (La.length - (j + 1))
            case measure => omega
            case rel => exact ⟨j + 1, F3, by omega, rfl, by go_num, HD3.out⟩
          · have i1 : (j : Int) < La.length := by omega
            have i2 : decide ((j : Int) < 40) = false := by simp; omega
            have i3 : decide (j < 40) = false := by simp; omega
            have H := Hidden.mk hdj
            clear hdj
            go_wp2_with fail
            go_meet
            exact ⟨j, F, H.out⟩
        · have i1 : decide ((j : Int) < La.length) = false := by simp; omega
          have i3 : decide (j < La.length) = false := by simp; omega
          have H := Hidden.mk hdj
          clear hdj
          go_wp2_with fail
          go_meet
          exact ⟨j, F, H.out⟩
    case rest =>
      obtain ⟨j1, F9, hd9⟩ := hcut
      have hu1 := (wrs_up ((pgs La).take j1) (newD_up nn)).1
      have hs1 := (wrs_up ((pgs La).take j1) (newD_up nn)).2
      obtain ⟨D2, hD2⟩ : ∃ D2, D2 = flushD (stepD (wrs (newD nn) ((pgs La).take j1))) := ⟨_, rfl⟩
      have H2 : Hidden (Up D2 ∧ D2.O = [] ∧ D2.S.length = nn) := ⟨by
        rw [hD2]
        obtain ⟨a, b, c⟩ := up_flush hu1
        exact ⟨a, b, by rw [c, hs1]; simp [newD]⟩⟩
      clear hs1
      go_wp2_with fail
      refine (hd9.flush hu1.2 (by rw [hu1.1]; decide)).mono ?_
      rintro e w10 ⟨rfl, hd10, -⟩
      rw [← hD2] at hd10
      clear hd9 hD2 hu1
      go_wp2_with fail
      refine (hd10.pend).mono ?_
      rintro e w11 ⟨v11, rfl, hown11, -, hd11⟩
      rw [H2.out.2.1] at hown11
      obtain ⟨A11, c11, rfl, -⟩ := own_nats hown11
      clear hown11 hd10
      have hml := mk_lists (nn : Int) nn rfl (by omega)
      have hl12 := Lst.made w11 F9 nn (readD D2) hd11.flt
      have hd12 := hd11.below ((Below.refl _ w11).alloc (Nat.le_refl _) (.cells (Array.replicate nn (.slice none 0 0)) 29))
      have hgo := hd11.bel.size
      simp only [List.length_nil]
      go_wp2_with fail
      generalize w11.alloc (.cells (Array.replicate nn (.slice none 0 0)) 29) = w12 at *
      generalize w11.heap.size = go at *
      have HL12 := Hidden.mk (And.intro hd12 hl12)
      clear hd11 hd12 hl12 hml
      go_loopg [27] nn (fun m i wr => ∃ k : Nat, k ≤ nn ∧ m = nn - k ∧ i = .int .i64 (k : Int) ∧ DevB w wr F9 d D2 ∧ Lst wr F9 go nn k (readD D2))
      case atStart => exact ⟨0, by omega, rfl, rfl, HL12.out.1, HL12.out.2⟩
      case round =>
        obtain ⟨k, hk, rfl, rfl, hdk, hlk⟩ := hrel
        by_cases hlt : k < nn
        · have i0 : (0 : Int) ≤ k := by omega
          have i1 : (k : Int) < nn := by omega
          have HLK := Hidden.mk hlk
          clear hlk
          go_wp2_with fail
          refine (hdk.read k (by rw [H2.out.2.2]; exact hlt) H2.out.1.2).mono ?_
          rintro e w13 ⟨g, cap, rfl, hg13, hr13, hl13, hb13, hd13⟩
          have hl14 := HLK.out.below hb13
          obtain ⟨⟨vs, hsl⟩, hfz⟩ := hl14.slot hlt
          have hnf := hl14.blk.2
          have hps := hl14.push hlt hr13 hl13 (fun hf => by have := hdk.flt _ hf; omega)
          have hdp := hd13.keep (hl14.keepSet (rowV g cap)) (fun q hq e => hnf (e ▸ hq)) (fun q hq => by rw [hq]; exact hgo)
          unfold rowV at hps hdp
          have HP := Hidden.mk (And.intro hdp hps)
          clear hdk hg13 hr13 hl13 hb13 hd13 hl14 hnf hps hdp
          go_wp2_with fail
          go_roundg (nn - (k + 1))
          case measure => omega
          case rel => exact ⟨k + 1, by omega, rfl, by go_num, HP.out.1, HP.out.2⟩
        · obtain rfl : k = nn := by omega
          have H12 := Hidden.mk (And.intro hdk hlk)
          clear hdk hlk HL12
          go_upto_block 4 with (fail)
          go_cut [] (fun wx => ∃ (j : Nat) (F : Nat → Prop), DevB w wx F d (wrs D2 ((pgs Lb).take j)) ∧ Lst wx F go k k (readD D2))
          case first =>
            go_wp2_with fail
            go_loopg [30] Lb.length (fun m i wr => ∃ (j : Nat) (F : Nat → Prop), j ≤ Lb.length ∧ m = Lb.length - j ∧ i = .int .i64 (j : Int) ∧ DevB w wr F d (wrs D2 ((pgs Lb).take j)) ∧ Lst wr F go k k (readD D2))
            case atStart => exact ⟨0, F9, by omega, rfl, rfl, H12.out.1, H12.out.2⟩
            case round =>
              obtain ⟨j, F, hj, rfl, rfl, hdj, hlj⟩ := hrel
              by_cases hlt : j < Lb.length
              · by_cases h40 : j < 40
                · have i0 : (0 : Int) ≤ j := by omega
                  have i1 : (j : Int) < Lb.length := by omega
                  have i2 : (j : Int) < 40 := by omega
                  have hup := (wrs_up ((pgs Lb).take j) (H2.out.1)).1
                  obtain ⟨p, off, rfl, hcells⟩ := HRB.out j hlt
                  have hx := HOB.out Lb[j] (List.getElem_mem hlt)
                  have c0w := hcells 0 (.int .i64 Lb[j].num) rfl
                  have c1w := hcells 1 (.slice Lb[j].A Lb[j].body.length Lb[j].cap) rfl
                  have HNX : Hidden (wrs D2 ((pgs Lb).take (j + 1)) = wr1 (wrs D2 ((pgs Lb).take j)) Lb[j].num Lb[j].body) := ⟨by rw [pgs_take Lb j hlt, wrs_snoc]⟩
                  rw [Nat.add_zero] at c0w
                  have plt := block_lt_of_cell c0w
                  have c0 := (hdj.bel.cell (p := ⟨p, off + j * 2, none⟩) plt).trans c0w
                  have c1 := (hdj.bel.cell (p := ⟨p, off + j * 2 + 1, none⟩) plt).trans c1w
                  have hwr := (hdj.below ((Below.refl _ wr).drew)).write_any hup Lb[j].num Lb[j].A Lb[j].cap Lb[j].body ((hx.rd.below hdj.bel).drewN 1) (fun h32 ad hA hf => by
                    obtain ⟨q, off', hA', hq⟩ := hx.rd.lt (by omega)
                    rw [hA] at hA'
                    obtain rfl := Option.some.inj hA'
                    have := hdj.new _ hf
                    simp only at this
                    omega)
                  generalize Lb[j] = x at *
                  obtain ⟨num, xA, xc, body⟩ := x
                  dsimp only at *
                  have HW := Hidden.mk hwr
                  have HLJ := Hidden.mk hlj
                  have KC := Hidden.mk (And.intro c0 c1)
                  have KW := Hidden.mk (And.intro c0w c1w)
                  have KP := Hidden.mk plt
                  clear hwr hx hcells c0w c1w hup hdj hlj plt
                  go_wp2_with fail
                  go_region_held3 (fun W => W.cell? ⟨p, off + j * 2, none⟩ = some (.int .i64 num) ∧ W.cell? ⟨p, off + j * 2 + 1, none⟩ = some (.slice xA body.length xc)) (first | exact KC.out | exact ⟨(hd3.bel.cell (p := ⟨p, off + j * 2, none⟩) KP.out).trans KW.out.1, (hd3.bel.cell (p := ⟨p, off + j * 2 + 1, none⟩) KP.out).trans KW.out.2⟩)
                    ((go_at_call 11; refine HW.out.mono ?_; rintro e w3 ⟨err, F3, rfl, hd3, hk3, hF3⟩))
                  rw [← HNX.out] at hd3
                  have HD3 := Hidden.mk (And.intro hd3 ((HLJ.out.below ((Below.refl _ _).drew)).keep hk3 hF3))
                  clear hd3 hk3 hF3 c0 c1
                  go_wp2_with fail
                  go_roundg (Lb.length - (j + 1))
                  case measure => omega
                  case rel => exact ⟨j + 1, F3, by omega, rfl, by go_num, HD3.out.1, HD3.out.2⟩
                · have i1 : (j : Int) < Lb.length := by omega
                  have i2 : decide ((j : Int) < 40) = false := by simp; omega
                  have i3 : decide (j < 40) = false := by simp; omega
                  have H := Hidden.mk (And.intro hdj hlj)
                  clear hdj hlj
                  go_wp2_with fail
                  go_meet
                  exact ⟨j, F, H.out.1, H.out.2⟩
              · have i1 : decide ((j : Int) < Lb.length) = false := by simp; omega
                have i3 : decide (j < Lb.length) = false := by simp; omega
                have H := Hidden.mk (And.intro hdj hlj)
                clear hdj hlj
                go_wp2_with fail
                go_meet
                exact ⟨j, F, H.out.1, H.out.2⟩
          case rest =>
            obtain ⟨j3, F, hd15, hl15⟩ := hcut
            have hup := wrs_up ((pgs Lb).take j3) H2.out.1
            obtain ⟨D3, hD3⟩ : ∃ D3, D3 = wrs D2 ((pgs Lb).take j3) := ⟨_, rfl⟩
            rw [← hD3] at hd15 hup
            have hl3 := hd15.lens
            have H3 : Hidden (Up D3 ∧ D3.S = D2.S ∧ D3.S.length = k ∧ D3.O.Nodup ∧ (∀ i ∈ D3.O, i < D3.S.length) ∧ (∀ i ∈ D3.O, (D3.M i).length = 32) ∧ ∀ i (hi : i < D3.S.length), D3.S[i].length = 32) := ⟨hup.1, hup.2, by rw [hup.2, H2.out.2.2], hl3.2.2.2.2.1, hl3.2.2.2.1, hl3.2.2.2.2.2.2.1, hl3.2.2.2.2.2.1⟩
            have hO300 : D3.O.length ≤ 300 := hl3.2.2.1
            clear hup hl3 hD3
            go_wp2_with fail
            refine (hd15.pend).mono ?_
            rintro e w16 ⟨vp, rfl, hown16, hb16, hd16⟩
            have hl16 := hl15.below hb16
            have hpd16 : Pnd w16 F wc.heap.size vp D3.O := ⟨hown16, fun q hq hf => by have := (hown16.lt q hq).1; have := hd15.flt q hf; omega⟩
            generalize wc.heap.size = bp at *
            have hml := mk_lists (k : Int) k rfl (by omega)
            have hal : Below w16.heap.size w16 (w16.alloc (.cells (Array.replicate k (.slice none 0 0)) 29)) := (Below.refl _ w16).alloc (Nat.le_refl _) _
            have hn17 := Lst.made w16 F k (readD D3) hd16.flt
            have hd17 := hd16.below hal
            have hl17 := hl16.below hal
            have hpd17 := hpd16.below hal
            have hgo2 := hd16.bel.size
            have hne : go ≠ w16.heap.size := by
              obtain ⟨⟨cur, hcur⟩, _⟩ := hl16.blk
              have := (Array.getElem?_eq_some_iff.1 hcur).1
              omega
            have HN := Hidden.mk hne
            clear hd15 hl15 hown16 hb16 hd16 hl16 hpd16 hal hne
            go_wp2_with fail
            generalize w16.alloc (.cells (Array.replicate k (.slice none 0 0)) 29) = w17 at *
            generalize w16.heap.size = go2 at *
            have H17 := Hidden.mk (And.intro hd17 (And.intro hl17 (And.intro hn17 hpd17)))
            clear hd17 hl17 hn17 hpd17 hml
            go_loopg [33] k (fun m i wr => ∃ q : Nat, q ≤ k ∧ m = k - q ∧ i = .int .i64 (q : Int) ∧ DevB w wr F d D3 ∧ Lst wr F go k k (readD D2) ∧ Lst wr F go2 k q (readD D3) ∧ Pnd wr F bp vp D3.O)
            case atStart => exact ⟨0, by omega, rfl, rfl, H17.out.1, H17.out.2.1, H17.out.2.2.1, H17.out.2.2.2⟩
            case round =>
              obtain ⟨q, hq, rfl, rfl, hdk, hlo, hlk, hpk⟩ := hrel
              by_cases hlt : q < k
              · have i0 : (0 : Int) ≤ q := by omega
                have i1 : (q : Int) < k := by omega
                have HLK := Hidden.mk (And.intro hlk (And.intro hlo hpk))
                clear hlk hlo hpk
                go_wp2_with fail
                refine (hdk.read q (by rw [H3.out.2.2.1]; exact hlt) H3.out.1.2).mono ?_
                rintro e w18 ⟨g, cap, rfl, hg13, hr13, hl13, hb13, hd13⟩
                have hl14 := HLK.out.1.below hb13
                obtain ⟨⟨vs, hsl⟩, hfz⟩ := hl14.slot hlt
                obtain ⟨⟨cur2, hcur2⟩, hnf⟩ := hl14.blk
                have hps := hl14.push hlt hr13 hl13 (fun hf => by have := hdk.flt _ hf; omega)
                have hdp := hd13.keep (hl14.keepSet (rowV g cap)) (fun p hp e => hnf (e ▸ hp)) (fun p hp => by rw [hp]; exact hgo2)
                have hlo' := (HLK.out.2.1.below hb13).setOther (q := q) HN.out hcur2 (rowV g cap)
                have hpk' := (HLK.out.2.2.below hb13).setOther (q := q) hcur2 (u := rowV g cap)
                unfold rowV at hps hdp hlo' hpk'
                have HP := Hidden.mk (And.intro hdp (And.intro hlo' (And.intro hps hpk')))
                clear hdk hg13 hr13 hl13 hb13 hd13 hl14 hnf hps hdp hlo' hpk' hcur2
                go_wp2_with fail
                go_roundg (k - (q + 1))
                case measure => omega
                case rel => exact ⟨q + 1, by omega, rfl, by go_num, HP.out.1, HP.out.2.1, HP.out.2.2.1, HP.out.2.2.2⟩
              · obtain rfl : q = k := by omega
                obtain ⟨Ap, cp, rfl, -⟩ := own_nats hpk.1
                have hrk := rdb_of HRK.out
                have hcr := hdk.crash C keep.length cc keep torn cut rfl (hrk.below hdk.bel) (fun hpos ad hC hf => by
                  obtain ⟨b, off, hA', hc⟩ := hrk 0 hpos
                  rw [hC] at hA'
                  obtain rfl := Option.some.inj hA'
                  have := hdk.new _ hf
                  have := block_lt_of_cell hc
                  simp only at *
                  omega)
                have HCR := Hidden.mk hcr
                have HL := Hidden.mk (And.intro hlo (And.intro hlk hpk))
                clear hcr hlo hlk hpk hdk
                go_wp2_with fail
                refine HCR.out.mono ?_
                rintro e w19 ⟨rfl, hd19, hk19⟩
                have hl19 := And.intro (HL.out.1.keep hk19 (fun _ h => .inl h)) (And.intro (HL.out.2.1.keep hk19 (fun _ h => .inl h)) (HL.out.2.2.keep hk19))
                obtain ⟨cn, hcn⟩ : ∃ cn : Nat, cn = (min 32 (max 0 cut)).toNat := ⟨_, rfl⟩
                rw [← hcn] at hd19
                have hcr := crash_read D3 keep torn cn
                obtain ⟨D4, hD4⟩ : ∃ D4, D4 = crashD D3 keep torn cn := ⟨_, rfl⟩
                rw [← hD4] at hd19
                have H4 : Hidden (D4.S.length = q ∧ D4.down = false ∧ (∀ i, i ∉ D3.O → readD D4 i = D3.S.getD i []) ∧ ∀ i a, a < D3.O.length → D3.O[a]? = some i → readD D4 i = crash1 D3 keep torn cn a) := ⟨by
                  rw [hD4]
                  refine ⟨?_, rfl, fun i hi => (hcr i H3.out.2.2.2.1 H3.out.2.2.2.2.1).1 hi, fun i a ha hai => (hcr i H3.out.2.2.2.1 H3.out.2.2.2.2.1).2 a ha hai⟩
                  show (crashS _ _ _ _ _).length = q
                  rw [crashS_len]; exact H3.out.2.2.1⟩
                have HCN := Hidden.mk hcn
                have HF19 : Hidden (DevB w w19 F d D4 ∧ Lst w19 F go q q (readD D2) ∧ Lst w19 F go2 q q (readD D3) ∧ Pnd w19 F bp (.slice Ap D3.O.length cp) D3.O) := ⟨hd19, hl19.1, hl19.2.1, hl19.2.2⟩
                have HBEL : Hidden (∀ wa wb, Below wa.heap.size wa wb → (DevB w wa F d D4 ∧ Lst wa F go q q (readD D2) ∧ Lst wa F go2 q q (readD D3) ∧ Pnd wa F bp (.slice Ap D3.O.length cp) D3.O) → (DevB w wb F d D4 ∧ Lst wb F go q q (readD D2) ∧ Lst wb F go2 q q (readD D3) ∧ Pnd wb F bp (.slice Ap D3.O.length cp) D3.O)) :=
                  ⟨fun wa wb hb ⟨h1, h2, h3, h4⟩ => ⟨h1.below hb, h2.below hb, h3.below hb, h4.below hb⟩⟩
                have hdn := hd19.down
                rw [H4.out.2.1] at hdn
                clear hl19 hcr hD4 hk19 hcn hd19
                go_wp2_with fail
                refine hdn.mono ?_
                rintro e w20 ⟨rfl, rfl⟩
                clear hdn
                go_wp2_with fail
                go_loopg [36] q (fun m i wr => ∃ t : Nat, t ≤ q ∧ m = q - t ∧ i = .int .i64 (t : Int) ∧ DevB w wr F d D4 ∧ Lst wr F go q q (readD D2) ∧ Lst wr F go2 q q (readD D3) ∧ Pnd wr F bp (.slice Ap D3.O.length cp) D3.O)
                case atStart => exact ⟨0, by omega, rfl, rfl, HF19.out⟩
                case round =>
                  obtain ⟨t, ht, rfl, rfl, hfour⟩ := hrel
                  by_cases hlt : t < q
                  · have i0 : (0 : Int) ≤ t := by omega
                    have i1 : (t : Int) < q := by omega
                    have HR := Hidden.mk (hfour.1.read t (by rw [H4.out.1]; exact hlt) H4.out.2.1)
                    have H5 := Hidden.mk hfour
                    clear hfour
                    go_wp2_with fail
                    refine HR.out.mono ?_
                    rintro e w20 ⟨g, cx, rfl, -, hrx, hlx, hb20, -⟩
                    have F20 := Hidden.mk (HBEL.out _ _ hb20 H5.out)
                    obtain ⟨g1, c1, hc1c, hr1, hl1⟩ := F20.out.2.1.cell t hlt
                    obtain ⟨g2', c2, hc2c, hr2, hl2⟩ := F20.out.2.2.1.cell t hlt
                    have hpn := F20.out.2.2.2.1
                    have HRX := Hidden.mk hrx
                    have HR1 := Hidden.mk hr1
                    have HR2 := Hidden.mk hr2
                    have hcx := hrx.le.1
                    have hc1 := hr1.le.1
                    have hc2 := hr2.le.1
                    have HLX := Hidden.mk hlx
                    have HL1 := Hidden.mk hl1
                    have HL2 := Hidden.mk hl2
                    have HPN := Hidden.mk hpn
                    clear hrx hr1 hr2 hb20 hpn hlx hl1 hl2 hcx hc1 hc2
                    go_wp2_with fail
                    go_loopg [39, 40] D3.O.length (fun m a i wx => w20 = wx ∧ ∃ j : Nat, j ≤ D3.O.length ∧ m = D3.O.length - j ∧ i = .int .i64 (j : Int) ∧ a = .int .i64 (atOf D3.O t j))
                    case atStart => exact ⟨rfl, 0, by omega, rfl, rfl, rfl⟩
                    case round =>
                      obtain ⟨rfl, j, hj, rfl, rfl, rfl⟩ := hrel
                      by_cases hjl : j < D3.O.length
                      · have j0 : (0 : Int) ≤ j := by omega
                        have j1 : (j : Int) < D3.O.length := by omega
                        obtain ⟨Aq, cq, hvq, hcells⟩ := own_nats HPN.out
                        injection hvq with hAq _ hcq
                        subst hAq hcq
                        obtain ⟨gp, offp, rfl, hcp⟩ := hcells j hjl
                        have HAT : Hidden (atOf D3.O t (j + 1) = if D3.O[j] = t then (j : Int) else atOf D3.O t j) := ⟨by
                          rw [atOf]
                          have : D3.O.getD j 0 = D3.O[j] := by simp [hjl]
                          rw [this]⟩
                        generalize D3.O[j] = oj at *
                        clear hcells
                        by_cases he : oj = t
                        · subst he
                          go_wp2_with fail
                          go_roundg (D3.O.length - (j + 1))
                          case measure => omega
                          case rel => exact ⟨rfl, j + 1, by omega, rfl, by go_num, by rw [HAT.out]; simp⟩
                        · have hbq : ((oj : Int) == (t : Int)) = false := by simp; omega
                          have HE := Hidden.mk he
                          clear he
                          go_wp2_with fail
                          go_roundg (D3.O.length - (j + 1))
                          case measure => omega
                          case rel => exact ⟨rfl, j + 1, by omega, rfl, by go_num, by rw [HAT.out, if_neg HE.out]⟩
                      · obtain rfl : j = D3.O.length := by omega
                        have hrx := HRX.out
                        have hr1 := HR1.out
                        have hr2 := HR2.out
                        have hlx := HLX.out
                        have hl1 := HL1.out
                        have hl2 := HL2.out
                        have hcx := hrx.le.1
                        have hc1 := hr1.le.1
                        have hc2 := hr2.le.1
                        have hO1 : readD D2 t = D3.S.getD t [] := by unfold readD; rw [H2.out.2.1, if_neg (by simp), H3.out.2.1]
                        by_cases htO : t ∈ D3.O
                        · obtain ⟨a, ha⟩ := List.mem_iff_getElem?.1 htO
                          obtain ⟨hal, hat⟩ := List.getElem?_eq_some_iff.1 ha
                          have hatv : atOf D3.O t D3.O.length = a := by rw [← hat]; exact atOf_some D3.O H3.out.2.2.2.1 a hal _ hal (Nat.le_refl _)
                          have hX := H4.out.2.2.2 t a hal ha
                          have hN : readD D3 t = D3.M t := by unfold readD; rw [if_pos htO]
                          have hga : D3.O.getD a 0 = t := by simp [hal, hat]
                          unfold crash1 at hX
                          rw [hga, ← hO1, ← hN] at hX
                          rw [hatv]
                          generalize readD D4 t = X at *
                          generalize readD D2 t = O at *
                          generalize readD D3 t = N at *
                          clear hatv hN hga hO1 htO ha hat
                          have a0 : decide ((a : Int) < 0) = false := by simp
                          by_cases htn : (a : Int) = torn
                          · rw [if_pos htn] at hX
                            have t1 : ((a : Int) == torn) = true := by simpa using htn
                            have hX66 : X.take cn = N.take cn ∧ X.drop cn = O.drop cn := by
                              have hc := HCN.out
                              have hl : (N.take cn).length = cn := by rw [List.length_take]; omega
                              rw [hX]
                              unfold splice
                              simp only [List.take_zero, List.nil_append, Nat.zero_add, hl]
                              constructor
                              · rw [List.take_append_of_le_length (by omega), List.take_of_length_le (by omega)]
                              · rw [List.drop_append_of_le_length (by omega), List.drop_of_length_le (by omega), List.nil_append]
                            have hcn32 : cn ≤ 32 := by have := HCN.out; omega
                            clear hX htn
                            by_cases hc0 : cut < 0
                            · have u1 : decide (cut < 0) = true := by simpa using hc0
                              obtain rfl : cn = 0 := by have := HCN.out; omega
                              clear hc0
                              have hX1 : X.take 0 = N.take 0 := hX66.1
                              have hX2 : X.drop 0 = O.drop 0 := hX66.2
                              have a1 := run_headA (some ⟨g, 0, none⟩) 32 cx 0 (by omega)
                              have a2 := run_headA (some ⟨g2', 0, none⟩) 32 c2 0 (by omega)
                              have a3 := run_tailA (some ⟨g, 0, none⟩) 32 cx 0 (by omega)
                              have a4 := run_tailA (some ⟨g1, 0, none⟩) 32 c1 0 (by omega)
                              have q3 := hrx.rd.tail 0 cx (by omega) (by omega)
                              have q4 := hr1.rd.tail 0 c1 (by omega) (by omega)
                              have e1 := fun nq => conv_text (w20.drewN nq) (some ⟨g, 0, none⟩) 0 cx (X.take 0) (by rw [List.length_take]; omega) ((hrx.rd.take 0 (by omega)).drewN nq)
                              have e2 := fun nq => conv_text (w20.drewN nq) (some ⟨g2', 0, none⟩) 0 c2 (N.take 0) (by rw [List.length_take]; omega) ((hr2.rd.take 0 (by omega)).drewN nq)
                              generalize (if cx = 0 then some (⟨g, 0, none⟩ : Addr) else (some (⟨g, 0, none⟩ : Addr)).map (·.add 0)) = A3 at *
                              generalize (if c1 = 0 then some (⟨g1, 0, none⟩ : Addr) else (some (⟨g1, 0, none⟩ : Addr)).map (·.add 0)) = A4 at *
                              have e3 := fun nq => conv_text (w20.drewN nq) A3 (32 - 0) (cx - 0) (X.drop 0) (by rw [List.length_drop]; omega) (q3.drewN nq)
                              have e4 := fun nq => conv_text (w20.drewN nq) A4 (32 - 0) (c1 - 0) (O.drop 0) (by rw [List.length_drop]; omega) (q4.drewN nq)
                              rw [hX1] at e1
                              rw [hX2] at e3
                              generalize N.take 0 = NT at *
                              generalize O.drop 0 = OD at *
                              simp only [Int.cast_ofNat_Int, Nat.sub_zero] at a1 a2 a3 a4 e1 e2 e3 e4
                              clear hX1 hX2 hX66 q3 q4 hr1 hr2 hrx hlx hl1 hl2
                              go_wp2_with fail
                              go_quiet (fail)
                              go_wp2_with fail
                              clear a1 a2 a3 a4 e1 e2 e3 e4
                              go_roundg (q - (t + 1))
                              case measure => omega
                              case rel => exact ⟨t + 1, by omega, rfl, by go_num, HBEL.out _ _ (below_drewN (Below.refl _ _) _) F20.out⟩

                            · have u1 : decide (cut < 0) = false := by simp; omega
                              by_cases hc3 : 32 < cut
                              · have u2 : decide (32 < cut) = true := by simpa using hc3
                                obtain rfl : cn = 32 := by have := HCN.out; omega
                                clear hc0 hc3
                                have hX1 : X.take 32 = N.take 32 := hX66.1
                                have hX2 : X.drop 32 = O.drop 32 := hX66.2
                                have a1 := run_headA (some ⟨g, 0, none⟩) 32 cx 32 (by omega)
                                have a2 := run_headA (some ⟨g2', 0, none⟩) 32 c2 32 (by omega)
                                have a3 := run_tailA (some ⟨g, 0, none⟩) 32 cx 32 (by omega)
                                have a4 := run_tailA (some ⟨g1, 0, none⟩) 32 c1 32 (by omega)
                                have q3 := hrx.rd.tail 32 cx (by omega) (by omega)
                                have q4 := hr1.rd.tail 32 c1 (by omega) (by omega)
                                have e1 := fun nq => conv_text (w20.drewN nq) (some ⟨g, 0, none⟩) 32 cx (X.take 32) (by rw [List.length_take]; omega) ((hrx.rd.take 32 (by omega)).drewN nq)
                                have e2 := fun nq => conv_text (w20.drewN nq) (some ⟨g2', 0, none⟩) 32 c2 (N.take 32) (by rw [List.length_take]; omega) ((hr2.rd.take 32 (by omega)).drewN nq)
                                generalize (if cx = 32 then some (⟨g, 0, none⟩ : Addr) else (some (⟨g, 0, none⟩ : Addr)).map (·.add 32)) = A3 at *
                                generalize (if c1 = 32 then some (⟨g1, 0, none⟩ : Addr) else (some (⟨g1, 0, none⟩ : Addr)).map (·.add 32)) = A4 at *
                                have e3 := fun nq => conv_text (w20.drewN nq) A3 (32 - 32) (cx - 32) (X.drop 32) (by rw [List.length_drop]; omega) (q3.drewN nq)
                                have e4 := fun nq => conv_text (w20.drewN nq) A4 (32 - 32) (c1 - 32) (O.drop 32) (by rw [List.length_drop]; omega) (q4.drewN nq)
                                rw [hX1] at e1
                                rw [hX2] at e3
                                generalize N.take 32 = NT at *
                                generalize O.drop 32 = OD at *
                                simp only [Int.cast_ofNat_Int, Nat.sub_self] at a1 a2 a3 a4 e1 e2 e3 e4
                                clear hX1 hX2 hX66 q3 q4 hr1 hr2 hrx hlx hl1 hl2
                                go_wp2_with fail
                                go_quiet (fail)
                                go_wp2_with fail
                                clear a1 a2 a3 a4 e1 e2 e3 e4
                                go_roundg (q - (t + 1))
                                case measure => omega
                                case rel => exact ⟨t + 1, by omega, rfl, by go_num, HBEL.out _ _ (below_drewN (Below.refl _ _) _) F20.out⟩

                              · have u2 : decide (32 < cut) = false := by simp; omega
                                have hcc : cut = (cn : Int) := by have := HCN.out; omega
                                subst hcc
                                clear hc0 hc3
                                have hX1 : X.take cn = N.take cn := hX66.1
                                have hX2 : X.drop cn = O.drop cn := hX66.2
                                have a1 := run_headA (some ⟨g, 0, none⟩) 32 cx cn (by omega)
                                have a2 := run_headA (some ⟨g2', 0, none⟩) 32 c2 cn (by omega)
                                have a3 := run_tailA (some ⟨g, 0, none⟩) 32 cx cn (by omega)
                                have a4 := run_tailA (some ⟨g1, 0, none⟩) 32 c1 cn (by omega)
                                have q3 := hrx.rd.tail cn cx (by omega) (by omega)
                                have q4 := hr1.rd.tail cn c1 (by omega) (by omega)
                                have e1 := fun nq => conv_text (w20.drewN nq) (some ⟨g, 0, none⟩) cn cx (X.take cn) (by rw [List.length_take]; omega) ((hrx.rd.take cn (by omega)).drewN nq)
                                have e2 := fun nq => conv_text (w20.drewN nq) (some ⟨g2', 0, none⟩) cn c2 (N.take cn) (by rw [List.length_take]; omega) ((hr2.rd.take cn (by omega)).drewN nq)
                                generalize (if cx = cn then some (⟨g, 0, none⟩ : Addr) else (some (⟨g, 0, none⟩ : Addr)).map (·.add cn)) = A3 at *
                                generalize (if c1 = cn then some (⟨g1, 0, none⟩ : Addr) else (some (⟨g1, 0, none⟩ : Addr)).map (·.add cn)) = A4 at *
                                have e3 := fun nq => conv_text (w20.drewN nq) A3 (32 - cn) (cx - cn) (X.drop cn) (by rw [List.length_drop]; omega) (q3.drewN nq)
                                have e4 := fun nq => conv_text (w20.drewN nq) A4 (32 - cn) (c1 - cn) (O.drop cn) (by rw [List.length_drop]; omega) (q4.drewN nq)
                                rw [hX1] at e1
                                rw [hX2] at e3
                                generalize N.take cn = NT at *
                                generalize O.drop cn = OD at *
                                clear hX1 hX2 hX66 q3 q4 hr1 hr2 hrx hlx hl1 hl2
                                go_wp2_with fail
                                go_quiet (fail)
                                go_wp2_with fail
                                clear a1 a2 a3 a4 e1 e2 e3 e4
                                go_roundg (q - (t + 1))
                                case measure => omega
                                case rel => exact ⟨t + 1, by omega, rfl, by go_num, HBEL.out _ _ (below_drewN (Below.refl _ _) _) F20.out⟩

                          · rw [if_neg htn] at hX
                            have t1 : ((a : Int) == torn) = false := by simpa using htn
                            clear htn
                            by_cases hkl : a < keep.length
                            · have i5 : (a : Int) < keep.length := by omega
                              have i6 : (0 : Int) ≤ a := by omega
                              obtain ⟨pk, ok, rfl, hck⟩ := ((rdb_of HRK.out).below F20.out.1.bel) a hkl
                              have hkg : keep.getD a false = keep[a] := by simp [hkl]
                              rw [hkg] at hX
                              cases hkv : keep[a]'hkl with
                              | true =>
                                rw [hkv] at hX hck
                                simp only [if_true] at hX
                                rw [hX] at hrx hlx
                                clear hkg hkv
                                have e1 := conv_text w20 (some ⟨g, 0, none⟩) 32 cx _ hlx hrx.rd
                                have e2 := conv_text w20 (some ⟨g2', 0, none⟩) 32 c2 _ hl2 hr2.rd
                                clear hX hr1 hr2 hrx hlx hl1 hl2
                                go_wp2_with fail
                                clear e1 e2
                                go_roundg (q - (t + 1))
                                case measure => omega
                                case rel => exact ⟨t + 1, by omega, rfl, by go_num, F20.out⟩

                              | false =>
                                rw [hkv] at hX hck
                                simp only [Bool.false_eq_true, if_false] at hX
                                rw [hX] at hrx hlx
                                clear hkg hkv
                                have e1 := conv_text w20 (some ⟨g, 0, none⟩) 32 cx _ hlx hrx.rd
                                have e2 := conv_text w20 (some ⟨g1, 0, none⟩) 32 c1 _ hl1 hr1.rd
                                clear hX hr1 hr2 hrx hlx hl1 hl2
                                go_wp2_with fail
                                clear e1 e2
                                go_roundg (q - (t + 1))
                                case measure => omega
                                case rel => exact ⟨t + 1, by omega, rfl, by go_num, F20.out⟩

                            · have i5 : decide ((a : Int) < keep.length) = false := by simp; omega
                              have i6 : decide (a < keep.length) = false := by simp; omega
                              have hkg : keep.getD a false = false := by
                                have : keep.length ≤ a := by omega
                                simp [this]
                              rw [hkg] at hX
                              simp only [Bool.false_eq_true, if_false] at hX
                              rw [hX] at hrx hlx
                              clear hkg hkl
                              have e1 := conv_text w20 (some ⟨g, 0, none⟩) 32 cx _ hlx hrx.rd
                              have e2 := conv_text w20 (some ⟨g1, 0, none⟩) 32 c1 _ hl1 hr1.rd
                              clear hX hr1 hr2 hrx hlx hl1 hl2
                              go_wp2_with fail
                              clear e1 e2
                              go_roundg (q - (t + 1))
                              case measure => omega
                              case rel => exact ⟨t + 1, by omega, rfl, by go_num, F20.out⟩

                        · rw [atOf_none D3.O t htO _ (Nat.le_refl _)]
                          have hX := H4.out.2.2.1 t htO
                          rw [← hO1] at hX
                          rw [hX] at hrx hlx
                          have e1 := fun nq => conv_text (w20.drewN nq) (some ⟨g, 0, none⟩) 32 cx _ hlx (hrx.rd.drewN nq)
                          have e2 := fun nq => conv_text (w20.drewN nq) (some ⟨g1, 0, none⟩) 32 c1 _ hl1 (hr1.rd.drewN nq)
                          clear hX hO1 hrx hr1 hr2 hlx hl1 hl2 htO hcx hc1 hc2
                          go_wp2_with fail
                          go_quiet (fail)
                          go_wp2_with fail
                          clear e1 e2
                          go_roundg (q - (t + 1))
                          case measure => omega
                          case rel => exact ⟨t + 1, by omega, rfl, by go_num, HBEL.out _ _ (below_drewN (Below.refl _ _) _) F20.out⟩
                  · obtain rfl : t = q := by omega
                    have HB := Hidden.mk hfour.1.bel
                    clear hfour
                    go_wp2_with fail
                    go_ret
                    exact ⟨rfl, HB.out⟩
end Go.Proofs.YtlkibidblpdjcaaDoor
