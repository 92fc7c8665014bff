/- The contract of check.Mend. -/
import Derived.Test.YtmahnlkbbpbeoaaChk5
import Derived.Deep.LoopGhost
namespace Go.Proofs.Ytmahnlkbbpbeoaa
open Go.RowKit

/-- the slice at A has the faults L -/
def RdFs (w : World) (A : Option Addr) (L : List Flt) : Prop := ∀ i (h : i < L.length), ∃ g off, A = some ⟨g, off, none⟩ ∧ w.cell? ⟨g, off + i * 2, none⟩ = some (.int .i64 L[i].what) ∧ w.cell? ⟨g, off + i * 2 + 1, none⟩ = some (.int .i64 L[i].which)
theorem RdFs.below {w w' : World} {A : Option Addr} {L : List Flt} (h : RdFs w A L) (hb : Below w.heap.size w w') : RdFs w' A L := fun i hi => by
  obtain ⟨g, off, hA, c0, c1⟩ := h i hi
  exact ⟨g, off, hA, (hb.cell (block_lt_of_cell c0)).trans c0, (hb.cell (block_lt_of_cell c1)).trans c1⟩
theorem fcells_at (L : List Flt) (q : Nat) (hq : q < 2) : ∀ i (h : i < L.length), (L.flatMap fcells)[i * 2 + q]? = (fcells L[i])[q]? := by
  induction L with
  | nil => intro i h; simp at h
  | cons x L ih =>
    intro i h
    rw [List.flatMap_cons]
    have hl : (fcells x).length = 2 := rfl
    cases i with
    | zero => rw [List.getElem?_append_left (by omega)]; simp
    | succ i =>
      rw [List.getElem?_append_right (by omega), hl, show (i + 1) * 2 + q - 2 = i * 2 + q from by omega, ih i (by simpa using h)]
      simp
theorem own_rdFs {w : World} {base : Nat} {v : Value} {L : List Flt} (h : w.ownsRow base 92 2 v L.length (L.flatMap fcells)) : ∃ A c, v = .slice A L.length c ∧ L.length ≤ c ∧ RdFs w A L := by
  rcases h.2 with ⟨rfl, h0⟩ | ⟨g, cap, cur, rfl, _, hh, hc, hm, hz, ht⟩
  · exact ⟨none, 0, by rw [h0], by omega, fun i hi => by omega⟩
  · refine ⟨_, cap, rfl, hc, fun i hi => ?_⟩
    have hcell : ∀ q u, q < 2 → (fcells L[i])[q]? = some u → w.cell? ⟨g, 0 + (i * 2 + q), none⟩ = some u := fun q u hq hu => by
      have := h.cells (g := g) rfl (i * 2 + q) u (by rw [fcells_at L q hq i hi]; exact hu)
      rw [Addr.add_lit] at this
      exact this
    refine ⟨g, 0, rfl, ?_, ?_⟩
    · exact hcell 0 _ (by omega) rfl
    · exact (Nat.add_assoc 0 (i * 2) 1) ▸ hcell 1 _ (by omega) rfl
theorem own_rdFs' {w : World} {base c : Nat} {A : Option Addr} {L : List Flt} (h : w.ownsRow base 92 2 (.slice A L.length c) L.length (L.flatMap fcells)) : RdFs w A L := by
  obtain ⟨A', c', hv, _, hr⟩ := own_rdFs h
  injection hv with hv
  subst hv
  exact hr
theorem flt_range {l : Bytes} {f : Flt} (h : f ∈ checkL l) : ((f.what = 4 ∨ f.what = 5) ∧ f.which < 8) ∨ (f.what ≠ 4 ∧ f.what ≠ 5 ∧ 1 ≤ f.which ∧ f.which ≤ 40) := by
  rcases mem_checkL.1 h with ⟨k, hk, hn, rfl⟩ | ⟨i, hi, hn, rfl⟩
  · have := kindH_cases l.length (rawE l) k
    right; simp only; omega
  · have := kindR_cases (leadsE l.length (rawE l)) (rawR l) i
    left; simp only; omega
theorem clearAll_snoc (l : Bytes) (F : List Flt) (j : Nat) (hj : j < F.length) : clearAll l (F.take (j + 1)) = clearF (clearAll l (F.take j)) F[j] := by
  rw [List.take_succ_eq_append_getElem hj]
  unfold clearAll
  rw [List.foldl_append]
  rfl
theorem checkL_len (l : Bytes) : (checkL l).length ≤ 48 := by
  unfold checkL
  have h1 := faultsH_len l.length (rawE l) 40
  have h2 := faultsR_len (leadsE l.length (rawE l)) (rawR l) 8
  rw [List.length_append]; omega
/-- the round of Mend's inner loop, told -/
structure MSt (w wr : World) (g cap b1 : Nat) (vf : Value) (l : Bytes) (F : List Flt) : Prop where
  bel : Below w.heap.size w wr
  row : Row wr 5 g cap l
  own : wr.ownsRow b1 92 2 vf F.length (F.flatMap fcells)
  lt : g < b1
  le : w.heap.size ≤ g
theorem MSt.alloc {w wr : World} {g cap b1 : Nat} {vf : Value} {l : Bytes} {F : List Flt} (h : MSt w wr g cap b1 vf l F) (o : Obj) : MSt w (wr.alloc o) g cap b1 vf l F :=
  ⟨h.bel.alloc h.bel.size o, h.row.below ((Below.refl _ wr).alloc (Nat.le_refl _) o) h.row.lt, h.own.alloc o, h.lt, h.le⟩
theorem MSt.clear {w wr : World} {g cap b1 : Nat} {vf : Value} {l : Bytes} {F : List Flt} (h : MSt w wr g cap b1 vf l F) (o n : Nat) (hn : 0 < n) (hin : o + n ≤ l.length) :
    ∃ w', (∀ c ty, (Builtin.clear_ #[22] ty #[.slice (some ⟨g, o, none⟩) n c]).run Try.prog wr = .ok (.tuple #[]) w') ∧ MSt w w' g cap b1 vf (splice l o (List.replicate n 0)) F := by
  obtain ⟨cur, hcur, hc1, _, hcs, _⟩ := id h.row
  refine ⟨wr.setRow g (setB cur o ((List.replicate n (0 : UInt8)).map bv)), fun c ty => run_clear_row wr g o n c cur _ hcur hn (by omega) ty, below_setRow h.bel h.le _, h.row.set_ o _ (by simpa using hin) cur hcur, ?_, h.lt, h.le⟩
  exact h.own.kept (grownBy_setRow wr g _) (.inr fun e => by have := (h.own.lt _ e).1; have := h.lt; omega)
theorem mend_no (A : Option Addr) (n c : Nat) (l : Bytes) (w : World) (hn : l.length = n) (hl : n ≤ 140737488351232) (hr : rightB n = false) (hrd : Rd w A l) :
    Calls Try.prog 12 #[.slice A n c] w fun e w' => e = .returned (.tuple #[.slice none 0 0, .iface 80 (.int .i64 3)]) ∧ Below w.heap.size w w' := by
  rcases A with _ | ad
  · have h0 : n = 0 := by
      rcases Nat.eq_zero_or_pos n with h0 | h0
      · exact h0
      · obtain ⟨b, off, h, _⟩ := hrd 0 (by omega); cases h
    go_enter Try.func12, Try.ntmps12
    go_wp2_with fail
    refine (clone_nil _ _ _).mono ?_
    rintro e w1 ⟨rfl, rfl⟩
    go_wp2_with fail
    refine wp_loop_rounds 1 ?_
    rw [rounds_succ]
    go_wp2_with fail
    refine (check_no _ 0 _ _ (by decide)).mono ?_
    rintro e w1 ⟨rfl, rfl⟩
    go_wp2_with fail
    go_ret2
    exact ⟨rfl, Below.refl _ _⟩
  · go_enter Try.func12, Try.ntmps12
    go_wp2_with fail
    refine (clone_some _ _ _ _ _ hn hl hrd).mono ?_
    rintro e w1 ⟨g, cap, rfl, hg, hrow, hb⟩
    go_wp2_with fail
    refine wp_loop_rounds 1 ?_
    rw [rounds_succ]
    go_wp2_with fail
    refine (check_no _ n _ _ hr).mono ?_
    rintro e w1 ⟨rfl, rfl⟩
    go_wp2_with fail
    go_ret2
    exact ⟨rfl, hb⟩
set_option maxRecDepth 100000 in
theorem mend_yes (A : Option Addr) (n c : Nat) (l : Bytes) (w : World) (hn : l.length = n) (hr : rightB n = true) (hrd : Rd w A l) :
    Calls Try.prog 12 #[.slice A n c] w fun e w' => ∃ g cap, e = .returned (.tuple #[.slice (some ⟨g, 0, none⟩) n cap, .nilIface]) ∧ w.heap.size ≤ g ∧ n ≤ cap ∧ Row w' 5 g cap (mendL l) ∧ Below w.heap.size w w' := by
  have hnb := rightB_true.1 hr
  obtain ⟨p0, off0, rfl, hlt0⟩ := hrd.lt (by omega)
  have HM : Hidden (mendL l = clearAll l (checkL l)) := ⟨rfl⟩
  have HID : Hidden (checkL l = [] → mendL l = l) := ⟨mend_id⟩
  have HCLEAN : Hidden (checkL (mendL l) = []) := ⟨mend_clean (by omega)⟩
  have HML : Hidden ((mendL l).length = n) := ⟨by rw [mendL_len (by omega), hn]⟩
  have HN := Hidden.mk hn
  have HIN : Hidden (∀ f ∈ checkL l, FltIn l.length f) := ⟨fun _ hf => flt_in (by omega) hf⟩
  have HRG : Hidden (∀ f ∈ checkL l, ((f.what = 4 ∨ f.what = 5) ∧ f.which < 8) ∨ (f.what ≠ 4 ∧ f.what ≠ 5 ∧ 1 ≤ f.which ∧ f.which ≤ 40)) := ⟨fun _ hf => flt_range hf⟩
  have hcl48 := checkL_len l
  go_enter Try.func12, Try.ntmps12
  go_wp2_with fail
  refine (clone_some _ _ _ _ _ hn (by omega) hrd).mono ?_
  rintro e w1 ⟨g, cap, rfl, hg, hrow, hb⟩
  have hlc := hrow.le
  have hlc1 : n ≤ cap := by have := hlc.1; omega
  clear hn hlc
  go_wp2_with fail
  go_loopg [] 2 (fun k wr => ∃ lb : Bytes, Below w.heap.size w wr ∧ Row wr 5 g cap lb ∧ Hidden ((k = 2 ∧ lb = l) ∨ (k = 1 ∧ lb = mendL l)))
  case atStart => exact ⟨l, hb, hrow, ⟨.inl ⟨rfl, rfl⟩⟩⟩
  case round =>
    obtain ⟨lb, hbel, hrow1, hcase⟩ := hrel
    have HLB : Hidden (lb.length = n) := ⟨by rcases hcase.out with ⟨_, rfl⟩ | ⟨_, rfl⟩; exact HN.out; exact HML.out⟩
    have HFIN : Hidden (checkL lb = [] → lb = mendL l) := ⟨fun h0 => by rcases hcase.out with ⟨_, rfl⟩ | ⟨_, rfl⟩; exact (HID.out h0).symm; rfl⟩
    have HFIRST : Hidden (checkL lb ≠ [] → gk = 2 ∧ lb = l) := ⟨fun h0 => by rcases hcase.out with h | ⟨_, rfl⟩; exact h; exact absurd HCLEAN.out h0⟩
    go_wp2_with fail
    refine (check_yes (some ⟨g, 0, none⟩) n cap lb _ HLB.out hr hlc1 hrow1.rd).mono ?_
    rintro e w2 ⟨v, rfl, hown, hb2⟩
    have hrow2 := hrow1.below hb2 hrow1.lt
    have hB2 := hbel.trans (hb2.mono hbel.size)
    have hgl := hrow1.lt
    generalize wr.heap.size = b1 at *
    obtain ⟨Af, cf, rfl, hcf, -⟩ := own_rdFs hown
    obtain ⟨F, hFF⟩ : ∃ F, checkL lb = F := ⟨_, rfl⟩
    rw [hFF] at hown hcf
    rw [hFF]
    have HFF := Hidden.mk hFF
    clear hFF
    by_cases hF : F = []
    · subst hF
      have hfin := HFIN.out HFF.out
      have HROW : Hidden (Row w2 5 g cap (mendL l)) := ⟨by rw [← hfin]; exact hrow2⟩
      clear hfin hown hcf hrow1 hrow2
      go_wp2_with fail
      go_ret2
      exact ⟨g, cap, rfl, hg, hlc1, HROW.out, hB2⟩
    · have hfi := HFIRST.out (by rw [HFF.out]; exact hF)
      obtain ⟨rfl, rfl⟩ := hfi
      have hne : 0 < F.length := List.length_pos_iff.2 hF
      have hst : MSt w w2 g cap b1 (.slice Af F.length cf) lb F := ⟨hB2, hrow2, hown, hgl, hg⟩
      have hl48 : F.length ≤ 48 := by rw [← HFF.out]; exact hcl48
      clear hF hown hrow1 hrow2 hB2 hb2 hbel hcl48 hcf
      go_wp2_with fail
      go_loopg [24] F.length (fun k i wr => ∃ j : Nat, j ≤ F.length ∧ k = F.length - j ∧ i = .int .i64 j ∧ MSt w wr g cap b1 (.slice Af F.length cf) (clearAll lb (F.take j)) F)
      case atStart => exact ⟨0, by omega, rfl, rfl, hst⟩
      case round =>
        obtain ⟨j, hj, rfl, rfl, hst3⟩ := hrel
        by_cases hlt : j < F.length
        · obtain ⟨gf, off, hA, c0, c1⟩ := own_rdFs' hst3.own j hlt
          subst hA
          have HCL : Hidden (clearAll lb (F.take (j + 1)) = clearF (clearAll lb (F.take j)) F[j]) := ⟨clearAll_snoc lb F j hlt⟩
          have HLJ : Hidden ((clearAll lb (F.take j)).length = n) := ⟨by rw [clearAll_len _ _ (fun f hf => HIN.out f (by rw [HFF.out]; exact List.mem_of_mem_take hf)), HN.out]⟩
          have hin := HIN.out F[j] (by rw [HFF.out]; exact List.getElem_mem hlt)
          have hrg := HRG.out F[j] (by rw [HFF.out]; exact List.getElem_mem hlt)
          unfold FltIn fltO fltN at hin
          have i0 : (0 : Int) ≤ j := by omega
          have i1 : (j : Int) < F.length := by omega
          generalize F[j] = f at *
          obtain ⟨what, which⟩ := f
          dsimp only at *
          have hst4 := hst3.alloc (.cells #[.int .i64 what, .int .i64 which] 92)
          clear hst3
          by_cases h4 : what = 4
          · subst h4
            rw [show (((4 : Nat)) : Int) = 4 from rfl] at c0 hst4
            have hw8 : which < 8 := by omega
            have hEQ : clearF (clearAll lb (F.take j)) ⟨4, which⟩ = splice (clearAll lb (F.take j)) (200 + 11 * which) (List.replicate 11 0) := by simp [clearF, fltO, fltN]
            rw [hEQ] at HCL
            clear hrg hin hEQ
            go_wp2_with fail
            refine (rawRoot_any (some ⟨g, 0, none⟩) n cap (which : Int) _ (by omega) (by omega) (by omega) hlc1).mono ?_
            rintro e w4 ⟨rfl, rfl⟩
            rw [rootO_k]
            simp only [Option.map_some, Addr.add_lit, Nat.zero_add]
            obtain ⟨w5, hclear, hst5⟩ := hst4.clear (200 + 11 * which) 11 (by omega) (by rw [HLJ.out]; omega)
            have HST5 := Hidden.mk hst5
            clear hst5 hst4
            go_wp2_with (simp only [hclear])
            go_roundg (F.length - (j + 1))
            case measure => omega
            case rel => exact ⟨j + 1, by omega, rfl, by go_num, by rw [HCL.out]; exact HST5.out⟩
          · by_cases h5 : what = 5
            · subst h5
              rw [show (((5 : Nat)) : Int) = 5 from rfl] at c0 hst4
              have hw8 : which < 8 := by omega
              have hEQ : clearF (clearAll lb (F.take j)) ⟨5, which⟩ = splice (clearAll lb (F.take j)) (200 + 11 * which) (List.replicate 11 0) := by simp [clearF, fltO, fltN]
              rw [hEQ] at HCL
              clear hrg hin hEQ h4
              go_wp2_with fail
              refine (rawRoot_any (some ⟨g, 0, none⟩) n cap (which : Int) _ (by omega) (by omega) (by omega) hlc1).mono ?_
              rintro e w4 ⟨rfl, rfl⟩
              rw [rootO_k]
              simp only [Option.map_some, Addr.add_lit, Nat.zero_add]
              obtain ⟨w5, hclear, hst5⟩ := hst4.clear (200 + 11 * which) 11 (by omega) (by rw [HLJ.out]; omega)
              have HST5 := Hidden.mk hst5
              clear hst5 hst4
              go_wp2_with (simp only [hclear])
              go_roundg (F.length - (j + 1))
              case measure => omega
              case rel => exact ⟨j + 1, by omega, rfl, by go_num, by rw [HCL.out]; exact HST5.out⟩
            · obtain ⟨m, rfl⟩ : ∃ m, which = m + 1 := ⟨which - 1, by omega⟩
              have hw8 : m < 40 := by omega
              have hEQ : clearF (clearAll lb (F.take j)) ⟨what, m + 1⟩ = splice (clearAll lb (F.take j)) (5 * m) (List.replicate 5 0) := by simp [clearF, fltO, fltN, h4, h5]
              rw [hEQ] at HCL
              have b4 : ((what : Int) == 4) = false := by simp; omega
              have b5 : ((what : Int) == 5) = false := by simp; omega
              have hm1 : ((m + 1 : Nat) : Int) = (m : Int) + 1 := by omega
              rw [hm1] at c1 hst4
              clear hrg hin hEQ h4 h5 hm1
              go_wp2_with fail
              refine (raw_any (some ⟨g, 0, none⟩) n cap ((m : Int) + 1) _ (by omega) (by omega) (by omega) hlc1).mono ?_
              rintro e w4 ⟨rfl, rfl⟩
              rw [entO_k]
              simp only [Option.map_some, Addr.add_lit, Nat.zero_add]
              obtain ⟨w5, hclear, hst5⟩ := hst4.clear (5 * m) 5 (by omega) (by rw [HLJ.out]; omega)
              have HST5 := Hidden.mk hst5
              clear hst5 hst4
              go_wp2_with (simp only [hclear])
              go_roundg (F.length - (j + 1))
              case measure => omega
              case rel => exact ⟨j + 1, by omega, rfl, by go_num, by rw [HCL.out]; exact HST5.out⟩
        · obtain rfl : j = F.length := by omega
          rw [List.take_of_length_le (Nat.le_refl _)] at hst3
          have hfin : clearAll lb F = mendL lb := by rw [HM.out, HFF.out]
          rw [hfin] at hst3
          have HST := Hidden.mk hst3
          clear hst3 hfin
          go_wp2_with fail
          go_roundg 1
          case measure => omega
          case rel => exact ⟨_, HST.out.bel, HST.out.row, ⟨.inr ⟨rfl, rfl⟩⟩⟩
end Go.Proofs.Ytmahnlkbbpbeoaa
