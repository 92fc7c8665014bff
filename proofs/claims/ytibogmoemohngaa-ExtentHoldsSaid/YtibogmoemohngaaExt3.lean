/- The contracts of extent.Frees and Fit. -/
import Derived.Test.YtibogmoemohngaaExt2
import Derived.Test.YtibogmoemohngaaKeep
namespace Go.Proofs.Ytibogmoemohngaa
open Go.RowKit

theorem chkX_ok {n : Int} {l : List Ext} (h : chkX n l = 0) : 0 ≤ n ∧ n ≤ 6400 ∧ l.length ≤ 200 ∧ OkX l ∧ (∀ j (hj : j < l.length), badX n l[j] = false ∧ (l.take j).any (hitX l[j]) = false) := by
  unfold chkX at h
  split at h
  · cases h
  · rename_i h1
    split at h
    · cases h
    · rename_i h2
      have h3 : ∀ j (hj : j < l.length), badX n l[j] = false ∧ (l.take j).any (hitX l[j]) = false := fun j hj => by
        have := faultX_zero (loopX_zero n l l.length h j hj)
        simpa [hj] using this
      refine ⟨by omega, by omega, by omega, fun x hx => ?_, h3⟩
      obtain ⟨j, hj, rfl⟩ := List.getElem_of_mem hx
      have := badX_false (h3 j hj).1
      omega
theorem holesGo_len : ∀ (a : Int) (S : List Ext), (holesGo a S).length ≤ S.length
  | _, [] => Nat.le_refl _
  | a, e :: r => by
    have := holesGo_len (e.1 + e.2) r
    rw [holesGo, List.length_append, List.length_cons]
    split <;> simp <;> omega
theorem holesX_len (n : Int) (l : List Ext) : (holesX n l).length ≤ l.length + 1 := by
  unfold holesX
  have := holesGo_len 0 (sortE l ++ [(n, 0)])
  rw [List.length_append, (sortE_perm l).length_eq] at this
  exact this
def freesL (n : Int) (l : List Ext) : List Ext := if chkX n l = 0 then holesX n l else []
set_option maxRecDepth 100000 in
theorem xfrees_any (n : Int) (A : Option Addr) (m c : Nat) (l : List Ext) (w : World) (hl : l.length = m) (hmc : m ≤ c) (hr : RdX tcells 2 w A l) :
    Calls Try.prog 13 #[.int .i64 n, .slice A m c] w fun e w' => ∃ v, e = .returned (.tuple #[v, errV (chkX n l)]) ∧ w'.ownsRow w.heap.size 38 2 v (freesL n l).length ((freesL n l).flatMap tcells) ∧ Below w.heap.size w w' := by
  have HC := Hidden.mk (xcheck_any n A m c l w hl hmc hr)
  have HF : Hidden (freesL n l = if chkX n l = 0 then holesX n l else []) := ⟨rfl⟩
  by_cases h0 : chkX n l = 0
  · obtain ⟨o0, o1, o2, o3, -⟩ := chkX_ok h0
    have HH : Hidden (∀ W, Below w.heap.size w W → Calls Try.prog 41 #[.int .i64 n, .slice A m c] W fun e w' => ∃ v, e = .returned v ∧ w'.ownsRow W.heap.size 38 2 v (holesX n l).length ((holesX n l).flatMap tcells) ∧ Below W.heap.size W w') := ⟨fun W hW => xholes_any n A m c l W o0 o1 hl (by omega) (hr.below hW) o3⟩
    rw [h0] at HC HF
    rw [show errV 0 = Value.nilIface from rfl] at HC
    rw [h0, HF.out]
    simp only [if_true]
    generalize holesX n l = X at *
    clear HF h0 hr hl o3
    go_enter Try.func13, Try.ntmps13
    go_wp2_with fail
    refine HC.out.mono ?_
    rintro e w1 ⟨rfl, hb1⟩
    have HB1 := Hidden.mk hb1
    clear hb1
    go_wp2_with fail
    refine (HH.out _ HB1.out).mono ?_
    rintro e w2 ⟨v, rfl, hown, hb2⟩
    have HR := Hidden.mk (And.intro hown (HB1.out.trans (hb2.mono HB1.out.size)))
    clear hown hb2
    go_wp2_with fail
    go_ret2
    exact ⟨v, rfl, ⟨HR.out.1.1, by
      rcases HR.out.1.2 with h | ⟨g, cap, cur, he, hb, rest⟩
      · exact .inl h
      · exact .inr ⟨g, cap, cur, he, Nat.le_trans HB1.out.size hb, rest⟩⟩, HR.out.2⟩
  · have hF : freesL n l = [] := by rw [HF.out, if_neg h0]
    rw [hF]
    have hev : errV (chkX n l) = .iface 78 (.int .i64 (chkX n l)) := by unfold errV; rw [if_neg h0]
    rw [hev] at HC ⊢
    generalize chkX n l = q at *
    clear h0 hev hF HF hr hl
    go_enter Try.func13, Try.ntmps13
    go_wp2_with fail
    refine HC.out.mono ?_
    rintro e w1 ⟨rfl, hb1⟩
    have HB1 := Hidden.mk hb1
    clear hb1
    go_wp2_with fail
    go_ret2
    exact ⟨_, rfl, World.ownsRow_nil _ _ _ _, HB1.out⟩
/-- the run that fits best -/
def bestX (size : Int) (H : List Ext) : Ext := H.foldl (fun b h => if size ≤ h.2 ∧ (b.2 = 0 ∨ h.2 < b.2) then h else b) (0, 0)
def fitE (n : Int) (l : List Ext) (size : Int) : Nat := if chkX n l = 0 then (if size < 1 ∨ 6400 < size then 1 else if (bestX size (holesX n l)).2 = 0 then 4 else 0) else chkX n l
def fitA (n : Int) (l : List Ext) (size : Int) : Int := if fitE n l size = 0 then (bestX size (holesX n l)).1 else 0
theorem bestX_succ (size : Int) (H : List Ext) (k : Nat) (hk : k < H.length) : bestX size (H.take (k + 1)) = if size ≤ H[k].2 ∧ ((bestX size (H.take k)).2 = 0 ∨ H[k].2 < (bestX size (H.take k)).2) then H[k] else bestX size (H.take k) := by
  unfold bestX
  rw [List.take_succ_eq_append_getElem hk, List.foldl_append]; rfl
theorem own_base {w : World} {b b' : Nat} {e : TypeId} {size n : Nat} {v : Value} {xs : List Value} (h : w.ownsRow b e size v n xs) (hb : b' ≤ b) : w.ownsRow b' e size v n xs := by
  refine ⟨h.1, ?_⟩
  rcases h.2 with h2 | ⟨g, cap, cur, he, hb2, rest⟩
  · exact .inl h2
  · exact .inr ⟨g, cap, cur, he, Nat.le_trans hb hb2, rest⟩
set_option maxRecDepth 100000 in
theorem xfit_any (n : Int) (A : Option Addr) (m c : Nat) (l : List Ext) (size : Int) (w : World) (hl : l.length = m) (hmc : m ≤ c) (hr : RdX tcells 2 w A l) :
    Calls Try.prog 12 #[.int .i64 n, .slice A m c, .int .i64 size] w fun e w' => e = .returned (.tuple #[.int .i64 (fitA n l size), errV (fitE n l size)]) ∧ Below w.heap.size w w' := by
  have HC := Hidden.mk (xcheck_any n A m c l w hl hmc hr)
  have HE : Hidden (fitE n l size = if chkX n l = 0 then (if size < 1 ∨ 6400 < size then 1 else if (bestX size (holesX n l)).2 = 0 then 4 else 0) else chkX n l) := ⟨rfl⟩
  have HA : Hidden (fitA n l size = if fitE n l size = 0 then (bestX size (holesX n l)).1 else 0) := ⟨rfl⟩
  generalize fitE n l size = fe at *
  generalize fitA n l size = fa at *
  by_cases h0 : chkX n l = 0
  · obtain ⟨o0, o1, o2, o3, -⟩ := chkX_ok h0
    have HH : Hidden (∀ W, Below w.heap.size w W → Calls Try.prog 41 #[.int .i64 n, .slice A m c] W fun e w' => ∃ v, e = .returned v ∧ w'.ownsRow W.heap.size 38 2 v (holesX n l).length ((holesX n l).flatMap tcells) ∧ Below W.heap.size W w') := ⟨fun W hW => xholes_any n A m c l W o0 o1 hl (by omega) (hr.below hW) o3⟩
    rw [h0] at HC
    rw [show errV 0 = Value.nilIface from rfl] at HC
    have hE := HE.out
    rw [if_pos h0] at hE
    have HE := Hidden.mk hE
    clear hE h0 hr hl o3
    by_cases h1 : size < 1
    · have hfe : fe = 1 := by rw [HE.out, if_pos (.inl h1)]
      have hfa : fa = 0 := by rw [HA.out, hfe]; rfl
      subst hfe hfa
      have d1 : decide (size < 1) = true := by simpa using h1
      clear HE HA HH
      go_enter Try.func12, Try.ntmps12
      go_wp2_with fail
      refine HC.out.mono ?_
      rintro e w1 ⟨rfl, hb1⟩
      have HB1 := Hidden.mk hb1
      clear hb1
      go_wp2_with fail
      go_ret2
      exact ⟨rfl, HB1.out⟩
    have d1 : decide (size < 1) = false := by simpa using h1
    by_cases h2 : 6400 < size
    · have hfe : fe = 1 := by rw [HE.out, if_pos (.inr h2)]
      have hfa : fa = 0 := by rw [HA.out, hfe]; rfl
      subst hfe hfa
      have d2 : decide (6400 < size) = true := by simpa using h2
      clear HE HA HH
      go_enter Try.func12, Try.ntmps12
      go_wp2_with fail
      refine HC.out.mono ?_
      rintro e w1 ⟨rfl, hb1⟩
      have HB1 := Hidden.mk hb1
      clear hb1
      go_wp2_with fail
      go_ret2
      exact ⟨rfl, HB1.out⟩
    have d2 : decide (6400 < size) = false := by simpa using h2
    have hE := HE.out
    rw [if_neg (by omega)] at hE
    have HE := Hidden.mk hE
    clear hE
    have hHl := holesX_len n l
    generalize holesX n l = H at *
    go_enter Try.func12, Try.ntmps12
    go_wp2_with fail
    refine HC.out.mono ?_
    rintro e w1 ⟨rfl, hb1⟩
    have hal : Below w1.heap.size w1 (w1.alloc (.cells #[.int .i64 0, .int .i64 0] 38)) := (Below.refl _ _).alloc (Nat.le_refl _) _
    have HB2 : Hidden (Below w.heap.size w (w1.alloc (.cells #[.int .i64 0, .int .i64 0] 38))) := ⟨hb1.trans (hal.mono hb1.size)⟩
    have HBK : Hidden ((w1.alloc (.cells #[.int .i64 0, .int .i64 0] 38)).heap[w1.heap.size]? = some (.cells #[.int .i64 0, .int .i64 0] 38 (0, 0))) := ⟨heap_alloc_new w1 _⟩
    have HB1 := Hidden.mk hb1.size
    clear hb1 hal
    go_wp2_with fail
    generalize w1.alloc (.cells #[.int .i64 0, .int .i64 0] 38) = w2 at *
    generalize w1.heap.size = bb at *
    refine (HH.out _ HB2.out).mono ?_
    rintro e w3 ⟨v, rfl, hown, hb3⟩
    have hbb : bb < w2.heap.size := (Array.getElem?_eq_some_iff.1 HBK.out).1
    have H3 : Hidden (Below w.heap.size w w3 ∧ w3.heap[bb]? = some (.cells #[.int .i64 0, .int .i64 0] 38 (0, 0)) ∧ w3.ownsRow w2.heap.size 38 2 v H.length (H.flatMap tcells)) := ⟨HB2.out.trans (hb3.mono HB2.out.size), (hb3.block _ hbb).trans HBK.out, hown⟩
    obtain ⟨A3, c3, rfl, hc3, -⟩ := own_split hown
    clear hown hb3 HBK HB2 HH
    generalize hhl : H.length = hl at *
    have HHL := Hidden.mk hhl
    clear hhl
    go_wp2_with fail
    go_loopg [30] hl (fun q i wr => ∃ (k : Nat) (b1 b2 : Int), k ≤ hl ∧ q = hl - k ∧ i = .int .i64 (k : Int) ∧ Hidden (bestX size (H.take k) = (b1, b2) ∧ Below w.heap.size w wr ∧ wr.heap[bb]? = some (.cells #[.int .i64 b1, .int .i64 b2] 38 (0, 0)) ∧ wr.ownsRow w2.heap.size 38 2 (.slice A3 hl c3) hl (H.flatMap tcells)))
    case atStart => exact ⟨0, 0, 0, by omega, rfl, rfl, ⟨rfl, H3.out.1, H3.out.2.1, H3.out.2.2⟩⟩
    case round =>
      obtain ⟨k, b1, b2, hk, rfl, rfl, hst⟩ := hrel
      by_cases hlt : k < hl
      · have hkH : k < H.length := by have := HHL.out; omega
        obtain ⟨g, off, rfl, hgb, hgl, hcx⟩ := own_at tcells_len hst.out.2.2.2 k hkH (by omega)
        have c0 := hcx 0 _ rfl
        have c1 := hcx 1 _ rfl
        simp only [Nat.add_zero] at c0
        have HS := Hidden.mk (bestX_succ size H k hkH)
        rw [hst.out.1] at HS
        generalize H[k] = e at *
        obtain ⟨e1, e2⟩ := e
        dsimp only at c0 c1 HS
        have hal : Below wr.heap.size wr (wr.alloc (.cells #[.int .i64 e1, .int .i64 e2] 38)) := (Below.refl _ _).alloc (Nat.le_refl _) _
        have HBK : Hidden ((wr.alloc (.cells #[.int .i64 e1, .int .i64 e2] 38)).heap[bb]? = some (.cells #[.int .i64 b1, .int .i64 b2] 38 (0, 0))) := ⟨(hal.block _ (Array.getElem?_eq_some_iff.1 hst.out.2.2.1).1).trans hst.out.2.2.1⟩
        have HN : Hidden (Below w.heap.size w (wr.alloc (.cells #[.int .i64 e1, .int .i64 e2] 38)) ∧ (wr.alloc (.cells #[.int .i64 e1, .int .i64 e2] 38)).ownsRow w2.heap.size 38 2 (.slice (some ⟨g, off, none⟩) hl c3) hl (H.flatMap tcells)) := ⟨hst.out.2.1.trans (hal.mono hst.out.2.1.size), own_below hst.out.2.2.2 hal⟩
        have hwb : w.heap.size ≤ bb := HB1.out
        have y0 : (wr.alloc (.cells #[.int .i64 e1, .int .i64 e2] 38)).cell? ⟨bb, 0, none⟩ = some (.int .i64 b1) := by simp [World.cell?, HBK.out]
        have y1 : (wr.alloc (.cells #[.int .i64 e1, .int .i64 e2] 38)).cell? ⟨bb, 1, none⟩ = some (.int .i64 b2) := by simp [World.cell?, HBK.out]
        have hfz : ∀ q, (wr.alloc (.cells #[.int .i64 e1, .int .i64 e2] 38)).frozen? ⟨bb, q, none⟩ = false := fun q => frozen_of_row _ bb q _ _ HBK.out
        have hne : wr.heap.size ≠ bb := by have := (Array.getElem?_eq_some_iff.1 hst.out.2.2.1).1; omega
        have s3 : IntKind.i64.wrap ((k : Int) + 1) = (k : Int) + 1 := IntWalk.i64_in _ (by omega)
        have k1 : (k : Int) < hl := by omega
        clear hcx hal
        by_cases q1 : size ≤ e2
        · have t1 : decide (size ≤ e2) = true := by simpa using q1
          by_cases q2 : b2 = 0 ∨ e2 < b2
          · have HS2 : Hidden (bestX size (H.take (k + 1)) = (e1, e2)) := ⟨by rw [HS.out, if_pos ⟨q1, q2⟩]⟩
            have HBK2 := Hidden.mk (heap_setK (k := 1) (heap_setK (k := 0) HBK.out (.int .i64 e1)) (.int .i64 e2))
            have HN2 : Hidden (Below w.heap.size w (((wr.alloc (.cells #[.int .i64 e1, .int .i64 e2] 38)).setCell ⟨bb, 0, none⟩ (.int .i64 e1)).setCell ⟨bb, 1, none⟩ (.int .i64 e2)) ∧ (((wr.alloc (.cells #[.int .i64 e1, .int .i64 e2] 38)).setCell ⟨bb, 0, none⟩ (.int .i64 e1)).setCell ⟨bb, 1, none⟩ (.int .i64 e2)).ownsRow w2.heap.size 38 2 (.slice (some ⟨g, off, none⟩) hl c3) hl (H.flatMap tcells)) :=
              ⟨(HN.out.1.setCell (p := ⟨bb, 0, none⟩) hwb _).setCell (p := ⟨bb, 1, none⟩) hwb _, ownsRow_block HN.out.2 fun q hq => (Below.heap_setCell _ _ _ _ (fun e => by have := (HN.out.2.lt q hq).1; simp at e; omega)).trans (Below.heap_setCell _ _ _ _ (fun e => by have := (HN.out.2.lt q hq).1; simp at e; omega))⟩
            by_cases q3 : b2 = 0
            · subst q3
              clear HS hst
              go_wp2_with fail
              go_roundg (hl - (k + 1))
              case measure => omega
              case rel => exact ⟨k + 1, e1, e2, by omega, rfl, by go_num, ⟨HS2.out, HN2.out.1, HBK2.out, HN2.out.2⟩⟩
            · have t3 : (b2 == 0) = false := by simpa using q3
              have t4 : decide (e2 < b2) = true := by simp; omega
              clear HS hst
              go_wp2_with fail
              go_roundg (hl - (k + 1))
              case measure => omega
              case rel => exact ⟨k + 1, e1, e2, by omega, rfl, by go_num, ⟨HS2.out, HN2.out.1, HBK2.out, HN2.out.2⟩⟩
          · have HS2 : Hidden (bestX size (H.take (k + 1)) = (b1, b2)) := ⟨by rw [HS.out, if_neg (fun h => q2 h.2)]⟩
            have t3 : (b2 == 0) = false := by simp; omega
            have t4 : decide (e2 < b2) = false := by simp; omega
            clear HS hst
            go_wp2_with fail
            go_roundg (hl - (k + 1))
            case measure => omega
            case rel => exact ⟨k + 1, b1, b2, by omega, rfl, by go_num, ⟨HS2.out, HN.out.1, HBK.out, HN.out.2⟩⟩
        · have t1 : decide (size ≤ e2) = false := by simpa using q1
          have HS2 : Hidden (bestX size (H.take (k + 1)) = (b1, b2)) := ⟨by rw [HS.out, if_neg (fun h => q1 h.1)]⟩
          clear HS hst
          go_wp2_with fail
          go_roundg (hl - (k + 1))
          case measure => omega
          case rel => exact ⟨k + 1, b1, b2, by omega, rfl, by go_num, ⟨HS2.out, HN.out.1, HBK.out, HN.out.2⟩⟩
      · obtain rfl : k = hl := by omega
        have hbe := hst.out.1
        rw [List.take_of_length_le (by have := HHL.out; omega)] at hbe
        have hE := HE.out
        rw [hbe] at hE HA
        dsimp only at hE HA
        have hbk := hst.out.2.2.1
        have y0 : wr.cell? ⟨bb, 0, none⟩ = some (.int .i64 b1) := by simp [World.cell?, hbk]
        have y1 : wr.cell? ⟨bb, 1, none⟩ = some (.int .i64 b2) := by simp [World.cell?, hbk]
        clear hbe hbk
        by_cases hz : b2 = 0
        · have hfe : fe = 4 := by rw [hE, if_pos hz]
          have hfa : fa = 0 := by rw [HA.out, hfe]; rfl
          subst hfe hfa hz
          clear hE HE HA
          go_wp2_with fail
          go_ret2
          exact ⟨rfl, hst.out.2.1⟩
        · have hfe : fe = 0 := by rw [hE, if_neg hz]
          have hfa : fa = b1 := by rw [HA.out, hfe]; rfl
          have t1 : (b2 == 0) = false := by simpa using hz
          subst hfe hfa
          clear hE HE HA
          go_wp2_with fail
          go_ret2
          exact ⟨rfl, hst.out.2.1⟩
  · have hfe : fe = chkX n l := by rw [HE.out, if_neg h0]
    have hfa : fa = 0 := by rw [HA.out, if_neg (by rw [hfe]; exact h0)]
    have hev : errV (chkX n l) = .iface 78 (.int .i64 (chkX n l)) := by unfold errV; rw [if_neg h0]
    rw [hfe, hfa, hev]
    rw [hev] at HC
    generalize chkX n l = q at *
    clear h0 hev HE HA hr hl hfe hfa
    go_enter Try.func12, Try.ntmps12
    go_wp2_with fail
    refine HC.out.mono ?_
    rintro e w1 ⟨rfl, hb1⟩
    have HB1 := Hidden.mk hb1
    clear hb1
    go_wp2_with fail
    go_ret2
    exact ⟨rfl, HB1.out⟩
end Go.Proofs.Ytibogmoemohngaa
