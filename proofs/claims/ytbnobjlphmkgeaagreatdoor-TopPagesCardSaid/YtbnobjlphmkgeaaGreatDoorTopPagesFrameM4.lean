/- Contracts and plain laws, put together: Ext2, Ext3, Heap2, Heap3, Heap4, Heap5, RefC3, RefI5, Root1, Ext4, ExtP, Heap6, Heap7, HeapP, KeepP, Root2, Root3, Open3, ImageBack0, RootLP, RootL1. -/
import Derived.Test.YtbnobjlphmkgeaaGreatDoorTopPagesFrameM3
import Derived.Shelf.SlSortCmp.NoneTotal
import Derived.Test.YtbnobjlphmkgeaaGreatDoorTopPagesFrameM1
import Derived.StillTailTactics
import Derived.Deep.RegionHeld3
import Derived.Deep.Grids
import Derived.Deep.DeepCutAuto
import Derived.Deep.CutBlock
/- The contract of extent.Holes. -/
namespace Go.Proofs.YtbnobjlphmkgeaaGreatDoor
open Go.RowKit Go.Sort Go.Shelf Go.Lib

def cmpX (x y : Ext) : Int := Lib.compareInt x.1 y.1
theorem ltX (x y : Ext) : ltOf cmpX x y = decide (x.1 < y.1) := by
  unfold ltOf cmpX Lib.compareInt
  by_cases h1 : x.1 < y.1
  · simp [h1]
  · by_cases h2 : y.1 < x.1 <;> simp [h1, h2]
theorem swoX : SWO (ltOf cmpX) where
  irrefl x := by rw [ltX]; simp
  trans x y z h1 h2 := by rw [ltX] at *; simp at *; omega
  ntrans x y z h1 h2 := by rw [ltX] at *; simp at *; omega
/-- extents by where they begin -/
def sortE (l : List Ext) : List Ext := pdqL cmpX l
theorem sortE_perm (l : List Ext) : (sortE l).Perm l := (pdqL_perm cmpX swoX l).1
theorem sortE_sorted (l : List Ext) : (sortE l).Pairwise (fun a b => a.1 ≤ b.1) := (pdqL_perm cmpX swoX l).2.imp fun {a b} h => by
  rw [ltX] at h; simp at h; omega
/-- runs between -/
def holesGo : Int → List Ext → List Ext
  | _, [] => []
  | at_, e :: r => (if at_ < e.1 then [(at_, e.1 - at_)] else []) ++ holesGo (e.1 + e.2) r
def holesX (n : Int) (l : List Ext) : List Ext := holesGo 0 (sortE l ++ [(n, 0)])

theorem compare_any (x y : Int) (w : World) : Calls Tryz.prog 90 #[.int .i64 x, .int .i64 y] w fun e w' => e = .returned (.int .i64 (Lib.compareInt x y)) ∧ w = w' := by
  have hn : ∀ z : Int, ∀ W, Calls Tryz.prog 157 #[.int .i64 z] W fun e w' => e = .returned (.bool false) ∧ W = w' := fun z W => by
    go_enter Tryz.func157, Tryz.ntmps157
    go_wp2
    go_ret
    exact ⟨by simp, rfl⟩
  have HN := Hidden.mk hn
  have HC : Hidden (Lib.compareInt x y = if x < y then -1 else if y < x then 1 else 0) := ⟨by unfold Lib.compareInt; rfl⟩
  clear hn
  by_cases h1 : x < y
  · have d1 : decide (x < y) = true := by simpa using h1
    have HV : Hidden (Lib.compareInt x y = -1) := ⟨by rw [HC.out, if_pos h1]⟩
    go_enter Tryz.func90, Tryz.ntmps90
    go_wp2_with (first | (go_at_call 157; refine (HN.out _ _).mono ?_; rintro e w' ⟨rfl, rfl⟩))
    go_ret
    exact ⟨ret_i64 HV.out.symm, rfl⟩
  have d1 : decide (x < y) = false := by simpa using h1
  by_cases h2 : y < x
  · have d2 : decide (y < x) = true := by simpa using h2
    have HV : Hidden (Lib.compareInt x y = 1) := ⟨by rw [HC.out, if_neg h1, if_pos h2]⟩
    go_enter Tryz.func90, Tryz.ntmps90
    go_wp2_with (first | (go_at_call 157; refine (HN.out _ _).mono ?_; rintro e w' ⟨rfl, rfl⟩))
    go_ret
    exact ⟨ret_i64 HV.out.symm, rfl⟩
  have d2 : decide (y < x) = false := by simpa using h2
  have HV : Hidden (Lib.compareInt x y = 0) := ⟨by rw [HC.out, if_neg h1, if_neg h2]⟩
  go_enter Tryz.func90, Tryz.ntmps90
  go_wp2_with (first | (go_at_call 157; refine (HN.out _ _).mono ?_; rintro e w' ⟨rfl, rfl⟩))
  go_ret
  exact ⟨ret_i64 HV.out.symm, rfl⟩
/-- the closure of Holes -/
theorem closeX (x y : Ext) (W : World) : Calls Tryz.prog 190 #[.agg #[.int .i64 x.1, .int .i64 x.2], .agg #[.int .i64 y.1, .int .i64 y.2]] W fun e w' => e = .returned (.int .i64 (cmpX x y)) ∧ ∃ q os', w' = grow (W.drewN q) os' := by
  have hcon := fun W' => compare_any x.1 y.1 W'
  have HC := Hidden.mk hcon
  have HX : Hidden (cmpX x y = Lib.compareInt x.1 y.1) := ⟨rfl⟩
  clear hcon
  rw [HX.out]
  generalize Lib.compareInt x.1 y.1 = r at *
  go_enter Tryz.func190, Tryz.ntmps190
  go_wp2_with (go_at_call 90; refine (HC.out _).mono ?_; rintro e w' ⟨rfl, rfl⟩)
  go_ret
  exact ⟨rfl, 0, _, by rw [alloc_eq_grow, alloc_eq_grow, grow_grow]; rfl⟩
theorem sortX_any (w : World) (base n : Nat) (v : Value) (L : List Ext) (hn : L.length = n) (hl : n ≤ 1000) (hown : w.ownsRow base 64 2 v n (L.flatMap tcells)) :
    Calls Tryz.prog 189 #[v, .func (.func 190) #[] #[]] w fun e w' => e = .returned (.tuple #[]) ∧ w'.ownsRow base 64 2 v n ((sortE L).flatMap tcells) ∧ w.grownBy w' v.ownBlock := by
  rcases hown.2 with ⟨rfl, h0⟩ | ⟨g, cap, cur, rfl, hb, hh, _⟩
  · have hL : L = [] := List.eq_nil_of_length_eq_zero (by omega)
    subst hL h0
    have hs : sortE [] = [] := List.Perm.eq_nil (sortE_perm [])
    have hc := AnyF.slices_SortFunc_none layX none 0 (.func (.func 190) #[] #[]) w
    change Calls Tryz.prog 189 _ _ _ at hc
    refine hc.mono ?_
    rintro e w' ⟨rfl, rfl⟩
    exact ⟨rfl, by rw [hs]; exact hown, World.grownBy.refl _ _⟩
  · have eg : ∀ args w, (callFunc 190 args).run Tryz.prog w = .ok (.enter 190 args) w := enters_of Tryz.func190 (by kernel_rfl) rfl
    have hcon := AnyQ.slices_SortFunc_eq layX 2 Tryz.isAgg64 Tryz.sizeOf64 tcells tcells_len (fun x v hv => by simp [tcells] at hv; rcases hv with rfl | rfl <;> rfl) cmpX swoX 190 #[] g 0 cap L.toArray w eg
      (fun _ _ _ _ x y => closeX x y _) (holdsK_own tcells_len (by omega) hown) (Array.getElem?_eq_some_iff.1 hh).1 (by simp; omega)
    change Calls Tryz.prog 189 _ _ _ at hcon
    have hsz : L.toArray.size = n := by simpa using hn
    rw [hsz] at hcon
    refine hcon.mono ?_
    rintro e w' ⟨rfl, m, os, rfl⟩
    have hds : (pdq (ltOf cmpX) L.toArray 0 n (Lib.bitLen n) true true).size = n := by
      have := (sortE_perm L).length_eq
      unfold sortE pdqL at this
      rw [Array.length_toList, hn] at this
      exact this
    have h2 := own_sortedK (m := m) (os := os) tcells_len (by omega) hds hown
    refine ⟨rfl, ?_, h2.2⟩
    have he : sortE L = (pdq (ltOf cmpX) L.toArray 0 n (Lib.bitLen n) true true).toList := by unfold sortE pdqL; rw [hn]
    rw [he]
    exact h2.1
theorem Src.of_rdX {X : Type} {cells : X → List Value} {C : Nat} (hC : ∀ x, (cells x).length = C) (h0 : 0 < C) {w : World} {A : Option Addr} {n : Nat} {L : List X} (hn : L.length = n) (h : RdX cells C w A L) : Src w C A n (L.flatMap cells) := by
  have hlen : (L.flatMap cells).length = n * C := by
    rw [List.length_flatMap]
    have : L.map (fun x => (cells x).length) = List.replicate n C := by
      rw [List.eq_replicate_iff]
      exact ⟨by simpa using hn, fun b hb => by obtain ⟨x, _, rfl⟩ := List.mem_map.1 hb; exact hC x⟩
    rw [this]; simp
  refine ⟨hlen, fun j u hu => ?_⟩
  have hj : j < n * C := by rw [← hlen]; exact (List.getElem?_eq_some_iff.1 hu).1
  have h1 : j / C < L.length := by rw [hn, Nat.div_lt_iff_lt_mul h0]; exact hj
  obtain ⟨b, off, rfl, hc⟩ := h (j / C) h1
  have h2 := flat_at cells C hC L (j / C) h1 (j % C) (Nat.mod_lt _ h0)
  rw [Nat.div_add_mod' j C] at h2
  refine ⟨_, rfl, ?_⟩
  rw [Addr.add_lit]
  have := hc (j % C) u (h2.symm.trans hu)
  rwa [Nat.add_assoc, Nat.div_add_mod' j C] at this
theorem extent_info : (Tryz.prog.info? 64).map (fun i => (i.zero, i.size, i.bytes)) = some (some (.agg #[.int .i64 0, .int .i64 0]), 2, 16) := by kernel_rfl
theorem tcells_one (L : List Ext) : ∀ u ∈ L.flatMap tcells, u.oneCell' = true := by
  intro u hu
  obtain ⟨x, _, h⟩ := List.mem_flatMap.1 hu
  simp only [tcells, List.mem_cons, List.not_mem_nil, or_false] at h
  rcases h with rfl | rfl <;> rfl
theorem cloneX_any (A : Option Addr) (n c : Nat) (L : List Ext) (w : World) (hn : L.length = n) (hl : n ≤ 1000) (hr : RdX tcells 2 w A L) :
    Calls Tryz.prog 188 #[.slice A n c] w fun e w' => ∃ v, e = .returned v ∧ w'.ownsRow w.heap.size 64 2 v n (L.flatMap tcells) ∧ Below w.heap.size w w' := by
  have he := fun W => Lib.run_eql_slice_nil (P := Tryz.prog) W 114 64 A n c 0 0 Tryz.underlying114
  have hsrc := Src.of_rdX tcells_len (by omega) hn hr
  rcases A with _ | ad
  · have hL : L = [] := by
      cases L with
      | nil => rfl
      | cons x r => obtain ⟨b, off, h, _⟩ := hr 0 (by simp); cases h
    subst hL
    have h0 : n = 0 := by simpa using hn.symm
    subst h0
    clear hr hsrc hn
    go_enter Tryz.func188, Tryz.ntmps188
    go_wp2_with fail
    go_ret
    exact ⟨_, rfl, World.ownsRow_nil _ _ _ _, Below.refl _ _⟩
  · obtain ⟨i0, hi0, hz0, hz1, hz2⟩ := info_parts extent_info
    have hown := World.ownsRow_lit (base := w.heap.size) (e := 64) (size := 2) w #[] 0 (Nat.le_refl _) (by simp) rfl
    have HSRC := Hidden.mk (hsrc.below ((Below.refl _ _).alloc (Nat.le_refl _) (.cells #[] 64)))
    have HOW := Hidden.mk hown
    clear hsrc hown hn hr
    go_enter Tryz.func188, Tryz.ntmps188
    go_wp2_with (at_builtin; refine wpList_append_src _ rfl (.tmp 5) (.tmp 6) _ rfl w.heap.size 64 i0 _ 2 16 Tryz.underlying114 hi0 hz0 hz1 hz2 rfl (by decide) (.slice (some ⟨w.heap.size, 0, none⟩) 0 0) 0 [] rfl HOW.out (some ad) n c (L.flatMap tcells) rfl HSRC.out (tcells_one L) (by simp only [maxLen]; omega) (by omega) (by simp) ?_; intro v1 w1 hown1 hg1 hnn)
    have hB : Below w.heap.size w w1 := ((Below.refl _ _).alloc (Nat.le_refl _) _).grown hg1 (by simp) (fun k hk => by simp [Value.ownBlock] at hk; omega)
    have HO := Hidden.mk (And.intro hown1 hB)
    clear hown1 hB hg1 hnn
    go_ret
    exact ⟨v1, rfl, by simpa using HO.out.1, HO.out.2⟩
/-- what is right for Holes -/
def OkX (l : List Ext) : Prop := ∀ x ∈ l, 0 ≤ x.1 ∧ 0 ≤ x.2 ∧ x.1 + x.2 ≤ 6400
set_option maxRecDepth 100000 in
theorem xholes_any (n : Int) (A : Option Addr) (m c : Nat) (l : List Ext) (w : World) (hn0 : 0 ≤ n) (hn1 : n ≤ 6400) (hl : l.length = m) (hm : m ≤ 200) (hr : RdX tcells 2 w A l) (hok : OkX l) :
    Calls Tryz.prog 147 #[.int .i64 n, .slice A m c] w fun e w' => ∃ v, e = .returned v ∧ w'.ownsRow w.heap.size 64 2 v (holesX n l).length ((holesX n l).flatMap tcells) ∧ Below w.heap.size w w' := by
  obtain ⟨i0, hi0, hz0, hz1, hz2⟩ := info_parts extent_info
  have HI := Hidden.mk (And.intro hi0 (And.intro hz0 (And.intro hz1 hz2)))
  have HC := Hidden.mk (cloneX_any A m c l w hl (by omega) hr)
  have HS : Hidden ((sortE l).length = m) := ⟨by rw [(sortE_perm l).length_eq]; exact hl⟩
  have HOK : Hidden (OkX (sortE l ++ [(n, 0)])) := ⟨fun x hx => by
    rcases List.mem_append.1 hx with h | h
    · exact hok x ((sortE_perm l).mem_iff.1 h)
    · rw [List.mem_singleton.1 h]; dsimp only; omega⟩
  have HH : Hidden (holesX n l = holesGo 0 (sortE l ++ [(n, 0)])) := ⟨rfl⟩
  have HSORT : Hidden (∀ W v, W.ownsRow w.heap.size 64 2 v m (l.flatMap tcells) → Calls Tryz.prog 189 #[v, .func (.func 190) #[] #[]] W fun e w' => e = .returned (.tuple #[]) ∧ w'.ownsRow w.heap.size 64 2 v m ((sortE l).flatMap tcells) ∧ W.grownBy w' v.ownBlock) := ⟨fun W v h => sortX_any W _ m v l hl (by omega) h⟩
  rw [HH.out]
  generalize sortE l = S at *
  obtain ⟨X, hX⟩ : ∃ X, X = holesGo 0 (S ++ [(n, 0)]) := ⟨_, rfl⟩
  rw [← hX]
  have HX := Hidden.mk hX
  clear hX HH
  clear hi0 hz0 hz1 hz2 hr hok hl
  go_enter Tryz.func147, Tryz.ntmps147
  go_wp2_with fail
  refine HC.out.mono ?_
  rintro e w1 ⟨v1, rfl, hown1, hb1⟩
  have HO1 := Hidden.mk (And.intro hown1 hb1)
  clear hown1 hb1 HC
  go_wp2_with fail
  refine (HSORT.out _ _ HO1.out.1).mono ?_
  rintro e w2 ⟨rfl, hown2, hg2⟩
  have hb2 : Below w.heap.size w w2 := HO1.out.2.grown hg2 HO1.out.2.size (fun q hq => (HO1.out.1.lt q hq).1)
  have HO2 := Hidden.mk (And.intro hown2 hb2)
  clear hown2 hb2 hg2 HO1 HSORT
  obtain ⟨hi0, hz0, hz1, hz2⟩ := HI.out
  go_wp2_with (at_builtin; refine wpList_append_lies _ rfl (.tmp 12) (.tmp 15) _ rfl w.heap.size 64 i0 _ 2 16 Tryz.underlying114 hi0 hz0 hz1 hz2 rfl (by decide) v1 m (S.flatMap tcells) rfl (own_below HO2.out.1 ((Below.refl _ _).alloc (Nat.le_refl _) _)) ⟨(w2).heap.size, 0, none⟩ 1 1 [.int .i64 n, .int .i64 0] rfl rfl (World.news_of_block (cs := #[.int .i64 n, .int .i64 0]) (t := 64) (fr := (0, 0)) (heap_alloc_new (w2) _)) (by simp [Value.oneCell']) (by omega) (by simp only [maxLen]; omega) (by omega) (by have hz_ := HO2.out.2.size; rw [World.size_alloc]; omega) ((w2).heap.size + 1) (by simp) ?_; intro g3 cap3 w3 hown3 hg3 hat3 hlt3)
  clear hi0 hz0 hz1 hz2
  have hgW := grown_trans' ((Below.refl w2.heap.size w2).alloc (Nat.le_refl _) _) hg3
  have hB3 : Below w.heap.size w w3 := HO2.out.2.grown hgW HO2.out.2.size (fun q hq => (HO2.out.1.lt q hq).1)
  have hown3' : w3.ownsRow w.heap.size 64 2 (.slice (some ⟨g3, 0, none⟩) (m + 1) cap3) (m + 1) ((S ++ [(n, 0)]).flatMap tcells) := by simpa [tcells] using hown3
  have HSL : Hidden ((S ++ [(n, 0)]).length = m + 1) := ⟨by simp [HS.out]⟩
  generalize S ++ [(n, 0)] = T at *
  have H3 : Hidden (Below w.heap.size w w3 ∧ w3.ownsRow w.heap.size 64 2 (.slice (some ⟨g3, 0, none⟩) (m + 1) cap3) (m + 1) (T.flatMap tcells)) := ⟨hB3, hown3'⟩
  clear hgW hB3 hown3 hown3' hg3 hat3 hlt3 HO2 HS
  go_wp2_with fail
  go_loopg [4, 5, 18] (m + 1) (fun q v at_ i wr => ∃ (k : Nat) (H : List Ext) (a : Int), k ≤ m + 1 ∧ q = m + 1 - k ∧ i = .int .i64 (k : Int) ∧ at_ = .int .i64 a ∧ 0 ≤ a ∧ a ≤ 6400 ∧ H.length ≤ k ∧ Hidden (X = H ++ holesGo a (T.drop k) ∧ Below w.heap.size w wr ∧ wr.ownsRow w.heap.size 64 2 (.slice (some ⟨g3, 0, none⟩) (m + 1) cap3) (m + 1) (T.flatMap tcells) ∧ wr.ownsRow w.heap.size 64 2 v H.length (H.flatMap tcells) ∧ v.ownBlock ≠ some g3))
  case atStart => exact ⟨0, [], 0, by omega, rfl, rfl, rfl, by omega, by omega, by simp, ⟨by rw [HX.out]; simp, H3.out.1, H3.out.2, World.ownsRow_nil _ _ _ _, by simp [Value.ownBlock]⟩⟩
  case round =>
    obtain ⟨k, H, a, hk, rfl, rfl, rfl, ha0, ha1, hHk, hst⟩ := hrel
    by_cases hlt : k < m + 1
    · have hkT : k < T.length := by have := HSL.out; omega
      obtain ⟨g, off, hA, hgb, hgl, hcx⟩ := own_at tcells_len hst.out.2.2.1 k hkT (by omega)
      injection hA with hA
      injection hA with hA1 hA2
      subst hA1 hA2
      have c0 := hcx 0 _ rfl
      have c1 := hcx 1 _ rfl
      simp only [Nat.zero_add, Nat.add_zero] at c0 c1
      have hb := HOK.out T[k] (List.getElem_mem hkT)
      have HD : Hidden (T.drop k = T[k] :: T.drop (k + 1)) := ⟨(List.drop_eq_getElem_cons hkT)⟩
      have HG : Hidden (holesGo a (T.drop k) = (if a < T[k].1 then [(a, T[k].1 - a)] else []) ++ holesGo (T[k].1 + T[k].2) (T.drop (k + 1))) := ⟨by rw [HD.out]; rfl⟩
      have k0 : (0 : Int) ≤ k := by omega
      have k1 : (k : Int) < ((m + 1 : Nat) : Int) := by omega
      have k2 : k < m + 1 := hlt
      have k3 : (k : Int) < (m : Int) + 1 := by omega
      generalize T[k] = e at *
      obtain ⟨e1, e2⟩ := e
      dsimp only at c0 c1 hb HG
      obtain ⟨hb0, hb1, hb2⟩ := hb
      have hal : Below wr.heap.size wr (wr.alloc (.cells #[.int .i64 e1, .int .i64 e2] 64)) := (Below.refl _ _).alloc (Nat.le_refl _) _
      have s1 : IntKind.i64.wrap (e1 + e2) = e1 + e2 := IntWalk.i64_in _ (by omega)
      have s2 : IntKind.i64.wrap (e1 - a) = e1 - a := IntWalk.i64_in _ (by omega)
      have s3 : IntKind.i64.wrap ((k : Int) + 1) = (k : Int) + 1 := IntWalk.i64_in _ (by omega)
      have HAL := Hidden.mk hal
      clear hcx HD hal
      by_cases hlt2 : a < e1
      · have d1 : decide (a < e1) = true := by simpa using hlt2
        have HG2 : Hidden (holesGo a (T.drop k) = (a, e1 - a) :: holesGo (e1 + e2) (T.drop (k + 1))) := ⟨by rw [HG.out, if_pos hlt2]; rfl⟩
        have HBW : Hidden (Below w.heap.size w (wr.alloc (.cells #[.int .i64 e1, .int .i64 e2] 64))) := ⟨hst.out.2.1.trans (HAL.out.mono hst.out.2.1.size)⟩
        have hbk : (wr.alloc (.cells #[.int .i64 e1, .int .i64 e2] 64)).heap[wr.heap.size]? = some (.cells #[.int .i64 e1, .int .i64 e2] 64 (0, 0)) := heap_alloc_new wr _
        have HBK := Hidden.mk hbk
        have HAL2 : Hidden (Below wr.heap.size wr ((wr.alloc (.cells #[.int .i64 e1, .int .i64 e2] 64)).alloc (.cells #[.int .i64 a, .int .i64 (e1 - a)] 64))) := ⟨HAL.out.alloc HAL.out.size _⟩
        have HCELL : Hidden (∀ W, ((wr.alloc (.cells #[.int .i64 e1, .int .i64 e2] 64)).alloc (.cells #[.int .i64 a, .int .i64 (e1 - a)] 64)).grownBy W u4.ownBlock → W.cell? ⟨wr.heap.size, 0, none⟩ = some (.int .i64 e1) ∧ W.cell? ⟨wr.heap.size, 1, none⟩ = some (.int .i64 e2)) := ⟨fun W hW => by
          have hq := (hW.block wr.heap.size (by simp; omega) (fun e => by have := (hst.out.2.2.2.1.lt _ e.symm).2; omega)).trans ((Below.heap_alloc _ _ _ (by simp)).trans hbk)
          exact ⟨by simp [World.cell?, hq], by simp [World.cell?, hq]⟩⟩
        obtain ⟨hi0, hz0, hz1, hz2⟩ := HI.out
        clear hbk HG
        go_wp2_with (at_builtin; refine wpList_append_lies _ rfl (.tmp 26) (.tmp 33) _ rfl w.heap.size 64 i0 _ 2 16 Tryz.underlying114 hi0 hz0 hz1 hz2 rfl (by decide) u4 H.length (H.flatMap tcells) rfl (own_below (own_below hst.out.2.2.2.1 HAL.out) ((Below.refl _ _).alloc (Nat.le_refl _) _)) ⟨wr.heap.size + 1, 0, none⟩ 1 1 [.int .i64 a, .int .i64 (e1 - a)] rfl rfl (World.news_of_block (cs := #[.int .i64 a, .int .i64 (e1 - a)]) (t := 64) (fr := (0, 0)) (by have hq_ := heap_alloc_new (wr.alloc (.cells #[.int .i64 e1, .int .i64 e2] 64)) (.cells #[.int .i64 a, .int .i64 (e1 - a)] 64); rwa [World.size_alloc] at hq_)) (by simp [Value.oneCell']) (by omega) (by simp only [maxLen]; omega) (by omega) (by have hz_ := HBW.out.size; rw [World.size_alloc]; omega) (wr.heap.size + 1 + 1) (by simp) ?_; intro g7 cap7 w7 hown7 hg7 hat7 hlt7; have hgW := grown_trans' (HAL2.out) hg7; obtain ⟨z0, z1⟩ := HCELL.out w7 hg7)
        clear hi0 hz0 hz1 hz2
        have hB7 : Below w.heap.size w w7 := hst.out.2.1.grown hgW hst.out.2.1.size (fun q hq => (hst.out.2.2.2.1.lt q hq).1)
        have hg3n : some g3 ≠ u4.ownBlock := fun e => hst.out.2.2.2.2 e.symm
        have hT7 := hst.out.2.2.1.kept hgW (.inr (by simpa [Value.ownBlock] using hg3n))
        have hg37 : g7 ≠ g3 := fun e => by
          rcases hat7 with h | h
          · exact hst.out.2.2.2.2 (by rw [h, e])
          · omega
        have HN : Hidden (X = (H ++ [(a, e1 - a)]) ++ holesGo (e1 + e2) (T.drop (k + 1)) ∧ Below w.heap.size w w7 ∧ w7.ownsRow w.heap.size 64 2 (.slice (some ⟨g3, 0, none⟩) (m + 1) cap3) (m + 1) (T.flatMap tcells) ∧ w7.ownsRow w.heap.size 64 2 (.slice (some ⟨g7, 0, none⟩) (H.length + 1) cap7) (H ++ [(a, e1 - a)]).length ((H ++ [(a, e1 - a)]).flatMap tcells) ∧ (Value.slice (some ⟨g7, 0, none⟩) (H.length + 1) cap7).ownBlock ≠ some g3) :=
          ⟨by rw [hst.out.1, HG2.out]; simp, hB7, hT7, by simpa [tcells] using hown7, by simpa [Value.ownBlock] using hg37⟩
        clear hB7 hg3n hT7 hg37 hown7 hg7 hat7 hlt7 hgW hst HBW HBK HAL2 HCELL HG2
        go_wp2_with fail
        go_roundg (m + 1 - (k + 1))
        case measure => omega
        case rel => exact ⟨k + 1, H ++ [(a, e1 - a)], e1 + e2, by omega, rfl, by go_num, rfl, by omega, by omega, by simp; omega, HN⟩
      · have d1 : decide (a < e1) = false := by simpa using hlt2
        have HG2 : Hidden (holesGo a (T.drop k) = holesGo (e1 + e2) (T.drop (k + 1))) := ⟨by rw [HG.out, if_neg hlt2]; rfl⟩
        have HN : Hidden (X = H ++ holesGo (e1 + e2) (T.drop (k + 1)) ∧ Below w.heap.size w (wr.alloc (.cells #[.int .i64 e1, .int .i64 e2] 64)) ∧ (wr.alloc (.cells #[.int .i64 e1, .int .i64 e2] 64)).ownsRow w.heap.size 64 2 (.slice (some ⟨g3, 0, none⟩) (m + 1) cap3) (m + 1) (T.flatMap tcells) ∧ (wr.alloc (.cells #[.int .i64 e1, .int .i64 e2] 64)).ownsRow w.heap.size 64 2 u4 H.length (H.flatMap tcells) ∧ u4.ownBlock ≠ some g3) :=
          ⟨hst.out.1.trans (by rw [HG2.out]), hst.out.2.1.trans (HAL.out.mono hst.out.2.1.size), own_below hst.out.2.2.1 HAL.out, own_below hst.out.2.2.2.1 HAL.out, hst.out.2.2.2.2⟩
        clear HG HG2 hst
        go_wp2_with fail
        go_roundg (m + 1 - (k + 1))
        case measure => omega
        case rel => exact ⟨k + 1, H, e1 + e2, by omega, rfl, by go_num, rfl, by omega, by omega, by omega, HN⟩
    · obtain rfl : k = m + 1 := by omega
      have HF : Hidden (X = H) := ⟨by rw [hst.out.1, List.drop_of_length_le (by have := HSL.out; omega)]; simp [holesGo]⟩
      go_wp2_with fail
      go_ret
      exact ⟨_, rfl, by rw [HF.out]; exact hst.out.2.2.2.1, hst.out.2.1⟩
end Go.Proofs.YtbnobjlphmkgeaaGreatDoor
/- The contracts of extent.Frees and Fit. -/
namespace Go.Proofs.YtbnobjlphmkgeaaGreatDoor
open Go.RowKit

theorem chkX_ok {n : Int} {l : List Ext} (h : chkX n l = 0) : 0 ≤ n ∧ n ≤ 6400 ∧ l.length ≤ 200 ∧ OkX l ∧ (∀ j (hj : j < l.length), badX n l[j] = false ∧ (l.take j).any (hitX l[j]) = false) := by
  unfold chkX at h
  split at h
  · cases h
  · rename_i h1
    split at h
    · cases h
    · rename_i h2
      have h3 : ∀ j (hj : j < l.length), badX n l[j] = false ∧ (l.take j).any (hitX l[j]) = false := fun j hj => by
        have := faultX_zero (loopX_zero n l l.length h j hj)
        simpa [hj] using this
      refine ⟨by omega, by omega, by omega, fun x hx => ?_, h3⟩
      obtain ⟨j, hj, rfl⟩ := List.getElem_of_mem hx
      have := badX_false (h3 j hj).1
      omega
theorem holesGo_len : ∀ (a : Int) (S : List Ext), (holesGo a S).length ≤ S.length
  | _, [] => Nat.le_refl _
  | a, e :: r => by
    have := holesGo_len (e.1 + e.2) r
    rw [holesGo, List.length_append, List.length_cons]
    split <;> simp <;> omega
theorem holesX_len (n : Int) (l : List Ext) : (holesX n l).length ≤ l.length + 1 := by
  unfold holesX
  have := holesGo_len 0 (sortE l ++ [(n, 0)])
  rw [List.length_append, (sortE_perm l).length_eq] at this
  exact this
/-- the run that fits best -/
def bestX (size : Int) (H : List Ext) : Ext := H.foldl (fun b h => if size ≤ h.2 ∧ (b.2 = 0 ∨ h.2 < b.2) then h else b) (0, 0)
def fitE (n : Int) (l : List Ext) (size : Int) : Nat := if chkX n l = 0 then (if size < 1 ∨ 6400 < size then 1 else if (bestX size (holesX n l)).2 = 0 then 4 else 0) else chkX n l
def fitA (n : Int) (l : List Ext) (size : Int) : Int := if fitE n l size = 0 then (bestX size (holesX n l)).1 else 0
theorem bestX_succ (size : Int) (H : List Ext) (k : Nat) (hk : k < H.length) : bestX size (H.take (k + 1)) = if size ≤ H[k].2 ∧ ((bestX size (H.take k)).2 = 0 ∨ H[k].2 < (bestX size (H.take k)).2) then H[k] else bestX size (H.take k) := by
  unfold bestX
  rw [List.take_succ_eq_append_getElem hk, List.foldl_append]; rfl
theorem own_base {w : World} {b b' : Nat} {e : TypeId} {size n : Nat} {v : Value} {xs : List Value} (h : w.ownsRow b e size v n xs) (hb : b' ≤ b) : w.ownsRow b' e size v n xs := by
  refine ⟨h.1, ?_⟩
  rcases h.2 with h2 | ⟨g, cap, cur, he, hb2, rest⟩
  · exact .inl h2
  · exact .inr ⟨g, cap, cur, he, Nat.le_trans hb hb2, rest⟩
set_option maxRecDepth 100000 in
theorem xfit_any (n : Int) (A : Option Addr) (m c : Nat) (l : List Ext) (size : Int) (w : World) (hl : l.length = m) (hmc : m ≤ c) (hr : RdX tcells 2 w A l) :
    Calls Tryz.prog 68 #[.int .i64 n, .slice A m c, .int .i64 size] w fun e w' => e = .returned (.tuple #[.int .i64 (fitA n l size), errV (fitE n l size)]) ∧ Below w.heap.size w w' := by
  have HC := Hidden.mk (xcheck_any n A m c l w hl hmc hr)
  have HE : Hidden (fitE n l size = if chkX n l = 0 then (if size < 1 ∨ 6400 < size then 1 else if (bestX size (holesX n l)).2 = 0 then 4 else 0) else chkX n l) := ⟨rfl⟩
  have HA : Hidden (fitA n l size = if fitE n l size = 0 then (bestX size (holesX n l)).1 else 0) := ⟨rfl⟩
  generalize fitE n l size = fe at *
  generalize fitA n l size = fa at *
  by_cases h0 : chkX n l = 0
  · obtain ⟨o0, o1, o2, o3, -⟩ := chkX_ok h0
    have HH : Hidden (∀ W, Below w.heap.size w W → Calls Tryz.prog 147 #[.int .i64 n, .slice A m c] W fun e w' => ∃ v, e = .returned v ∧ w'.ownsRow W.heap.size 64 2 v (holesX n l).length ((holesX n l).flatMap tcells) ∧ Below W.heap.size W w') := ⟨fun W hW => xholes_any n A m c l W o0 o1 hl (by omega) (hr.below hW) o3⟩
    rw [h0] at HC
    rw [show errV 0 = Value.nilIface from rfl] at HC
    have hE := HE.out
    rw [if_pos h0] at hE
    have HE := Hidden.mk hE
    clear hE h0 hr hl o3
    by_cases h1 : size < 1
    · have hfe : fe = 1 := by rw [HE.out, if_pos (.inl h1)]
      have hfa : fa = 0 := by rw [HA.out, hfe]; rfl
      subst hfe hfa
      have d1 : decide (size < 1) = true := by simpa using h1
      clear HE HA HH
      go_enter Tryz.func68, Tryz.ntmps68
      go_wp2_with fail
      refine HC.out.mono ?_
      rintro e w1 ⟨rfl, hb1⟩
      have HB1 := Hidden.mk hb1
      clear hb1
      go_wp2_with fail
      go_ret2
      exact ⟨rfl, HB1.out⟩
    have d1 : decide (size < 1) = false := by simpa using h1
    by_cases h2 : 6400 < size
    · have hfe : fe = 1 := by rw [HE.out, if_pos (.inr h2)]
      have hfa : fa = 0 := by rw [HA.out, hfe]; rfl
      subst hfe hfa
      have d2 : decide (6400 < size) = true := by simpa using h2
      clear HE HA HH
      go_enter Tryz.func68, Tryz.ntmps68
      go_wp2_with fail
      refine HC.out.mono ?_
      rintro e w1 ⟨rfl, hb1⟩
      have HB1 := Hidden.mk hb1
      clear hb1
      go_wp2_with fail
      go_ret2
      exact ⟨rfl, HB1.out⟩
    have d2 : decide (6400 < size) = false := by simpa using h2
    have hE := HE.out
    rw [if_neg (by omega)] at hE
    have HE := Hidden.mk hE
    clear hE
    have hHl := holesX_len n l
    generalize holesX n l = H at *
    go_enter Tryz.func68, Tryz.ntmps68
    go_wp2_with fail
    refine HC.out.mono ?_
    rintro e w1 ⟨rfl, hb1⟩
    have hal : Below w1.heap.size w1 (w1.alloc (.cells #[.int .i64 0, .int .i64 0] 64)) := (Below.refl _ _).alloc (Nat.le_refl _) _
    have HB2 : Hidden (Below w.heap.size w (w1.alloc (.cells #[.int .i64 0, .int .i64 0] 64))) := ⟨hb1.trans (hal.mono hb1.size)⟩
    have HBK : Hidden ((w1.alloc (.cells #[.int .i64 0, .int .i64 0] 64)).heap[w1.heap.size]? = some (.cells #[.int .i64 0, .int .i64 0] 64 (0, 0))) := ⟨heap_alloc_new w1 _⟩
    have HB1 := Hidden.mk hb1.size
    clear hb1 hal
    go_wp2_with fail
    generalize w1.alloc (.cells #[.int .i64 0, .int .i64 0] 64) = w2 at *
    generalize w1.heap.size = bb at *
    refine (HH.out _ HB2.out).mono ?_
    rintro e w3 ⟨v, rfl, hown, hb3⟩
    have hbb : bb < w2.heap.size := (Array.getElem?_eq_some_iff.1 HBK.out).1
    have H3 : Hidden (Below w.heap.size w w3 ∧ w3.heap[bb]? = some (.cells #[.int .i64 0, .int .i64 0] 64 (0, 0)) ∧ w3.ownsRow w2.heap.size 64 2 v H.length (H.flatMap tcells)) := ⟨HB2.out.trans (hb3.mono HB2.out.size), (hb3.block _ hbb).trans HBK.out, hown⟩
    obtain ⟨A3, c3, rfl, hc3, -⟩ := own_split hown
    clear hown hb3 HBK HB2 HH
    generalize hhl : H.length = hl at *
    have HHL := Hidden.mk hhl
    clear hhl
    go_wp2_with fail
    go_loopg [30] hl (fun q i wr => ∃ (k : Nat) (b1 b2 : Int), k ≤ hl ∧ q = hl - k ∧ i = .int .i64 (k : Int) ∧ Hidden (bestX size (H.take k) = (b1, b2) ∧ Below w.heap.size w wr ∧ wr.heap[bb]? = some (.cells #[.int .i64 b1, .int .i64 b2] 64 (0, 0)) ∧ wr.ownsRow w2.heap.size 64 2 (.slice A3 hl c3) hl (H.flatMap tcells)))
    case atStart => exact ⟨0, 0, 0, by omega, rfl, rfl, ⟨rfl, H3.out.1, H3.out.2.1, H3.out.2.2⟩⟩
    case round =>
      obtain ⟨k, b1, b2, hk, rfl, rfl, hst⟩ := hrel
      by_cases hlt : k < hl
      · have hkH : k < H.length := by have := HHL.out; omega
        obtain ⟨g, off, rfl, hgb, hgl, hcx⟩ := own_at tcells_len hst.out.2.2.2 k hkH (by omega)
        have c0 := hcx 0 _ rfl
        have c1 := hcx 1 _ rfl
        simp only [Nat.add_zero] at c0
        have HS := Hidden.mk (bestX_succ size H k hkH)
        rw [hst.out.1] at HS
        generalize H[k] = e at *
        obtain ⟨e1, e2⟩ := e
        dsimp only at c0 c1 HS
        have hal : Below wr.heap.size wr (wr.alloc (.cells #[.int .i64 e1, .int .i64 e2] 64)) := (Below.refl _ _).alloc (Nat.le_refl _) _
        have HBK : Hidden ((wr.alloc (.cells #[.int .i64 e1, .int .i64 e2] 64)).heap[bb]? = some (.cells #[.int .i64 b1, .int .i64 b2] 64 (0, 0))) := ⟨(hal.block _ (Array.getElem?_eq_some_iff.1 hst.out.2.2.1).1).trans hst.out.2.2.1⟩
        have HN : Hidden (Below w.heap.size w (wr.alloc (.cells #[.int .i64 e1, .int .i64 e2] 64)) ∧ (wr.alloc (.cells #[.int .i64 e1, .int .i64 e2] 64)).ownsRow w2.heap.size 64 2 (.slice (some ⟨g, off, none⟩) hl c3) hl (H.flatMap tcells)) := ⟨hst.out.2.1.trans (hal.mono hst.out.2.1.size), own_below hst.out.2.2.2 hal⟩
        have hwb : w.heap.size ≤ bb := HB1.out
        have y0 : (wr.alloc (.cells #[.int .i64 e1, .int .i64 e2] 64)).cell? ⟨bb, 0, none⟩ = some (.int .i64 b1) := by simp [World.cell?, HBK.out]
        have y1 : (wr.alloc (.cells #[.int .i64 e1, .int .i64 e2] 64)).cell? ⟨bb, 1, none⟩ = some (.int .i64 b2) := by simp [World.cell?, HBK.out]
        have hfz : ∀ q, (wr.alloc (.cells #[.int .i64 e1, .int .i64 e2] 64)).frozen? ⟨bb, q, none⟩ = false := fun q => frozen_of_row _ bb q _ _ HBK.out
        have hne : wr.heap.size ≠ bb := by have := (Array.getElem?_eq_some_iff.1 hst.out.2.2.1).1; omega
        have s3 : IntKind.i64.wrap ((k : Int) + 1) = (k : Int) + 1 := IntWalk.i64_in _ (by omega)
        have k1 : (k : Int) < hl := by omega
        clear hcx hal
        by_cases q1 : size ≤ e2
        · have t1 : decide (size ≤ e2) = true := by simpa using q1
          by_cases q2 : b2 = 0 ∨ e2 < b2
          · have HS2 : Hidden (bestX size (H.take (k + 1)) = (e1, e2)) := ⟨by rw [HS.out, if_pos ⟨q1, q2⟩]⟩
            have HBK2 := Hidden.mk (heap_setK (k := 1) (heap_setK (k := 0) HBK.out (.int .i64 e1)) (.int .i64 e2))
            have HN2 : Hidden (Below w.heap.size w (((wr.alloc (.cells #[.int .i64 e1, .int .i64 e2] 64)).setCell ⟨bb, 0, none⟩ (.int .i64 e1)).setCell ⟨bb, 1, none⟩ (.int .i64 e2)) ∧ (((wr.alloc (.cells #[.int .i64 e1, .int .i64 e2] 64)).setCell ⟨bb, 0, none⟩ (.int .i64 e1)).setCell ⟨bb, 1, none⟩ (.int .i64 e2)).ownsRow w2.heap.size 64 2 (.slice (some ⟨g, off, none⟩) hl c3) hl (H.flatMap tcells)) :=
              ⟨(HN.out.1.setCell (p := ⟨bb, 0, none⟩) hwb _).setCell (p := ⟨bb, 1, none⟩) hwb _, ownsRow_block HN.out.2 fun q hq => (Below.heap_setCell _ _ _ _ (fun e => by have := (HN.out.2.lt q hq).1; simp at e; omega)).trans (Below.heap_setCell _ _ _ _ (fun e => by have := (HN.out.2.lt q hq).1; simp at e; omega))⟩
            by_cases q3 : b2 = 0
            · subst q3
              clear HS hst
              go_wp2_with fail
              go_roundg (hl - (k + 1))
              case measure => omega
              case rel => exact ⟨k + 1, e1, e2, by omega, rfl, by go_num, ⟨HS2.out, HN2.out.1, HBK2.out, HN2.out.2⟩⟩
            · have t3 : (b2 == 0) = false := by simpa using q3
              have t4 : decide (e2 < b2) = true := by simp; omega
              clear HS hst
              go_wp2_with fail
              go_roundg (hl - (k + 1))
              case measure => omega
              case rel => exact ⟨k + 1, e1, e2, by omega, rfl, by go_num, ⟨HS2.out, HN2.out.1, HBK2.out, HN2.out.2⟩⟩
          · have HS2 : Hidden (bestX size (H.take (k + 1)) = (b1, b2)) := ⟨by rw [HS.out, if_neg (fun h => q2 h.2)]⟩
            have t3 : (b2 == 0) = false := by simp; omega
            have t4 : decide (e2 < b2) = false := by simp; omega
            clear HS hst
            go_wp2_with fail
            go_roundg (hl - (k + 1))
            case measure => omega
            case rel => exact ⟨k + 1, b1, b2, by omega, rfl, by go_num, ⟨HS2.out, HN.out.1, HBK.out, HN.out.2⟩⟩
        · have t1 : decide (size ≤ e2) = false := by simpa using q1
          have HS2 : Hidden (bestX size (H.take (k + 1)) = (b1, b2)) := ⟨by rw [HS.out, if_neg (fun h => q1 h.1)]⟩
          clear HS hst
          go_wp2_with fail
          go_roundg (hl - (k + 1))
          case measure => omega
          case rel => exact ⟨k + 1, b1, b2, by omega, rfl, by go_num, ⟨HS2.out, HN.out.1, HBK.out, HN.out.2⟩⟩
      · obtain rfl : k = hl := by omega
        have hbe := hst.out.1
        rw [List.take_of_length_le (by have := HHL.out; omega)] at hbe
        have hE := HE.out
        rw [hbe] at hE HA
        dsimp only at hE HA
        have hbk := hst.out.2.2.1
        have y0 : wr.cell? ⟨bb, 0, none⟩ = some (.int .i64 b1) := by simp [World.cell?, hbk]
        have y1 : wr.cell? ⟨bb, 1, none⟩ = some (.int .i64 b2) := by simp [World.cell?, hbk]
        clear hbe hbk
        by_cases hz : b2 = 0
        · have hfe : fe = 4 := by rw [hE, if_pos hz]
          have hfa : fa = 0 := by rw [HA.out, hfe]; rfl
          subst hfe hfa hz
          clear hE HE HA
          go_wp2_with fail
          go_ret2
          exact ⟨rfl, hst.out.2.1⟩
        · have hfe : fe = 0 := by rw [hE, if_neg hz]
          have hfa : fa = b1 := by rw [HA.out, hfe]; rfl
          have t1 : (b2 == 0) = false := by simpa using hz
          subst hfe hfa
          clear hE HE HA
          go_wp2_with fail
          go_ret2
          exact ⟨rfl, hst.out.2.1⟩
  · have hfe : fe = chkX n l := by rw [HE.out, if_neg h0]
    have hfa : fa = 0 := by rw [HA.out, if_neg (by rw [hfe]; exact h0)]
    have hev : errV (chkX n l) = .iface 111 (.int .i64 (chkX n l)) := by unfold errV; rw [if_neg h0]
    rw [hfe, hfa, hev]
    rw [hev] at HC
    generalize chkX n l = q at *
    clear h0 hev HE HA hr hl hfe hfa
    go_enter Tryz.func68, Tryz.ntmps68
    go_wp2_with fail
    refine HC.out.mono ?_
    rintro e w1 ⟨rfl, hb1⟩
    have HB1 := Hidden.mk hb1
    clear hb1
    go_wp2_with fail
    go_ret2
    exact ⟨rfl, HB1.out⟩
end Go.Proofs.YtbnobjlphmkgeaaGreatDoor
/- The heap: what is read of it. -/
namespace Go.Proofs.YtbnobjlphmkgeaaGreatDoor
open Go.RowKit

/-- the fault of a handle; what its entry says -/
def hE (l : Bytes) (x : Int) : Nat := if handleB x = false then 1 else if hasE (rawE l (x - 1).toNat) = true then 0 else 5
def hR (l : Bytes) (x : Int) : Bytes := rawE l (x - 1).toNat
def gH (l : Bytes) (x : Int) : Int := if hE l x = 0 then x else 0
def gA (l : Bytes) (x : Int) : Int := if hE l x = 0 then rAt (hR l x) else 0
def gL (l : Bytes) (x : Int) : Int := if hE l x = 0 then rLen (hR l x) else 0
def gT (l : Bytes) (x : Int) : Int := if hE l x = 0 then rTag (hR l x) else 0
theorem hE_zero {l : Bytes} {x : Int} (h : hE l x = 0) : ∃ k : Nat, k < 40 ∧ x = (k : Int) + 1 ∧ hasE (rawE l k) = true ∧ hR l x = rawE l k := by
  unfold hE at h
  cases hh : handleB x with
  | false => rw [hh] at h; simp at h
  | true =>
    have hb := handleB_true.1 hh
    rw [hh] at h
    refine ⟨(x - 1).toNat, by omega, by omega, ?_, rfl⟩
    cases hq : hasE (rawE l (x - 1).toNat) with
    | true => rfl
    | false => rw [hq] at h; simp at h
theorem hE_has {l : Bytes} {k : Nat} (hk : k < 40) (h : hasE (rawE l k) = true) : hE l ((k : Int) + 1) = 0 ∧ hR l ((k : Int) + 1) = rawE l k := by
  have e : ((k : Int) + 1 - 1).toNat = k := by omega
  unfold hE hR
  rw [e]
  exact ⟨by rw [if_neg (by rw [handleB_true.2 (by omega)]; decide), if_pos h], rfl⟩
theorem hE_hasnt {l : Bytes} {k : Nat} (hk : k < 40) (h : hasE (rawE l k) = false) : hE l ((k : Int) + 1) = 5 := by
  have e : ((k : Int) + 1 - 1).toNat = k := by omega
  unfold hE
  rw [e, if_neg (by rw [handleB_true.2 (by omega)]; decide), if_neg (by rw [h]; decide)]
/-- an entry that a right image has lies within it -/
theorem good_in {l : Bytes} (hg : Good l) {x : Int} (h : hE l x = 0) : 288 ≤ gA l x ∧ 1 ≤ gL l x ∧ gL l x ≤ 1000 ∧ gA l x + gL l x ≤ l.length ∧ 0 ≤ gT l x ∧ gT l x ≤ 15 := by
  obtain ⟨k, hk, rfl, hh, hr⟩ := hE_zero h
  have := strayE_false (hg.s.fit k hk hh)
  unfold gA gL gT
  rw [if_pos h, if_pos h, if_pos h, hr]
  omega
theorem iget_ans (A : Option Addr) (n c : Nat) (l : Bytes) (x : Int) (w : World) (hn : l.length = n) (hr : rightB n = true) (hnc : n ≤ c) (hrd : Rd w A l) :
    Calls Tryz.prog 66 #[.slice A n c, .int .i64 x] w fun e w' => e = .returned (.tuple #[entV (gH l x) (gA l x) (gL l x) (gT l x), errV (hE l x)]) ∧ Below w.heap.size w w' := by
  cases hh : handleB x with
  | false =>
    have h1 : hE l x = 1 := by unfold hE; rw [hh]; rfl
    unfold gH gA gL gT
    rw [h1]
    exact iget_e1 A n c x w hr hh
  | true =>
    have hb := handleB_true.1 hh
    obtain ⟨k, rfl⟩ : ∃ k : Nat, x = (k : Int) + 1 := ⟨(x - 1).toNat, by omega⟩
    refine (iget_ok A n c l k w hn hr hnc hrd (by omega)).mono ?_
    rintro e w' ⟨h1, h2, hb'⟩
    refine ⟨?_, hb'⟩
    cases hq : hasE (rawE l k) with
    | true =>
      obtain ⟨e0, e1⟩ := hE_has (l := l) (k := k) (by omega) hq
      unfold gH gA gL gT
      rw [h1 hq, e0, e1]; rfl
    | false =>
      have e0 := hE_hasnt (l := l) (k := k) (by omega) hq
      unfold gH gA gL gT
      rw [h2 hq, e0]; rfl
section
variable {w0 w : World} {F : Nat → Prop} {h : Nat} {l : Bytes}
theorem htag_any (x : Int) (hp : Hp w0 w F h l) :
    Calls Tryz.prog 31 #[.pointer (some ⟨h, 0, none⟩), .int .i64 x] w fun e w' => e = .returned (.tuple #[.int .i64 (gT l x), errV (hE l x)]) ∧ Below w.heap.size w w' := by
  obtain ⟨g, cap, c0, hcap, hrow, hF⟩ := hp.open_
  have HC := Hidden.mk (iget_ans (some ⟨g, 0, none⟩) l.length cap l x w rfl hp.len hcap hrow.rd)
  unfold entV at HC
  generalize errV (hE l x) = ev at *
  generalize gH l x = a0 at *
  generalize gA l x = a1 at *
  generalize gL l x = a2 at *
  generalize gT l x = a3 at *
  clear hp hrow
  go_enter Tryz.func31, Tryz.ntmps31
  go_wp2_with fail
  refine HC.out.mono ?_
  rintro e w1 ⟨rfl, hb1⟩
  have HB := Hidden.mk (hb1.alloc hb1.size (.cells #[.int .i64 a0, .int .i64 a1, .int .i64 a2, .int .i64 a3] 66))
  clear hb1 HC
  go_wp2_with fail
  go_ret2
  exact ⟨rfl, HB.out⟩
theorem hsize_any (x : Int) (hp : Hp w0 w F h l) :
    Calls Tryz.prog 30 #[.pointer (some ⟨h, 0, none⟩), .int .i64 x] w fun e w' => e = .returned (.tuple #[.int .i64 (gL l x), errV (hE l x)]) ∧ Below w.heap.size w w' := by
  obtain ⟨g, cap, c0, hcap, hrow, hF⟩ := hp.open_
  have HC := Hidden.mk (iget_ans (some ⟨g, 0, none⟩) l.length cap l x w rfl hp.len hcap hrow.rd)
  unfold entV at HC
  generalize errV (hE l x) = ev at *
  generalize gH l x = a0 at *
  generalize gA l x = a1 at *
  generalize gL l x = a2 at *
  generalize gT l x = a3 at *
  clear hp hrow
  go_enter Tryz.func30, Tryz.ntmps30
  go_wp2_with fail
  refine HC.out.mono ?_
  rintro e w1 ⟨rfl, hb1⟩
  have HB := Hidden.mk (hb1.alloc hb1.size (.cells #[.int .i64 a0, .int .i64 a1, .int .i64 a2, .int .i64 a3] 66))
  clear hb1 HC
  go_wp2_with fail
  go_ret2
  exact ⟨rfl, HB.out⟩
theorem hentries_any (hp : Hp w0 w F h l) :
    Calls Tryz.prog 87 #[.pointer (some ⟨h, 0, none⟩)] w fun e w' => ∃ v, e = .returned v ∧ w'.ownsRow w.heap.size 66 4 v (entriesL l).length ((entriesL l).flatMap ecells) ∧ Below w.heap.size w w' := by
  obtain ⟨g, cap, c0, hcap, hrow, hF⟩ := hp.open_
  have HC := Hidden.mk (ientries_ok (some ⟨g, 0, none⟩) l.length cap l w rfl hp.len hcap hrow.rd)
  clear hp hrow
  go_enter Tryz.func87, Tryz.ntmps87
  go_wp2_with fail
  refine HC.out.mono ?_
  rintro e w1 ⟨v, rfl, hown, hb1⟩
  have HB := Hidden.mk (And.intro hown hb1)
  clear hb1 hown HC
  go_wp2_with fail
  go_ret
  exact ⟨v, rfl, HB.out⟩
theorem hroots_any (hp : Hp w0 w F h l) :
    Calls Tryz.prog 74 #[.pointer (some ⟨h, 0, none⟩)] w fun e w' => ∃ v, e = .returned v ∧ w'.ownsRow w.heap.size 128 2 v (rootsL l).length ((rootsL l).flatMap rcells) ∧ Below w.heap.size w w' := by
  obtain ⟨g, cap, c0, hcap, hrow, hF⟩ := hp.open_
  have HC := Hidden.mk (iroots_ok (some ⟨g, 0, none⟩) l.length cap l w rfl hp.len hcap hrow.rd)
  clear hp hrow
  go_enter Tryz.func74, Tryz.ntmps74
  go_wp2_with fail
  refine HC.out.mono ?_
  rintro e w1 ⟨v, rfl, hown, hb1⟩
  have HB := Hidden.mk (And.intro hown hb1)
  clear hb1 hown HC
  go_wp2_with fail
  go_ret
  exact ⟨v, rfl, HB.out⟩
/-- the bytes of an object, where they lie -/
theorem hof_any (g cap : Nat) (a m : Nat) (hh tg : Int) (W : World) (hc : ∃ n, W.cell? ⟨h, 0, none⟩ = some (.slice (some ⟨g, 0, none⟩) n cap)) (ha : a + m ≤ cap) (hm : 1 ≤ m) (hcap : a + m ≤ 281474976710656) :
    Calls Tryz.prog 70 #[.pointer (some ⟨h, 0, none⟩), .agg #[.int .i64 hh, .int .i64 (a : Int), .int .i64 (m : Int), .int .i64 tg]] W fun e w' => e = .returned (.slice (some ⟨g, a, none⟩) m (cap - a)) ∧ Below W.heap.size W w' := by
  obtain ⟨n, hc⟩ := hc
  have hlt := block_lt_of_cell hc
  have HB := Hidden.mk ((Below.refl W.heap.size W).alloc (Nat.le_refl _) (.cells #[.int .i64 hh, .int .i64 (a : Int), .int .i64 (m : Int), .int .i64 tg] 66))
  have s1 : IntKind.i64.wrap ((a : Int) + m) = (a : Int) + m := IntWalk.i64_in _ (by omega)
  have hsl := run_cut g 0 n cap a (a + m) (by omega) (by omega) (by omega)
  rw [Nat.add_sub_cancel_left, Nat.zero_add] at hsl
  simp only [Int.natCast_add] at hsl
  have hbk := heap_alloc_new W (.cells #[.int .i64 hh, .int .i64 (a : Int), .int .i64 (m : Int), .int .i64 tg] 66)
  have hcl := (HB.out.cell (p := ⟨h, 0, none⟩) hlt).trans hc
  have y1 : (W.alloc (.cells #[.int .i64 hh, .int .i64 (a : Int), .int .i64 (m : Int), .int .i64 tg] 66)).cell? ⟨W.heap.size, 1, none⟩ = some (.int .i64 a) := by simp only [World.cell?]; rw [hbk]; rfl
  have y2 : (W.alloc (.cells #[.int .i64 hh, .int .i64 (a : Int), .int .i64 (m : Int), .int .i64 tg] 66)).cell? ⟨W.heap.size, 2, none⟩ = some (.int .i64 m) := by simp only [World.cell?]; rw [hbk]; rfl
  clear hbk hc ha hm hcap
  go_enter Tryz.func70, Tryz.ntmps70
  go_wp2_with fail
  generalize W.alloc (.cells #[.int .i64 hh, .int .i64 (a : Int), .int .i64 (m : Int), .int .i64 tg] 66) = w2 at *
  generalize hB2 : W.heap.size = Bx at *
  have HB2 := Hidden.mk hB2
  clear hB2
  go_quiet (fail)
  go_wp2_with fail
  go_ret
  exact ⟨rfl, by have := HB.out; rw [← HB2.out] at this; exact below_drewN this _⟩
end
end Go.Proofs.YtbnobjlphmkgeaaGreatDoor
/- The heap: what turns it. -/
namespace Go.Proofs.YtbnobjlphmkgeaaGreatDoor
open Go.RowKit

/-- a heap that a call leaves: another image, other blocks of its own, all else as it was -/
structure HpM (w0 w w' : World) (F F' : Nat → Prop) (h : Nat) (l' : Bytes) : Prop where
  hp : Hp w0 w' F' h l'
  kp : Keep F w w'
  nw : ∀ k, F' k → F k ∨ w.heap.size ≤ k
section
variable {w0 w w' : World} {F : Nat → Prop} {h : Nat} {l l' : Bytes}
theorem Hp.same (hp : Hp w0 w F h l) (hb : Below w.heap.size w w') : HpM w0 w w' F F h l := ⟨hp.below hb, Keep.of_below hb, fun _ hk => .inl hk⟩
theorem HpM.trans {F' F'' : Nat → Prop} {w1 w2 : World} {l1 l2 : Bytes} (a : HpM w0 w w1 F F' h l1) (b : HpM w0 w1 w2 F' F'' h l2) : HpM w0 w w2 F F'' h l2 :=
  ⟨b.hp, a.kp.trans b.kp a.nw, fun k hk => by
    rcases b.nw k hk with h1 | h1
    · exact a.nw k h1
    · right; have := a.kp.size; omega⟩
theorem HpM.below (a : HpM w0 w w' F F h l) {w1 : World} (hb : Below w'.heap.size w' w1) : HpM w0 w w1 F F h l := a.trans (a.hp.same hb)
theorem hkeep_below (hb : Below w0.heap.size w0 w) (hk : Keep F w w') (hn : ∀ k, F k → w0.heap.size ≤ k) : Below w0.heap.size w0 w' := hb.trans (hk.below hb.size hn)
/-- the image turned -/
theorem Hp.set (hp : Hp w0 w F h l) {g' cap' : Nat} (hrow : Row w 5 g' cap' l') (hlen : rightB l'.length = true) (hg' : w0.heap.size ≤ g') :
    Hp w0 (w.setCell ⟨h, 0, none⟩ (.slice (some ⟨g', 0, none⟩) l'.length cap')) (fun k => F k ∨ k = g') h l' ∧ Keep F w (w.setCell ⟨h, 0, none⟩ (.slice (some ⟨g', 0, none⟩) l'.length cap')) := by
  obtain ⟨g, cap, hd, hr, hF⟩ := hp.hd
  have hne : h ≠ g' := ne_row hd hrow (by decide)
  have hoth : ∀ q, q ≠ h → (w.setCell ⟨h, 0, none⟩ (.slice (some ⟨g', 0, none⟩) l'.length cap')).heap[q]? = w.heap[q]? := fun q hq => Below.heap_setCell _ _ _ _ (fun e => hq (by simpa using e))
  have hsz : (w.setCell ⟨h, 0, none⟩ (.slice (some ⟨g', 0, none⟩) l'.length cap')).heap.size = w.heap.size := by
    rw [setCell_eq_setRow w h 0 _ _ _ _ hd]; simp [World.setRow]
  have hkeep : Keep F w (w.setCell ⟨h, 0, none⟩ (.slice (some ⟨g', 0, none⟩) l'.length cap')) :=
    ⟨rfl, rfl, rfl, Nat.le_of_eq hsz.symm, fun k _ hn => hoth k (fun e => hn (e ▸ hp.fh))⟩
  refine ⟨⟨⟨g', cap', heap_setK (k := 0) hd _, hrow.block (hoth _ (Ne.symm hne)), .inr rfl⟩, .inl hp.fh, hlen, fun k hk => ?_, fun k hk => ?_, hkeep_below hp.bel hkeep hp.new⟩, hkeep⟩
  · rcases hk with hk | rfl
    · exact hp.new k hk
    · exact hg'
  · rw [hsz]
    rcases hk with hk | rfl
    · exact hp.flt k hk
    · exact hrow.lt
end
end Go.Proofs.YtbnobjlphmkgeaaGreatDoor
/- Roots of a list that are looked for: slices.IndexFunc, ContainsFunc with the closures of heap.Free and root.Get; the extents of a heap. -/
namespace Go.Proofs.YtbnobjlphmkgeaaGreatDoor
open Go.RowKit

/-- where the first is -/
def ixP {X : Type} (p : X → Bool) (L : List X) : Int := if L.any p = true then (L.findIdx p : Int) else -1
theorem ixP_at {X : Type} (p : X → Bool) (L : List X) (k : Nat) (hk : k < L.length) (hn : ∀ x ∈ L.take k, p x = false) (he : p L[k] = true) : ixP p L = k := by
  unfold ixP
  rw [if_pos (List.any_eq_true.2 ⟨_, List.getElem_mem hk, he⟩)]
  congr 1
  rw [List.findIdx_eq hk]
  refine ⟨he, fun j hj => ?_⟩
  have := hn L[j] (List.mem_take_iff_getElem.2 ⟨j, by omega, rfl⟩)
  simpa using this
theorem ixP_none {X : Type} (p : X → Bool) (L : List X) (hn : ∀ x ∈ L, p x = false) : ixP p L = -1 := by
  unfold ixP
  rw [if_neg]
  rw [Bool.not_eq_true, List.any_eq_false]
  intro x hx; rw [hn x hx]; simp
theorem root1_free (x : Bytes × Nat) (y : Int) (Bx : Nat) (W : World) (h1 : W.cell? ⟨Bx, 0, none⟩ = some (.int .i64 y)) :
    Calls Tryz.prog 75 #[.agg #[sv x.1, .int .i64 x.2], .pointer (some ⟨Bx, 0, none⟩)] W fun e' w' => e' = .returned (.bool ((x.2 : Int) == y)) ∧ Below W.heap.size W w' := by
  obtain ⟨s, q⟩ := x
  dsimp only
  have hlt := block_lt_of_cell h1
  have hW : Below W.heap.size W (W.alloc (.cells #[sv s, .int .i64 q] 128)) := (Below.refl _ _).alloc (Nat.le_refl _) _
  go_enter Tryz.func75, Tryz.ntmps75
  go_wp2_with fail
  go_ret
  exact ⟨rfl, hW⟩
theorem idxR_free (p : Bytes × Nat → Bool) (A : Option Addr) (n c : Nat) (L : List (Bytes × Nat)) (cap : Value) (w : World) (hn : L.length = n) (hl : n ≤ 1000) (hr : RdX rcells 2 w A L)
    (hP : ∀ x ∈ L, ∀ W, Below w.heap.size w W → Calls Tryz.prog 75 #[.agg #[sv x.1, .int .i64 x.2], cap] W fun e w' => e = .returned (.bool (p x)) ∧ Below W.heap.size W w') :
    Calls Tryz.prog 149 #[.slice A n c, .func (.func 75) #[] #[cap]] w fun e w' => e = .returned (.int .i64 (ixP p L)) ∧ Below w.heap.size w w' := by
  subst hn
  have HP := Hidden.mk hP
  clear hP
  go_enter Tryz.func149, Tryz.ntmps149
  go_wp2_with fail
  go_loopw [8] (fun i wr => Below w.heap.size w wr ∧ ∃ k : Nat, k ≤ L.length ∧ i = .int .i64 k ∧ Hidden (∀ x ∈ L.take k, p x = false)) (fun i _ => L.length - (intOf i).toNat)
  case atStart => exact ⟨Below.refl _ _, 0, Nat.zero_le _, rfl, ⟨by simp⟩⟩
  case round =>
    obtain ⟨hbel, k, hk, rfl, hnot⟩ := hrel
    by_cases hlt : k < L.length
    · obtain ⟨b, off, rfl, hcx⟩ := (hr.below hbel) k hlt
      have c0 := hcx 0 _ rfl
      have c1 := hcx 1 _ rfl
      rw [Nat.add_zero] at c0
      have hp := HP.out L[k] (List.getElem_mem hlt) wr hbel
      have HPK := Hidden.mk hp
      have i0 : (0 : Int) ≤ k := by omega
      have i1 : (k : Int) < L.length := by omega
      clear hp hcx
      go_wp2_with fail
      refine (HPK.out).mono ?_
      rintro e w1 ⟨rfl, hb1⟩
      have hB1 := hbel.trans (hb1.mono hbel.size)
      cases he : p L[k] with
      | true =>
        have hi := Hidden.mk (ixP_at p L k hlt hnot.out he)
        clear he hb1 hbel
        go_wp2_with fail
        go_ret
        exact ⟨by rw [hi.out]; rfl, hB1⟩
      | false =>
        have hnk : Hidden (∀ x ∈ L.take (k + 1), p x = false) := ⟨forall_take_succ' hlt hnot.out he⟩
        clear he hnot hb1 hbel
        go_wp2_with fail
        go_roundw
        case rel => exact ⟨hB1, k + 1, by omega, by go_num, hnk⟩
        case measure => simp [intOf]; omega
    · have hi := Hidden.mk (ixP_none p L (by have := hnot.out; rwa [List.take_of_length_le (by omega)] at this))
      go_wp2_with fail
      go_ret
      exact ⟨by rw [hi.out]; rfl, hbel⟩
theorem cfR_free (p : Bytes × Nat → Bool) (A : Option Addr) (n c : Nat) (L : List (Bytes × Nat)) (cap : Value) (w : World) (hn : L.length = n) (hl : n ≤ 1000) (hr : RdX rcells 2 w A L)
    (hP : ∀ x ∈ L, ∀ W, Below w.heap.size w W → Calls Tryz.prog 75 #[.agg #[sv x.1, .int .i64 x.2], cap] W fun e w' => e = .returned (.bool (p x)) ∧ Below W.heap.size W w') :
    Calls Tryz.prog 73 #[.slice A n c, .func (.func 75) #[] #[cap]] w fun e w' => e = .returned (.bool (L.any p)) ∧ Below w.heap.size w w' := by
  have HC := Hidden.mk (idxR_free p A n c L cap w hn hl hr hP)
  have HZ : Hidden (decide (0 ≤ ixP p L) = L.any p) := ⟨by
    unfold ixP
    cases L.any p with
    | true => rw [if_pos rfl]; simp
    | false => rw [if_neg (by decide)]; rfl⟩
  generalize ixP p L = z at *
  clear hP
  go_enter Tryz.func73, Tryz.ntmps73
  go_wp2_with fail
  refine HC.out.mono ?_
  rintro e w1 ⟨rfl, hb⟩
  go_wp2_with fail
  go_ret
  exact ⟨congrArg (fun b => Ending.returned (.bool b)) HZ.out, hb⟩
/-- the extents of an image's objects, behind the head -/
def takeX (x : Int × Bytes) : Ext := ((rAt x.2 : Int) - 288, (rLen x.2 : Int))
def takenL (l : Bytes) : List Ext := (entriesL l).map takeX
theorem takenL_len (l : Bytes) : (takenL l).length ≤ 40 := by unfold takenL; rw [List.length_map]; exact entsL_len _ _ 40
section
variable {w0 w : World} {F : Nat → Prop} {h : Nat} {l : Bytes}
set_option maxRecDepth 100000 in
theorem htaken_any (hp : Hp w0 w F h l) :
    Calls Tryz.prog 67 #[.pointer (some ⟨h, 0, none⟩)] w fun e w' => ∃ A m c, e = .returned (.tuple #[.int .i64 ((l.length : Int) - 288), .slice A m c]) ∧ (takenL l).length = m ∧ m ≤ c ∧ RdX tcells 2 w' A (takenL l) ∧ Below w.heap.size w w' := by
  have hb := rightB_true.1 hp.len
  obtain ⟨i0, hi0, hz0, hz1, hz2⟩ := info_parts extent_info
  have HI := Hidden.mk (And.intro hi0 (And.intro hz0 (And.intro hz1 hz2)))
  have HC := Hidden.mk (hentries_any hp)
  have HP := Hidden.mk hp
  have HT : Hidden (takenL l = (entriesL l).map takeX) := ⟨rfl⟩
  have hle : (entriesL l).length ≤ 40 := entsL_len _ _ 40
  generalize entriesL l = E at *
  clear hi0 hz0 hz1 hz2 hp
  go_enter Tryz.func67, Tryz.ntmps67
  go_wp2_with fail
  refine HC.out.mono ?_
  rintro e w1 ⟨v, rfl, hown, hb1⟩
  obtain ⟨A1, c1, rfl, hc1, -⟩ := own_split hown
  have HR := Hidden.mk (own_rdX3 (f := ecells) (fun _ => rfl) rfl hown)
  have HB := Hidden.mk hb1
  generalize hm : E.length = m at *
  have HM := Hidden.mk hm
  clear hown hb1 HC hm
  go_wp2_with fail
  go_loopg [3, 9] m (fun q v i wr => ∃ k : Nat, k ≤ m ∧ q = m - k ∧ i = .int .i64 (k : Int) ∧ Hidden (Below w1.heap.size w1 wr ∧ wr.ownsRow w1.heap.size 64 2 v k (((E.take k).map takeX).flatMap tcells)))
  case atStart => exact ⟨0, by omega, rfl, rfl, ⟨Below.refl _ _, World.ownsRow_nil _ _ _ _⟩⟩
  case round =>
    obtain ⟨k, hk, rfl, rfl, hst⟩ := hrel
    by_cases hlt : k < m
    · have hkE : k < E.length := by have := HM.out; omega
      obtain ⟨p, off, rfl, hcx⟩ := (HR.out.below hst.out.1) k hkE
      have x0 := hcx 0 _ rfl
      have x1 := hcx 1 _ rfl
      have x2 := hcx 2 _ rfl
      have x3 := hcx 3 _ rfl
      rw [Nat.add_zero] at x0
      have HS : Hidden ((E.take (k + 1)).map takeX = (E.take k).map takeX ++ [takeX E[k]]) := ⟨by rw [List.take_succ_eq_append_getElem hkE, List.map_append]; rfl⟩
      have b1 := rAt_le E[k].2
      have b2 := rLen_le E[k].2
      have HX : Hidden (takeX E[k] = ((rAt E[k].2 : Int) - 288, (rLen E[k].2 : Int))) := ⟨rfl⟩
      generalize takeX E[k] = tx at *
      generalize E[k].1 = e0 at *
      generalize rAt E[k].2 = e1 at *
      generalize rLen E[k].2 = e2 at *
      generalize rTag E[k].2 = e3 at *
      have s1 : IntKind.i64.wrap ((e1 : Int) - 288) = (e1 : Int) - 288 := IntWalk.i64_in _ (by omega)
      have s3 : IntKind.i64.wrap ((k : Int) + 1) = (k : Int) + 1 := IntWalk.i64_in _ (by omega)
      have k0 : (0 : Int) ≤ k := by omega
      have k1 : (k : Int) < m := by omega
      have hal : Below wr.heap.size wr (wr.alloc (.cells #[.int .i64 e0, .int .i64 e1, .int .i64 e2, .int .i64 e3] 66)) := (Below.refl _ _).alloc (Nat.le_refl _) _
      have HN : Hidden (Below w1.heap.size w1 (wr.alloc (.cells #[.int .i64 e0, .int .i64 e1, .int .i64 e2, .int .i64 e3] 66)) ∧ (wr.alloc (.cells #[.int .i64 e0, .int .i64 e1, .int .i64 e2, .int .i64 e3] 66)).ownsRow w1.heap.size 64 2 u3 k (((E.take k).map takeX).flatMap tcells)) := ⟨hst.out.1.trans (hal.mono hst.out.1.size), own_below hst.out.2 hal⟩
      obtain ⟨hi0, hz0, hz1, hz2⟩ := HI.out
      clear hcx hal hst
      go_wp2_with (at_builtin; refine wpList_append_lies _ rfl (.tmp 13) (.tmp 22) _ rfl w1.heap.size 64 i0 _ 2 16 Tryz.underlying114 hi0 hz0 hz1 hz2 rfl (by decide) u3 k (((E.take k).map takeX).flatMap tcells) rfl (own_below HN.out.2 ((Below.refl _ _).alloc (Nat.le_refl _) _)) ⟨wr.heap.size + 1, 0, none⟩ 1 1 [.int .i64 ((e1 : Int) - 288), .int .i64 e2] rfl rfl (World.news_of_block (cs := #[.int .i64 ((e1 : Int) - 288), .int .i64 e2]) (t := 64) (fr := (0, 0)) (by have hq_ := heap_alloc_new ((wr.alloc (.cells #[.int .i64 e0, .int .i64 e1, .int .i64 e2, .int .i64 e3] 66))) (.cells #[.int .i64 ((e1 : Int) - 288), .int .i64 e2] 64); rwa [World.size_alloc] at hq_)) (by simp [Value.oneCell']) (by omega) (by simp only [maxLen]; omega) (by omega) (by have hz_ := HN.out.1.size; rw [World.size_alloc]; omega) (wr.heap.size + 1 + 1) (by simp) ?_; intro g8 cap8 w8 hown8 hg8 hat8 hlt8)
      have hgW := grown_trans' ((Below.refl (wr.alloc (.cells #[.int .i64 e0, .int .i64 e1, .int .i64 e2, .int .i64 e3] 66)).heap.size (wr.alloc (.cells #[.int .i64 e0, .int .i64 e1, .int .i64 e2, .int .i64 e3] 66))).alloc (Nat.le_refl _) _) hg8
      have hB8 : Below w1.heap.size w1 w8 := HN.out.1.grown hgW HN.out.1.size (fun q hq => (HN.out.2.lt q hq).1)
      have HF : Hidden (Below w1.heap.size w1 w8 ∧ w8.ownsRow w1.heap.size 64 2 (.slice (some ⟨g8, 0, none⟩) (k + 1) cap8) (k + 1) (((E.take (k + 1)).map takeX).flatMap tcells)) := ⟨hB8, by rw [HS.out, HX.out]; simpa [tcells] using hown8⟩
      clear hgW hB8 hown8 hg8 hat8 hlt8 hi0 hz0 hz1 hz2
      go_roundg (m - (k + 1))
      case measure => omega
      case rel => exact ⟨k + 1, by omega, rfl, by go_num, HF⟩
    · obtain rfl : m = k := by omega
      obtain ⟨g, cap, hh, hcap, hrow, hF⟩ := (HP.out.below (HB.out.trans (hst.out.1.mono HB.out.size))).open_
      have s1 : IntKind.i64.wrap ((l.length : Int) - 288) = (l.length : Int) - 288 := IntWalk.i64_in _ (by omega)
      have hT := hst.out.2
      rw [List.take_of_length_le (by have := HM.out; omega), ← HT.out] at hT
      have HL : Hidden ((takenL l).length = m) := ⟨by rw [HT.out, List.length_map]; exact HM.out⟩
      obtain ⟨A3, c3, rfl, hc3, -⟩ := own_split hT
      have HF : Hidden (RdX tcells 2 wr A3 (takenL l) ∧ Below w.heap.size w wr) := ⟨own_rdX3 tcells_len HL.out hT, HB.out.trans (hst.out.1.mono HB.out.size)⟩
      clear hT hst hrow hF
      go_wp2_with fail
      go_ret2
      exact ⟨A3, m, c3, rfl, HL.out, hc3, HF.out.1, HF.out.2⟩
end
end Go.Proofs.YtbnobjlphmkgeaaGreatDoor
/- The heap: put, PutRoot, Free, Load. -/
namespace Go.Proofs.YtbnobjlphmkgeaaGreatDoor
open Go.RowKit

section
variable {w0 w : World} {F : Nat → Prop} {h : Nat} {l : Bytes}
/-- what a heap's block is, for a walk that stores into it -/
theorem Hp.head (hp : Hp w0 w F h l) : ∃ g cap, w.cell? ⟨h, 0, none⟩ = some (.slice (some ⟨g, 0, none⟩) l.length cap) ∧ w.frozen? ⟨h, 0, none⟩ = false ∧ l.length ≤ cap ∧ cap ≤ maxLen ∧ Row w 5 g cap l ∧ F g := by
  obtain ⟨g, cap, h1, h2, h3⟩ := hp.hd
  exact ⟨g, cap, by simp [World.cell?, h1], frozen_of_row _ h 0 _ _ h1, h2.le.1, h2.le.2, h2, h3⟩
set_option maxRecDepth 100000 in
theorem hput_ok (x : Int) (a m t : Int) (hp : Hp w0 w F h l) (hx : handleB x = true) (ht : tagB t = true) (hm : lenB m = true) (hw : withinB l.length a m = true) :
    Calls Tryz.prog 69 #[.pointer (some ⟨h, 0, none⟩), .agg #[.int .i64 x, .int .i64 a, .int .i64 m, .int .i64 t]] w fun e w' => e = .returned .nilIface ∧ ∃ F', HpM w0 w w' F F' h (putEnt l x a m t) := by
  obtain ⟨g, cap, c0, -, hcap, -, hrow, hF⟩ := hp.head
  have hb := rightB_true.1 hp.len
  have hhb := handleB_true.1 hx
  have hal := (Below.refl w.heap.size w).alloc (Nat.le_refl _) (.cells #[.int .i64 x, .int .i64 a, .int .i64 m, .int .i64 t] 66)
  have hlen : (putEnt l x a m t).length = l.length := putEnt_len l x a m t hhb.1 hhb.2 (by omega)
  have HC := Hidden.mk (fun (W : World) (hW : Below w.heap.size w W) => iput_ok (some ⟨g, 0, none⟩) l.length cap l x a m t W rfl hcap (hrow.rd.below hW) hp.len hx ht hm hw)
  have hf := fourAt_one w x a m t 66
  have hc1 := (hal.cell (p := ⟨h, 0, none⟩) (block_lt_of_cell c0)).trans c0
  have HP := Hidden.mk hp
  have HAL := Hidden.mk hal
  have HLEN := Hidden.mk hlen
  generalize putEnt l x a m t = l' at *
  clear hp hrow hal hlen hx ht hm hw c0
  unfold entV at HC
  go_enter Tryz.func69, Tryz.ntmps69
  go_wp2_with fail
  generalize w.alloc (.cells #[.int .i64 x, .int .i64 a, .int .i64 m, .int .i64 t] 66) = w1 at *
  have KF := Hidden.mk hf
  have KC := Hidden.mk hc1
  have KL := Hidden.mk (And.intro (block_lt_of_cell hc1) (block_lt_of_cell hf.1))
  clear hf hc1
  go_region_held3 (fun W => W.cell? ⟨h, 0, none⟩ = some (.slice (some ⟨g, 0, none⟩) l.length cap) ∧ W.cell? ⟨w.heap.size, 0, none⟩ = some (.int .i64 x) ∧ W.cell? ⟨w.heap.size, 1, none⟩ = some (.int .i64 a) ∧ W.cell? ⟨w.heap.size, 2, none⟩ = some (.int .i64 m) ∧ W.cell? ⟨w.heap.size, 3, none⟩ = some (.int .i64 t)) (first | exact ⟨KC.out, KF.out⟩ | exact ⟨(hb2.cell (p := ⟨h, 0, none⟩) KL.out.1).trans KC.out, (hb2.cell (p := ⟨w.heap.size, 0, none⟩) KL.out.2).trans KF.out.1, (hb2.cell (p := ⟨w.heap.size, 1, none⟩) KL.out.2).trans KF.out.2.1, (hb2.cell (p := ⟨w.heap.size, 2, none⟩) KL.out.2).trans KF.out.2.2.1, (hb2.cell (p := ⟨w.heap.size, 3, none⟩) KL.out.2).trans KF.out.2.2.2⟩)
    ((go_at_call 126; refine (HC.out _ (HAL.out.trans ((Below.refl _ _).drew.mono HAL.out.size))).mono ?_; rintro e w2 ⟨g', cap', rfl, hg', hrow', hb2⟩))
  all_goals
    have hb2 : Below w1.heap.size w1 w2 := ((Below.refl _ _).drew).trans hb2
    have hB2 := HAL.out.trans (hb2.mono HAL.out.size)
    have hP2 := HP.out.below hB2
    obtain ⟨g2, cap2, y0, yf, -, -, -, -⟩ := hP2.head
    have hs := hP2.set hrow' (by rw [HLEN.out]; exact HP.out.len) (Nat.le_trans HP.out.bel.size (Nat.le_trans HAL.out.size hg'))
    rw [HLEN.out] at hs
    have HS := Hidden.mk (HpM.mk hs.1 ((Keep.of_below (F := F) hB2).trans hs.2 (fun k hk => .inl hk)) (fun k hk => by
      rcases hk with hk | rfl
      · exact .inl hk
      · exact .inr (Nat.le_trans HAL.out.size hg')))
    clear hs hP2 hB2 hb2 hrow' HC
    go_wp2_with fail
    go_ret
    exact ⟨rfl, _, HS.out⟩
/-- a root as it is put: what stands there then -/
def putRo (s : Bytes) (x : Int) : Bytes := if s = [] ∧ x = 0 then List.replicate 11 0 else rootB s x
set_option maxRecDepth 100000 in
theorem hroot_ok (i : Nat) (s : Bytes) (x : Int) (hp : Hp w0 w F h l) (hi : i < 8) (hs : (s = [] ∧ x = 0) ∨ (handleB x = true ∧ isName s = true)) :
    Calls Tryz.prog 84 #[.pointer (some ⟨h, 0, none⟩), .int .i64 (i : Int), .agg #[sv s, .int .i64 x]] w fun e w' => e = .returned .nilIface ∧ ∃ F', HpM w0 w w' F F' h (splice l (200 + 11 * i) (putRo s x)) := by
  obtain ⟨g, cap, c0, -, hcap, -, hrow, hF⟩ := hp.head
  have hb := rightB_true.1 hp.len
  have hal := (Below.refl w.heap.size w).alloc (Nat.le_refl _) (.cells #[sv s, .int .i64 x] 128)
  have hlen : (splice l (200 + 11 * i) (putRo s x)).length = l.length := by
    rw [splice_len]
    have : (putRo s x).length = 11 := by
      unfold putRo
      split
      · simp
      · rename_i hn
        rcases hs with hs | ⟨-, hs⟩
        · exact absurd hs hn
        · unfold rootB; rw [List.length_append, nameB_len s hs]; rfl
    omega
  have HC : Hidden (∀ W, Below w.heap.size w W → Calls Tryz.prog 154 #[.slice (some ⟨g, 0, none⟩) l.length cap, .int .i64 (i : Int), .agg #[sv s, .int .i64 x]] W fun e w' => ∃ g' cap', e = .returned (.tuple #[.slice (some ⟨g', 0, none⟩) l.length cap', .nilIface]) ∧ W.heap.size ≤ g' ∧ Row w' 5 g' cap' (splice l (200 + 11 * i) (putRo s x)) ∧ Below W.heap.size W w') := ⟨fun W hW => by
    unfold putRo
    rcases hs with ⟨rfl, rfl⟩ | ⟨h1, h2⟩
    · rw [if_pos ⟨rfl, rfl⟩, ← rootO_k]
      exact root_zero (some ⟨g, 0, none⟩) l.length cap l i _ rfl hcap (hrow.rd.below hW) hp.len (by omega) (by omega)
    · have hx := handleB_true.1 h1
      rw [if_neg (by omega), ← rootO_k]
      exact root_ok (some ⟨g, 0, none⟩) l.length cap l i s x _ rfl (hrow.rd.below hW) hp.len (by omega) (by omega) h1 h2⟩
  have hbk := heap_alloc_new w (.cells #[sv s, .int .i64 x] 128)
  have hf : (w.alloc (.cells #[sv s, .int .i64 x] 128)).cell? ⟨w.heap.size, 0, none⟩ = some (sv s) ∧ (w.alloc (.cells #[sv s, .int .i64 x] 128)).cell? ⟨w.heap.size, 1, none⟩ = some (.int .i64 x) := ⟨by simp only [World.cell?]; rw [hbk]; rfl, by simp only [World.cell?]; rw [hbk]; rfl⟩
  have hc1 := (hal.cell (p := ⟨h, 0, none⟩) (block_lt_of_cell c0)).trans c0
  have HP := Hidden.mk hp
  have HAL := Hidden.mk hal
  have HLEN := Hidden.mk hlen
  generalize splice l (200 + 11 * i) (putRo s x) = l' at *
  clear hp hrow hal hlen hs c0 hbk
  go_enter Tryz.func84, Tryz.ntmps84
  go_wp2_with fail
  generalize w.alloc (.cells #[sv s, .int .i64 x] 128) = w1 at *
  have KF := Hidden.mk hf
  have KC := Hidden.mk hc1
  have KL := Hidden.mk (And.intro (block_lt_of_cell hc1) (block_lt_of_cell hf.1))
  clear hf hc1
  go_region_held3 (fun W => W.cell? ⟨h, 0, none⟩ = some (.slice (some ⟨g, 0, none⟩) l.length cap) ∧ W.cell? ⟨w.heap.size, 0, none⟩ = some (sv s) ∧ W.cell? ⟨w.heap.size, 1, none⟩ = some (.int .i64 x)) (first | exact ⟨KC.out, KF.out⟩ | exact ⟨(hb2.cell (p := ⟨h, 0, none⟩) KL.out.1).trans KC.out, (hb2.cell (p := ⟨w.heap.size, 0, none⟩) KL.out.2).trans KF.out.1, (hb2.cell (p := ⟨w.heap.size, 1, none⟩) KL.out.2).trans KF.out.2⟩)
    ((go_at_call 154; refine (HC.out _ (HAL.out.trans ((Below.refl _ _).drew.mono HAL.out.size))).mono ?_; rintro e w2 ⟨g', cap', rfl, hg', hrow', hb2⟩))
  all_goals
    have hb2 : Below w1.heap.size w1 w2 := ((Below.refl _ _).drew).trans hb2
    have hB2 := HAL.out.trans (hb2.mono HAL.out.size)
    have hP2 := HP.out.below hB2
    obtain ⟨g2, cap2, y0, yf, -, -, -, -⟩ := hP2.head
    have hs := hP2.set hrow' (by rw [HLEN.out]; exact HP.out.len) (Nat.le_trans HP.out.bel.size (Nat.le_trans HAL.out.size hg'))
    rw [HLEN.out] at hs
    have HS := Hidden.mk (HpM.mk hs.1 ((Keep.of_below (F := F) hB2).trans hs.2 (fun k hk => .inl hk)) (fun k hk => by
      rcases hk with hk | rfl
      · exact .inl hk
      · exact .inr (Nat.le_trans HAL.out.size hg')))
    clear hs hP2 hB2 hb2 hrow' HC
    go_wp2_with fail
    go_ret
    exact ⟨rfl, _, HS.out⟩
/-- the fault of Free; the image behind it -/
def freeE (l : Bytes) (x : Int) : Nat := if hE l x ≠ 0 then hE l x else if (rootsL l).any (fun r => (r.2 : Int) == x) = true then 7 else 0
def freeL (l : Bytes) (x : Int) : Bytes := if freeE l x = 0 then splice l (5 * (x - 1).toNat) (List.replicate 5 0) else l
set_option maxRecDepth 100000 in
theorem hfree_any (x : Int) (hp : Hp w0 w F h l) :
    Calls Tryz.prog 15 #[.pointer (some ⟨h, 0, none⟩), .int .i64 x] w fun e w' => e = .returned (errV (freeE l x)) ∧ ∃ F', HpM w0 w w' F F' h (freeL l x) := by
  obtain ⟨g, cap, c0, -, hcap, -, hrow, hF⟩ := hp.head
  have hb := rightB_true.1 hp.len
  have hal := (Below.refl w.heap.size w).alloc (Nat.le_refl _) (.cells #[.int .i64 x] 3)
  have hbx : (w.alloc (.cells #[.int .i64 x] 3)).heap[w.heap.size]? = some (.cells #[.int .i64 x] 3 (0, 0)) := heap_alloc_new w _
  by_cases h0 : hE l x = 0
  · obtain ⟨k, hk, rfl, hh, hr⟩ := hE_zero h0
    have hlen : (splice l (5 * k) (List.replicate 5 0)).length = l.length := by rw [splice_len]; simp; omega
    have hk1 : ((k : Int) + 1 - 1).toNat = k := by omega
    have HC := Hidden.mk (fun (W : World) (hW : Below w.heap.size w W) => idrop_ok (some ⟨g, 0, none⟩) l.length cap l k W rfl hp.len hcap (hrow.rd.below hW) hk hh)
    have hc1 := (hal.cell (p := ⟨h, 0, none⟩) (block_lt_of_cell c0)).trans c0
    have hf : (w.alloc (.cells #[.int .i64 ((k : Int) + 1)] 3)).cell? ⟨w.heap.size, 0, none⟩ = some (.int .i64 ((k : Int) + 1)) := by simp only [World.cell?]; rw [hbx]; rfl
    have HP := Hidden.mk hp
    have HAL := Hidden.mk hal
    have HLEN := Hidden.mk hlen
    have HBX := Hidden.mk hbx
    have HE : Hidden (freeE l ((k : Int) + 1) = if (rootsL l).any (fun r => (r.2 : Int) == (k : Int) + 1) = true then 7 else 0) := ⟨by unfold freeE; rw [if_neg (by rw [h0]; simp)]⟩
    have HL : Hidden (freeL l ((k : Int) + 1) = if freeE l ((k : Int) + 1) = 0 then splice l (5 * k) (List.replicate 5 0) else l) := ⟨by unfold freeL; rw [hk1]⟩
    have HRL : Hidden ((rootsL l).length ≤ 8) := ⟨rootsF_len _ _⟩
    have HRT : Hidden (∀ W, Hp w0 W F h l → Calls Tryz.prog 74 #[.pointer (some ⟨h, 0, none⟩)] W fun e w' => ∃ v, e = .returned v ∧ w'.ownsRow W.heap.size 128 2 v (rootsL l).length ((rootsL l).flatMap rcells) ∧ Below W.heap.size W w') := ⟨fun W hW => hroots_any hW⟩
    generalize hl' : splice l (5 * k) (List.replicate 5 0) = l' at *
    generalize rootsL l = RL at *
    generalize freeE l ((k : Int) + 1) = fe at *
    generalize freeL l ((k : Int) + 1) = fl at *
    have HK : Hidden (k = k) := ⟨rfl⟩
    clear hp hrow hal hlen hbx hl' hk1 h0 hr c0
    go_enter Tryz.func15, Tryz.ntmps15
    go_wp2_with fail
    generalize w.alloc (.cells #[.int .i64 ((k : Int) + 1)] 3) = w1 at *
    have KF := Hidden.mk hf
    have KC := Hidden.mk hc1
    have KL := Hidden.mk (And.intro (block_lt_of_cell hc1) (block_lt_of_cell hf))
    clear hf hc1
    go_region_held3 (fun W => W.cell? ⟨h, 0, none⟩ = some (.slice (some ⟨g, 0, none⟩) l.length cap) ∧ W.cell? ⟨w.heap.size, 0, none⟩ = some (.int .i64 ((k : Int) + 1))) (first | exact ⟨KC.out, KF.out⟩ | exact ⟨(hb2.cell (p := ⟨h, 0, none⟩) KL.out.1).trans KC.out, (hb2.cell (p := ⟨w.heap.size, 0, none⟩) KL.out.2).trans KF.out⟩)
      ((go_at_call 72; refine (HC.out _ (HAL.out.trans ((Below.refl _ _).drew.mono HAL.out.size))).mono ?_; rintro e w2 ⟨g', cap', rfl, hg', hrow', hb2⟩))
    all_goals
      have hb2 : Below w1.heap.size w1 w2 := ((Below.refl _ _).drew).trans hb2
      have HB2 := Hidden.mk (HAL.out.trans (hb2.mono HAL.out.size))
      have HBX2 := Hidden.mk ((hb2.block _ (Array.getElem?_eq_some_iff.1 HBX.out).1).trans HBX.out)
      have HR2 := Hidden.mk hrow'
      clear hb2 hrow' HBX HC
      go_wp2_with fail
      refine (HRT.out _ (HP.out.below HB2.out)).mono ?_
      rintro e w3 ⟨v, rfl, hown, hb3⟩
      have hB3 := HB2.out.trans (hb3.mono HB2.out.size)
      have hP3 := HP.out.below hB3
      have HBX3 := Hidden.mk ((hb3.block _ (Array.getElem?_eq_some_iff.1 HBX2.out).1).trans HBX2.out)
      have hR3 := HR2.out.block (hb3.block _ HR2.out.lt)
      obtain ⟨A3, c3, rfl, hc3, -⟩ := own_split hown
      have HCF := Hidden.mk (cfR_free (fun r => (r.2 : Int) == (k : Int) + 1) A3 RL.length c3 RL (.pointer (some ⟨w.heap.size, 0, none⟩)) w3 rfl (by have := HRL.out; omega) (own_rdX3 (f := rcells) (fun _ => rfl) rfl hown)
        (fun y _ W hW => root1_free y ((k : Int) + 1) w.heap.size W (by have := (hW.block _ (Array.getElem?_eq_some_iff.1 HBX3.out).1).trans HBX3.out; simp [World.cell?, this])))
      have H3 := Hidden.mk (And.intro hB3 (And.intro hP3 hR3))
      clear hown hb3 hB3 hP3 hR3 HB2 HR2 HBX2
      go_wp2_with fail
      refine HCF.out.mono ?_
      rintro e w4 ⟨rfl, hb4⟩
      have hB4 := H3.out.1.trans (hb4.mono H3.out.1.size)
      have hP4 := H3.out.2.1.below hb4
      have hR4 := H3.out.2.2.block (hb4.block _ H3.out.2.2.lt)
      cases ha : RL.any (fun r => (r.2 : Int) == (k : Int) + 1) with
      | true =>
        have hfe : fe = 7 := by rw [HE.out, if_pos ha]
        have hfl : fl = l := by rw [HL.out, hfe]; rfl
        have HF := Hidden.mk (HP.out.same hB4)
        subst hfe hfl
        clear hb4 hB4 hP4 hR4 HE HL
        go_wp2_with fail
        go_ret
        exact ⟨rfl, _, HF.out⟩
      | false =>
        have hfe : fe = 0 := by rw [HE.out, if_neg (by rw [ha]; decide)]
        have hfl : fl = l' := by rw [HL.out, hfe]; rfl
        obtain ⟨g2, cap2, y0, yf, -, -, -, -⟩ := hP4.head
        have hs := hP4.set hR4 (by rw [HLEN.out]; exact HP.out.len) (Nat.le_trans HP.out.bel.size (Nat.le_trans HAL.out.size hg'))
        rw [HLEN.out] at hs
        have HF := Hidden.mk (HpM.mk hs.1 ((Keep.of_below (F := F) hB4).trans hs.2 (fun k hk => .inl hk)) (fun k hk => by
          rcases hk with hk | rfl
          · exact .inl hk
          · exact .inr (Nat.le_trans HAL.out.size hg')))
        subst hfe hfl
        clear hb4 hB4 hP4 hR4 HE HL hs ha
        go_wp2_with fail
        go_ret
        exact ⟨rfl, _, HF.out⟩
  · have HC : Hidden (∀ W, Below w.heap.size w W → Calls Tryz.prog 72 #[.slice (some ⟨g, 0, none⟩) l.length cap, .int .i64 x] W fun e w' => e = .returned (.tuple #[.slice none 0 0, .iface 111 (.int .i64 (hE l x : Int))]) ∧ Below W.heap.size W w') := ⟨fun W hW => idrop_e _ _ _ _ _ _ ((iget_ans (some ⟨g, 0, none⟩) l.length cap l x _ rfl hp.len hcap (hrow.rd.below hW)).mono fun e w' ⟨he, hb'⟩ => ⟨by
      rw [he]
      unfold gH gA gL gT errV
      rw [if_neg h0, if_neg h0, if_neg h0, if_neg h0, if_neg h0], hb'⟩)⟩
    have hc1 := (hal.cell (p := ⟨h, 0, none⟩) (block_lt_of_cell c0)).trans c0
    have hf : (w.alloc (.cells #[.int .i64 x] 3)).cell? ⟨w.heap.size, 0, none⟩ = some (.int .i64 x) := by simp only [World.cell?]; rw [hbx]; rfl
    have hfe : freeE l x = hE l x := by unfold freeE; rw [if_pos h0]
    have hfl : freeL l x = l := by unfold freeL; rw [if_neg (by rw [hfe]; exact h0)]
    have hev : errV (hE l x) = .iface 111 (.int .i64 (hE l x)) := by unfold errV; rw [if_neg h0]
    rw [hfe, hfl, hev]
    have HP := Hidden.mk hp
    have HAL := Hidden.mk hal
    generalize (hE l x : Int) = q at *
    clear hp hrow hal hbx hfe hfl hev h0 c0
    go_enter Tryz.func15, Tryz.ntmps15
    go_wp2_with fail
    generalize w.alloc (.cells #[.int .i64 x] 3) = w1 at *
    have KF := Hidden.mk hf
    have KC := Hidden.mk hc1
    have KL := Hidden.mk (And.intro (block_lt_of_cell hc1) (block_lt_of_cell hf))
    clear hf hc1
    go_region_held3 (fun W => W.cell? ⟨h, 0, none⟩ = some (.slice (some ⟨g, 0, none⟩) l.length cap) ∧ W.cell? ⟨w.heap.size, 0, none⟩ = some (.int .i64 x)) (first | exact ⟨KC.out, KF.out⟩ | exact ⟨(hb2.cell (p := ⟨h, 0, none⟩) KL.out.1).trans KC.out, (hb2.cell (p := ⟨w.heap.size, 0, none⟩) KL.out.2).trans KF.out⟩)
      ((go_at_call 72; refine (HC.out _ (HAL.out.trans ((Below.refl _ _).drew.mono HAL.out.size))).mono ?_; rintro e w2 ⟨rfl, hb2⟩))
    all_goals
      have hb2 : Below w1.heap.size w1 w2 := ((Below.refl _ _).drew).trans hb2
      have HF := Hidden.mk (HP.out.same (HAL.out.trans (hb2.mono HAL.out.size)))
      clear hb2 HC
      go_wp2_with fail
      go_ret
      exact ⟨rfl, _, HF.out⟩
end
theorem hload_ok (A : Option Addr) (n c : Nat) (l : Bytes) (w0 w : World) (hn : l.length = n) (hg : Good l) (hnc : n ≤ c) (hrd : Rd w A l) (hb0 : Below w0.heap.size w0 w) :
    Calls Tryz.prog 9 #[.slice A n c] w fun e w' => ∃ h F, e = .returned (.tuple #[.pointer (some ⟨h, 0, none⟩), .nilIface]) ∧ Hp w0 w' F h l ∧ Below w.heap.size w w' ∧ ∀ k, F k → w.heap.size ≤ k := by
  subst hn
  have hb := hg.bd
  obtain ⟨p, off, rfl, hlt⟩ := hrd.lt (by omega)
  have HC := Hidden.mk (fine_t (some ⟨p, off, none⟩) l.length c l w rfl hg.len hnc hrd hg.chk)
  have HCL : Hidden (∀ W, Below w.heap.size w W → Calls Tryz.prog 57 #[.slice (some ⟨p, off, none⟩) l.length c] W fun e w' => ∃ g cap, e = .returned (.slice (some ⟨g, 0, none⟩) l.length cap) ∧ W.heap.size ≤ g ∧ Row w' 5 g cap l ∧ Below W.heap.size W w') := ⟨fun W hW => clone_some ⟨p, off, none⟩ l.length c l W rfl (by omega) (hrd.below hW)⟩
  have HR := Hidden.mk hg.len
  have HB0 := Hidden.mk hb0
  clear hrd hg hb0
  go_enter Tryz.func9, Tryz.ntmps9
  go_wp2_with fail
  refine HC.out.mono ?_
  rintro e w1 ⟨rfl, hb1⟩
  have HB1 := Hidden.mk hb1
  clear hb1
  go_wp2_with fail
  refine (HCL.out _ HB1.out).mono ?_
  rintro e w2 ⟨g, cap, rfl, hg, hrow, hb2⟩
  have hB2 := HB1.out.trans (hb2.mono HB1.out.size)
  have hglt := hrow.lt
  have hB02 := HB0.out.trans (hB2.mono HB0.out.size)
  have hgw : w.heap.size ≤ g := Nat.le_trans HB1.out.size hg
  have hP : Hp w0 (w2.alloc (.cells #[.slice (some ⟨g, 0, none⟩) l.length cap] 110)) (fun k => k = w2.heap.size ∨ k = g) w2.heap.size l :=
    ⟨⟨g, cap, heap_alloc_new w2 _, hrow.block (Below.heap_alloc _ _ _ hglt), .inr rfl⟩, .inl rfl, HR.out,
      fun k hk => by rcases hk with rfl | rfl; exact hB02.size; exact Nat.le_trans HB0.out.size hgw, fun k hk => by simp; omega, hB02.alloc hB02.size _⟩
  have HF := Hidden.mk (And.intro hP (And.intro (hB2.alloc hB2.size (.cells #[.slice (some ⟨g, 0, none⟩) l.length cap] 110)) (show ∀ k, (k = w2.heap.size ∨ k = g) → w.heap.size ≤ k from fun k hk => by rcases hk with rfl | rfl; exact hB2.size; exact hgw)))
  clear hP hB2 hb2 hrow hB02 HC HCL
  go_wp2_with fail
  go_ret2
  exact ⟨_, _, rfl, HF.out.1, HF.out.2.1, HF.out.2.2⟩
end Go.Proofs.YtbnobjlphmkgeaaGreatDoor
/- The reference's Fine and Mend; an image that is loaded. -/
namespace Go.Proofs.YtbnobjlphmkgeaaGreatDoor
open Go.RowKit

def fineE (l : Bytes) : Nat := if rightB l.length = false then 3 else if checkL l = [] then 0 else 6
end Go.Proofs.YtbnobjlphmkgeaaGreatDoor
/- The reference on images: PutRoot. -/
namespace Go.Proofs.YtbnobjlphmkgeaaGreatDoor
open Go.RowKit

end Go.Proofs.YtbnobjlphmkgeaaGreatDoor
/- Names that lead: root.Get; the reference's Lead and Object. -/
namespace Go.Proofs.YtbnobjlphmkgeaaGreatDoor
open Go.RowKit

/-- where a name leads first; 0: nowhere -/
def leadR (L : List (Bytes × Nat)) (s : Bytes) : Nat := match L.find? (fun r => r.1 == s) with
  | none => 0
  | some r => r.2
theorem leadR_none {L : List (Bytes × Nat)} {s : Bytes} (h : ∀ x ∈ L, (x.1 == s) = false) : leadR L s = 0 := by
  unfold leadR
  rw [List.find?_eq_none.2 (fun x hx => by rw [h x hx]; decide)]
theorem good_roots {l : Bytes} (hg : Good l) {r : Bytes × Nat} (h : r ∈ rootsL l) : 1 ≤ r.2 ∧ r.2 ≤ 40 ∧ hE l r.2 = 0 := by
  unfold rootsL rootsF at h
  simp only [List.mem_map, List.mem_filter, List.mem_range, Bool.not_eq_true'] at h
  obtain ⟨i, ⟨hi, hz⟩, rfl⟩ := h
  have hb := badR_lead (hg.s.root i hi hz)
  obtain ⟨k, hk, hh, hx⟩ := leadsS_iff.1 hb
  have he := (hE_has hk hh).1
  simp only [rootP]
  rw [hx]
  exact ⟨by omega, by omega, by simpa using he⟩
section
variable {w0 w : World} {F : Nat → Prop} {h : Nat} {l : Bytes}
end
/-- an object's tag, and its bytes, as the reference tells them -/
def objT (l : Bytes) (k : Nat) : Int := if hasE (rawE l k) = true then rTag (rawE l k) else -1
def objS (l : Bytes) (k : Nat) : Bytes := if hasE (rawE l k) = true then (l.drop (rAt (rawE l k))).take (rLen (rawE l k)) else []
end Go.Proofs.YtbnobjlphmkgeaaGreatDoor
/- The contract of extent.Stat. -/
namespace Go.Proofs.YtbnobjlphmkgeaaGreatDoor
open Go.RowKit

def sumX (l : List Ext) : Int := l.foldl (fun s e => s + e.2) 0
end Go.Proofs.YtbnobjlphmkgeaaGreatDoor
/- Extents, the plain law: what is free between extents that are right. No walk here. -/
namespace Go.Proofs.YtbnobjlphmkgeaaGreatDoor
open Go.RowKit

/-- behind each other, from a to n -/
def Tidy : Int → List Ext → Int → Prop
  | a, [], n => a ≤ n
  | a, e :: r, n => a ≤ e.1 ∧ 1 ≤ e.2 ∧ Tidy (e.1 + e.2) r n
theorem hitX_symm (e o : Ext) : hitX e o = hitX o e := by unfold hitX; rw [Bool.and_comm]
theorem chkX_pair {n : Int} {l : List Ext} (h : chkX n l = 0) : l.Pairwise (fun a b => hitX a b = false) := by
  obtain ⟨_, _, _, _, h5⟩ := chkX_ok h
  rw [List.pairwise_iff_getElem]
  intro i j hi hj hij
  have h2 := (h5 j hj).2
  rw [List.any_eq_false] at h2
  have hm : l[i] ∈ l.take j := by
    rw [List.mem_take_iff_getElem]
    exact ⟨i, by omega, rfl⟩
  have := h2 _ hm
  rw [hitX_symm]
  simpa using this
theorem loopX_of (n : Int) (l : List Ext) : ∀ k, k ≤ l.length → (∀ j (hj : j < l.length), j < k → badX n l[j] = false ∧ (l.take j).any (hitX l[j]) = false) → loopX n l k = 0
  | 0, _, _ => rfl
  | k + 1, hk, h => by
    have h0 := loopX_of n l k (by omega) (fun j hj hjk => h j hj (by omega))
    obtain ⟨h1, h2⟩ := h k (by omega) (by omega)
    rw [loopX, if_pos h0]
    have hg : l.getD k (0, 0) = l[k] := by simp [show k < l.length by omega]
    rw [hg]
    unfold faultX
    rw [h1, h2]; rfl
theorem chkX_of {n : Int} {l : List Ext} (h0 : 0 ≤ n) (h1 : n ≤ 6400) (h2 : l.length ≤ 200) (hb : ∀ e ∈ l, badX n e = false) (hp : l.Pairwise (fun a b => hitX a b = false)) : chkX n l = 0 := by
  unfold chkX
  rw [if_neg (by omega), if_neg (by omega)]
  refine loopX_of n l _ (Nat.le_refl _) fun j hj _ => ⟨hb _ (List.getElem_mem hj), ?_⟩
  rw [List.any_eq_false]
  intro x hx
  rw [List.mem_take_iff_getElem] at hx
  obtain ⟨i, hi, rfl⟩ := hx
  rw [List.pairwise_iff_getElem] at hp
  have := hp i j (by omega) hj (by omega)
  rw [hitX_symm]
  simpa using this
theorem badX_of {n : Int} {e : Ext} (h : 1 ≤ e.2 ∧ 0 ≤ e.1 ∧ e.1 + e.2 ≤ n) : badX n e = false := by
  unfold badX
  simp only [Bool.or_eq_false_iff, decide_eq_false_iff_not]
  omega
theorem hitX_false {e o : Ext} : hitX e o = false ↔ (o.1 + o.2 ≤ e.1 ∨ e.1 + e.2 ≤ o.1) := by
  unfold hitX
  simp only [Bool.and_eq_false_iff, decide_eq_false_iff_not]
  omega
theorem tidy_mk (n : Int) : ∀ (S : List Ext) (a : Int), (∀ e ∈ S, a ≤ e.1 ∧ 1 ≤ e.2 ∧ e.1 + e.2 ≤ n) → S.Pairwise (fun x y => x.1 + x.2 ≤ y.1) → a ≤ n → Tidy a S n
  | [], _, _, _, h => h
  | e :: r, a, hb, hp, _ => by
    obtain ⟨h1, h2, h3⟩ := hb e (List.mem_cons_self ..)
    rw [List.pairwise_cons] at hp
    exact ⟨h1, h2, tidy_mk n r _ (fun x hx => by have := hb x (List.mem_cons_of_mem _ hx); have := hp.1 x hx; omega) hp.2 (by omega)⟩
theorem tidy_of {n : Int} {l : List Ext} (h : chkX n l = 0) : Tidy 0 (sortE l) n := by
  obtain ⟨h0, h1, h2, _, h5⟩ := chkX_ok h
  have hbad : ∀ e ∈ sortE l, badX n e = false := fun e he => by
    obtain ⟨j, hj, rfl⟩ := List.getElem_of_mem ((sortE_perm l).mem_iff.1 he)
    exact (h5 j hj).1
  refine tidy_mk n _ 0 (fun e he => by have := badX_false (hbad e he); omega) ?_ h0
  have hp : (sortE l).Pairwise (fun a b => hitX a b = false) := ((sortE_perm l).pairwise_iff (fun {x y} h => by rw [hitX_symm]; exact h)).2 (chkX_pair h)
  rw [List.pairwise_iff_getElem] at hp ⊢
  have hs := sortE_sorted l
  rw [List.pairwise_iff_getElem] at hs
  intro i j hi hj hij
  have a1 := hitX_false.1 (hp i j hi hj hij)
  have a2 := hs i j hi hj hij
  have a3 := badX_false (hbad _ (List.getElem_mem hi))
  have a4 := badX_false (hbad _ (List.getElem_mem hj))
  omega
theorem tidy_le : ∀ {S : List Ext} {a n : Int}, Tidy a S n → a ≤ n
  | [], _, _, h => h
  | e :: r, a, n, ⟨h1, h2, h3⟩ => by have := tidy_le h3; omega
theorem tidy_mem : ∀ {S : List Ext} {a n : Int}, Tidy a S n → ∀ e ∈ S, a ≤ e.1 ∧ 1 ≤ e.2 ∧ e.1 + e.2 ≤ n
  | e :: r, a, n, ⟨h1, h2, h3⟩, x, hx => by
    rcases List.mem_cons.1 hx with rfl | hx
    · exact ⟨h1, h2, tidy_le h3⟩
    · have := tidy_mem h3 x hx; omega
/-- holes of a tidy list, with its end -/
def runsX (a : Int) (S : List Ext) (n : Int) : List Ext := holesGo a (S ++ [(n, 0)])
theorem runsX_nil (a n : Int) : runsX a [] n = if a < n then [(a, n - a)] else [] := by
  unfold runsX
  simp [holesGo]
theorem runsX_cons (a : Int) (e : Ext) (r : List Ext) (n : Int) : runsX a (e :: r) n = (if a < e.1 then [(a, e.1 - a)] else []) ++ runsX (e.1 + e.2) r n := rfl
theorem runs_mem : ∀ {S : List Ext} {a n : Int}, Tidy a S n → ∀ h ∈ runsX a S n, a ≤ h.1 ∧ 1 ≤ h.2 ∧ h.1 + h.2 ≤ n ∧ ∀ e ∈ S, h.1 + h.2 ≤ e.1 ∨ e.1 + e.2 ≤ h.1
  | [], a, n, ht, h, hh => by
    rw [runsX_nil] at hh
    split at hh
    · rw [List.mem_singleton.1 hh]
      dsimp only
      exact ⟨by omega, by omega, by omega, fun e he => by cases he⟩
    · cases hh
  | e :: r, a, n, ⟨h1, h2, h3⟩, h, hh => by
    rw [runsX_cons] at hh
    rcases List.mem_append.1 hh with hh | hh
    · split at hh
      · rw [List.mem_singleton.1 hh]
        have := tidy_le h3
        dsimp only
        refine ⟨by omega, by omega, by omega, fun x hx => .inl ?_⟩
        rcases List.mem_cons.1 hx with rfl | hx
        · omega
        · have := tidy_mem h3 x hx; omega
      · cases hh
    · obtain ⟨i1, i2, i3, i4⟩ := runs_mem h3 h hh
      refine ⟨by omega, i2, i3, fun x hx => ?_⟩
      rcases List.mem_cons.1 hx with rfl | hx
      · right; omega
      · exact i4 x hx
theorem runs_pair : ∀ {S : List Ext} {a n : Int}, Tidy a S n → (runsX a S n).Pairwise (fun x y => x.1 + x.2 ≤ y.1)
  | [], a, n, _ => by
    rw [runsX_nil]; split <;> simp
  | e :: r, a, n, ⟨h1, h2, h3⟩ => by
    rw [runsX_cons]
    have ih := runs_pair h3
    split
    · refine List.Pairwise.cons (fun x hx => ?_) ih
      have := runs_mem h3 x hx
      dsimp only
      omega
    · exact ih
theorem foldl_sum (l : List Ext) : ∀ s : Int, l.foldl (fun s e => s + e.2) s = s + l.foldl (fun s e => s + e.2) 0 := by
  induction l with
  | nil => intro s; simp
  | cons x l ih => intro s; rw [List.foldl_cons, ih, List.foldl_cons, ih (0 + x.2)]; omega
theorem sumX_cons (e : Ext) (l : List Ext) : sumX (e :: l) = e.2 + sumX l := by
  unfold sumX; rw [List.foldl_cons, foldl_sum]; omega
theorem bestX_snoc (size : Int) (H : List Ext) (x : Ext) : bestX size (H ++ [x]) = if size ≤ x.2 ∧ ((bestX size H).2 = 0 ∨ x.2 < (bestX size H).2) then x else bestX size H := by
  unfold bestX; rw [List.foldl_append]; rfl
theorem snocE {p : List Ext → Prop} (h0 : p []) (h1 : ∀ L x, p L → p (L ++ [x])) (L : List Ext) : p L := by
  rw [← List.reverse_reverse L]
  induction L.reverse with
  | nil => exact h0
  | cons x L ih => rw [List.reverse_cons]; exact h1 _ _ ih
theorem best_inv (size : Int) (h1 : 1 ≤ size) (H : List Ext) : (bestX size H = (0, 0) ∧ ∀ h ∈ H, h.2 < size) ∨ (bestX size H ∈ H ∧ size ≤ (bestX size H).2 ∧ ∀ h ∈ H, size ≤ h.2 → (bestX size H).2 ≤ h.2) := by
  induction H using snocE with
  | h0 => exact .inl ⟨rfl, fun h hh => by cases hh⟩
  | h1 L x ih =>
    rw [bestX_snoc]
    rcases ih with ⟨e, hall⟩ | ⟨hm, hs, hall⟩
    · rw [e]
      by_cases hx : size ≤ x.2
      · rw [if_pos ⟨hx, .inl rfl⟩]
        refine .inr ⟨by simp, hx, fun h hh hsz => ?_⟩
        rcases List.mem_append.1 hh with hh | hh
        · have := hall h hh; omega
        · rw [List.mem_singleton.1 hh]; exact Int.le_refl _
      · rw [if_neg (fun h => hx h.1)]
        refine .inl ⟨rfl, fun h hh => ?_⟩
        rcases List.mem_append.1 hh with hh | hh
        · exact hall h hh
        · rw [List.mem_singleton.1 hh]; omega
    · by_cases hx : size ≤ x.2 ∧ ((bestX size L).2 = 0 ∨ x.2 < (bestX size L).2)
      · rw [if_pos hx]
        refine .inr ⟨by simp, hx.1, fun h hh hsz => ?_⟩
        rcases List.mem_append.1 hh with hh | hh
        · have := hall h hh hsz; omega
        · rw [List.mem_singleton.1 hh]; exact Int.le_refl _
      · rw [if_neg hx]
        refine .inr ⟨List.mem_append_left _ hm, hs, fun h hh hsz => ?_⟩
        rcases List.mem_append.1 hh with hh | hh
        · exact hall h hh hsz
        · rw [List.mem_singleton.1 hh] at hsz ⊢; omega
section
variable {n : Int} {l : List Ext}
theorem holes_runs (n : Int) (l : List Ext) : holesX n l = runsX 0 (sortE l) n := rfl
theorem holes_mem (h : chkX n l = 0) : ∀ x ∈ holesX n l, 0 ≤ x.1 ∧ 1 ≤ x.2 ∧ x.1 + x.2 ≤ n ∧ ∀ e ∈ l, x.1 + x.2 ≤ e.1 ∨ e.1 + e.2 ≤ x.1 := fun x hx => by
  obtain ⟨i1, i2, i3, i4⟩ := runs_mem (tidy_of h) x hx
  exact ⟨i1, i2, i3, fun e he => i4 e ((sortE_perm l).mem_iff.2 he)⟩
theorem fit_none (h : chkX n l = 0) {size : Int} (hf : fitE n l size ≠ 0) : ∀ x ∈ holesX n l, 1 ≤ size → x.2 < size := fun x hx hs => by
  obtain ⟨o0, o1, _, _, _⟩ := chkX_ok h
  have hm := holes_mem h x hx
  unfold fitE at hf
  rw [if_pos h] at hf
  by_cases h1 : size < 1 ∨ 6400 < size
  · omega
  · rw [if_neg h1] at hf
    rcases best_inv size hs (holesX n l) with ⟨e, hall⟩ | ⟨_, h2, _⟩
    · exact hall x hx
    · rw [if_neg (by omega)] at hf; exact absurd rfl hf
theorem fit_some (h : chkX n l = 0) {size : Int} (hf : fitE n l size = 0) : ∃ L, (fitA n l size, L) ∈ holesX n l ∧ 1 ≤ size ∧ size ≤ L ∧ (∀ x ∈ holesX n l, size ≤ x.2 → L ≤ x.2) ∧ (∀ x ∈ holesX n l, x.1 = fitA n l size → x.2 = L) := by
  have hA : fitA n l size = (bestX size (holesX n l)).1 := by unfold fitA; rw [if_pos hf]
  unfold fitE at hf
  rw [if_pos h] at hf
  by_cases h1 : size < 1 ∨ 6400 < size
  · rw [if_pos h1] at hf; cases hf
  · rw [if_neg h1] at hf
    have hs : 1 ≤ size := by omega
    rcases best_inv size hs (holesX n l) with ⟨e, _⟩ | ⟨hm, h2, h3⟩
    · rw [e] at hf; cases hf
    · refine ⟨(bestX size (holesX n l)).2, by rw [hA]; exact hm, hs, h2, h3, fun x hx hxa => ?_⟩
      rw [hA] at hxa
      have hp := runs_pair (tidy_of h)
      rw [← holes_runs, List.pairwise_iff_getElem] at hp
      obtain ⟨i, hi, rfl⟩ := List.getElem_of_mem hx
      obtain ⟨j, hj, hjb⟩ := List.getElem_of_mem hm
      rw [← hjb] at hxa ⊢
      have pi := holes_mem h _ (List.getElem_mem hi)
      have pj := holes_mem h _ (List.getElem_mem hj)
      rcases Nat.lt_trichotomy i j with hij | rfl | hij
      · have := hp i j hi hj hij; omega
      · rfl
      · have := hp j i hj hi hij; omega
end
end Go.Proofs.YtbnobjlphmkgeaaGreatDoor
/- The heap: Alloc. -/
namespace Go.Proofs.YtbnobjlphmkgeaaGreatDoor
open Go.RowKit

section
variable {w0 w : World} {F : Nat → Prop} {h : Nat} {l : Bytes}
/-- a heap's image, for a walk that writes into it -/
theorem Hp.rowW (hp : Hp w0 w F h l) : ∃ g cap cur, w.cell? ⟨h, 0, none⟩ = some (.slice (some ⟨g, 0, none⟩) l.length cap) ∧ w.heap[g]? = some (.cells cur 5 (0, 0)) ∧ cur.size = cap ∧ l.length ≤ cap ∧ cap ≤ maxLen ∧ Row w 5 g cap l ∧ F g ∧
    ∀ o (bs : Bytes), o + bs.length ≤ l.length → Hp w0 (w.setRow g (setB cur o (bs.map bv))) F h (splice l o bs) ∧ Keep F w (w.setRow g (setB cur o (bs.map bv))) := by
  obtain ⟨g, cap, h1, h2, h3⟩ := hp.hd
  have h2' := h2
  obtain ⟨cur, e1, e2, e3, e4, e5⟩ := h2'
  have hne : h ≠ g := ne_row h1 h2 (by decide)
  refine ⟨g, cap, cur, by simp [World.cell?, h1], e1, e4, e2, e3, h2, h3, fun o bs hb => ?_⟩
  have hl := splice_len l bs o hb
  have hsz : (w.setRow g (setB cur o (bs.map bv))).heap.size = w.heap.size := by simp [World.setRow]
  have hk : Keep F w (w.setRow g (setB cur o (bs.map bv))) := ⟨rfl, rfl, rfl, Nat.le_of_eq hsz.symm, fun k _ hn => setRow_other w g _ _ (fun e => hn (e ▸ h3))⟩
  refine ⟨⟨⟨g, cap, by rw [hl]; exact (setRow_other w g _ _ hne).trans h1, h2.set_ o bs hb cur e1, h3⟩, hp.fh, by rw [hl]; exact hp.len, hp.new, fun k hk' => by rw [hsz]; exact hp.flt k hk', hkeep_below hp.bel hk hp.new⟩, hk⟩
end
/-- the first handle that is free (0: none), of the last j -/
def fH (l : Bytes) : Nat → Nat
  | 0 => 0
  | j + 1 => if hasE (rawE l (39 - j)) = true then fH l j else 40 - j
theorem fH_le (l : Bytes) : ∀ j, j ≤ 40 → fH l j ≤ 40
  | 0, _ => by simp [fH]
  | j + 1, hj => by
    unfold fH; split
    · exact fH_le l j (by omega)
    · omega
theorem fH_spec (l : Bytes) : ∀ j, j ≤ 40 → (fH l j = 0 ∧ ∀ k, 40 - j ≤ k → k < 40 → hasE (rawE l k) = true) ∨ (∃ k, 40 - j ≤ k ∧ k < 40 ∧ fH l j = k + 1 ∧ hasE (rawE l k) = false ∧ ∀ i, 40 - j ≤ i → i < k → hasE (rawE l i) = true)
  | 0, _ => .inl ⟨rfl, fun k h1 h2 => by omega⟩
  | j + 1, hj => by
    cases hh : hasE (rawE l (39 - j)) with
    | true =>
      have e : fH l (j + 1) = fH l j := by simp [fH, hh]
      rw [e]
      rcases fH_spec l j (by omega) with ⟨h0, hall⟩ | ⟨k, k1, k2, k3, k4, k5⟩
      · refine .inl ⟨h0, fun k h1 h2 => ?_⟩
        by_cases hk : k = 39 - j
        · rw [hk]; exact hh
        · exact hall k (by omega) h2
      · refine .inr ⟨k, by omega, k2, k3, k4, fun i h1 h2 => ?_⟩
        by_cases hi : i = 39 - j
        · rw [hi]; exact hh
        · exact k5 i (by omega) h2
    | false =>
      have e : fH l (j + 1) = 40 - j := by simp [fH, hh]
      exact .inr ⟨39 - j, by omega, by omega, by omega, hh, fun i h1 h2 => by omega⟩
/-- the fault of Alloc; where; the handle; the image behind it -/
def allocE (l : Bytes) (n t : Int) : Nat := if lenB n = false ∨ tagB t = false then 1 else if fH l 40 = 0 ∨ fitE ((l.length : Int) - 288) (takenL l) n ≠ 0 then 4 else 0
def allocA (l : Bytes) (n : Int) : Int := fitA ((l.length : Int) - 288) (takenL l) n + 288
def allocH (l : Bytes) (n t : Int) : Int := if allocE l n t = 0 then fH l 40 else 0
def allocL (l : Bytes) (n t : Int) : Bytes := if allocE l n t = 0 then splice (putEnt l (fH l 40) (allocA l n) n t) (allocA l n).toNat (List.replicate n.toNat 0) else l
theorem alloc_in {l : Bytes} {n : Int} (h : fitE ((l.length : Int) - 288) (takenL l) n = 0) : 288 ≤ allocA l n ∧ allocA l n + n ≤ l.length := by
  have hc : chkX ((l.length : Int) - 288) (takenL l) = 0 := by
    unfold fitE at h
    by_cases hc : chkX ((l.length : Int) - 288) (takenL l) = 0
    · exact hc
    · rw [if_neg hc] at h; exact absurd h hc
  obtain ⟨L, m1, m2, m3, _, _⟩ := fit_some hc h
  have := holes_mem hc _ m1
  unfold allocA
  dsimp only at this
  omega
section
variable {w0 w : World} {F : Nat → Prop} {h : Nat} {l : Bytes}
theorem halloc_e1 (n t : Int) (_hp : Hp w0 w F h l) (hbad : lenB n = false ∨ tagB t = false) :
    Calls Tryz.prog 13 #[.pointer (some ⟨h, 0, none⟩), .int .i64 n, .int .i64 t] w fun e w' => e = .returned (.tuple #[.int .i64 0, .iface 111 (.int .i64 1)]) ∧ w = w' := by
  cases h1 : lenB n with
  | false =>
    clear hbad
    go_enter Tryz.func13, Tryz.ntmps13
    go_wp2_with fail
    refine (len_any _ _).mono ?_
    rintro e w' ⟨rfl, rfl⟩
    rw [h1]
    go_wp2_with fail
    go_ret2
    exact ⟨rfl, rfl⟩
  | true =>
    have h2 : tagB t = false := by simpa [h1] using hbad
    clear hbad
    go_enter Tryz.func13, Tryz.ntmps13
    go_wp2_with fail
    refine (len_any _ _).mono ?_
    rintro e w' ⟨rfl, rfl⟩
    rw [h1]
    go_wp2_with fail
    refine (tag_any _ _).mono ?_
    rintro e w' ⟨rfl, rfl⟩
    rw [h2]
    go_wp2_with fail
    go_ret2
    exact ⟨rfl, rfl⟩
set_option maxRecDepth 100000 in
theorem halloc_go (n t : Int) (hp : Hp w0 w F h l) (h1 : lenB n = true) (h2 : tagB t = true) :
    Calls Tryz.prog 13 #[.pointer (some ⟨h, 0, none⟩), .int .i64 n, .int .i64 t] w fun e w' => e = .returned (.tuple #[.int .i64 (allocH l n t), errV (allocE l n t)]) ∧ ∃ F', HpM w0 w w' F F' h (allocL l n t) := by
  have hb := rightB_true.1 hp.len
  have hnb := lenB_true.1 h1
  have HP := Hidden.mk hp
  have HG : Hidden (∀ (j : Nat), j < 40 → ∀ W, Hp w0 W F h l → ∃ g cap, W.cell? ⟨h, 0, none⟩ = some (.slice (some ⟨g, 0, none⟩) l.length cap) ∧ Calls Tryz.prog 66 #[.slice (some ⟨g, 0, none⟩) l.length cap, .int .i64 ((39 - j : Nat) + 1 : Int)] W fun e w' => ∃ a b c d : Int, e = .returned (.tuple #[.agg #[.int .i64 a, .int .i64 b, .int .i64 c, .int .i64 d], errV (if hasE (rawE l (39 - j)) = true then 0 else 5)]) ∧ Below W.heap.size W w') := ⟨fun j hj W hW => by
    obtain ⟨g, cap, c0, hcap, hrow, _⟩ := hW.open_
    refine ⟨g, cap, c0, (iget_ans (some ⟨g, 0, none⟩) l.length cap l _ W rfl hW.len hcap hrow.rd).mono ?_⟩
    rintro e w' ⟨rfl, hb'⟩
    have e : hE l ((39 - j : Nat) + 1 : Int) = if hasE (rawE l (39 - j)) = true then 0 else 5 := by
      cases hh : hasE (rawE l (39 - j)) with
      | true => rw [(hE_has (by omega) hh).1]; rfl
      | false => rw [hE_hasnt (by omega) hh]; rfl
    rw [e]
    exact ⟨_, _, _, _, rfl, hb'⟩⟩
  have HE : Hidden (allocE l n t = if fH l 40 = 0 ∨ fitE ((l.length : Int) - 288) (takenL l) n ≠ 0 then 4 else 0) := ⟨by unfold allocE; rw [if_neg (by simp [h1, h2])]⟩
  have HH : Hidden (allocH l n t = if allocE l n t = 0 then (fH l 40 : Int) else 0) := ⟨rfl⟩
  have HL : Hidden (allocL l n t = if allocE l n t = 0 then splice (putEnt l (fH l 40) (allocA l n) n t) (allocA l n).toNat (List.replicate n.toNat 0) else l) := ⟨rfl⟩
  clear hp
  go_enter Tryz.func13, Tryz.ntmps13
  go_wp2_with fail
  refine (len_any _ _).mono ?_
  rintro e w' ⟨rfl, rfl⟩
  rw [h1]
  go_wp2_with fail
  refine (tag_any _ _).mono ?_
  rintro e w' ⟨rfl, rfl⟩
  rw [h2]
  go_wp2_with fail
  go_loopg [8, 9] 40 (fun q v i wr => ∃ j : Nat, j ≤ 40 ∧ q = 40 - j ∧ i = .int .i64 (40 - (j : Int)) ∧ v = .int .i64 (fH l j : Int) ∧ Hidden (Below w.heap.size w wr))
  case atStart => exact ⟨0, by omega, rfl, rfl, rfl, ⟨Below.refl _ _⟩⟩
  case round =>
    obtain ⟨j, hj, rfl, rfl, rfl, hst⟩ := hrel
    by_cases hlt : j < 40
    · obtain ⟨g, cap, y0, hget⟩ := HG.out j hlt wr (HP.out.below hst.out)
      have e1 : ((39 - j : Nat) + 1 : Int) = 40 - (j : Int) := by omega
      rw [e1] at hget
      have HGT := Hidden.mk hget
      have HS : Hidden (fH l (j + 1) = if hasE (rawE l (39 - j)) = true then fH l j else 40 - j) := ⟨rfl⟩
      have t0 : decide (1 ≤ 40 - (j : Int)) = true := by simp; omega
      have s1 : IntKind.i64.wrap (40 - (j : Int) - 1) = 40 - ((j + 1 : Nat) : Int) := by rw [IntWalk.i64_in _ (by omega)]; omega
      generalize fH l j = fj at *
      clear hget e1
      go_wp2_with fail
      refine HGT.out.mono ?_
      rintro e w1 ⟨a, b, c, d, rfl, hb1⟩
      have hB1 := hst.out.trans (hb1.mono hst.out.size)
      have HB := Hidden.mk (hB1.alloc hB1.size (.cells #[.int .i64 a, .int .i64 b, .int .i64 c, .int .i64 d] 66))
      clear hb1 hB1 hst HGT
      cases hh : hasE (rawE l (39 - j)) with
      | true =>
        rw [if_pos rfl]
        have HS2 : Hidden (fH l (j + 1) = fj) := ⟨by rw [HS.out, if_pos hh]⟩
        rw [show errV 0 = Value.nilIface from rfl]
        clear hh HS
        go_wp2_with fail
        go_roundg (40 - (j + 1))
        case measure => omega
        case rel => exact ⟨j + 1, by omega, rfl, rfl, by rw [HS2.out], HB⟩
      | false =>
        rw [if_neg (by decide)]
        have HS2 : Hidden (fH l (j + 1) = 40 - j) := ⟨by rw [HS.out, if_neg (by rw [hh]; decide)]⟩
        rw [show errV 5 = .iface 111 (.int .i64 5) from rfl]
        clear hh HS
        go_wp2_with fail
        go_roundg (40 - (j + 1))
        case measure => omega
        case rel => exact ⟨j + 1, by omega, rfl, rfl, by rw [HS2.out]; congr 1; omega, HB⟩
    · obtain rfl : j = 40 := by omega
      have HP2 := Hidden.mk (HP.out.below hst.out)
      have HT := Hidden.mk (htaken_any HP2.out)
      have t0 : decide (1 ≤ 40 - ((40 : Nat) : Int)) = false := by decide
      have hfl := fH_le l 40 (Nat.le_refl _)
      have HW1 := Hidden.mk hst.out
      clear hst HG
      go_wp2_with fail
      refine HT.out.mono ?_
      rintro e w1 ⟨A, m, c, rfl, hm, hmc, hrx, hb1⟩
      have HW2 := Hidden.mk (HW1.out.trans (hb1.mono HW1.out.size))
      have HF := Hidden.mk (xfit_any ((l.length : Int) - 288) A m c (takenL l) n w1 hm hmc hrx)
      clear hb1 hrx HT HW1 HP2 t0
      have HIN : Hidden (fitE ((l.length : Int) - 288) (takenL l) n = 0 → 288 ≤ allocA l n ∧ allocA l n + n ≤ l.length) := ⟨alloc_in⟩
      have HAD : Hidden (allocA l n = fitA ((l.length : Int) - 288) (takenL l) n + 288) := ⟨rfl⟩
      generalize fitE ((l.length : Int) - 288) (takenL l) n = fe at *
      generalize fitA ((l.length : Int) - 288) (takenL l) n = fa at *
      generalize allocA l n = aa at *
      generalize fH l 40 = fh at *
      go_wp2_with fail
      refine HF.out.mono ?_
      rintro e w2 ⟨rfl, hb2⟩
      have HW3 := Hidden.mk (HW2.out.trans (hb2.mono HW2.out.size))
      clear hb2 HF HW2
      by_cases hz : fh = 0
      · have hae : allocE l n t = 4 := by rw [HE.out, if_pos (.inl hz)]
        have HAH : Hidden (allocE l n t = 4 ∧ allocH l n t = 0 ∧ allocL l n t = l) := ⟨hae, by rw [HH.out, hae]; rfl, by rw [HL.out, hae]; rfl⟩
        clear hae
        subst hz
        have HFIN := Hidden.mk (HP.out.same HW3.out)
        generalize errV fe = ev at *
        clear HE HH HL
        go_wp2_with fail
        go_ret2
        exact ⟨by rw [HAH.out.1, HAH.out.2.1]; rfl, _, by rw [HAH.out.2.2]; exact HFIN.out⟩
      · by_cases hfe : fe = 0
        · have hae : allocE l n t = 0 := by rw [HE.out, if_neg (by omega)]
          have hah : allocH l n t = fh := by rw [HH.out, hae]; rfl
          have hin := HIN.out hfe
          rw [hfe, show errV 0 = Value.nilIface from rfl]
          have t1 : (fh == 0) = false := by simpa using hz
          have t2 : ((fh : Int) == 0) = false := by simpa using hz
          have s1 : IntKind.i64.wrap (fa + 288) = aa := by rw [HAD.out, IntWalk.i64_in _ (by have := HAD.out; omega)]
          have HLL : Hidden (allocL l n t = splice (putEnt l fh aa n t) aa.toNat (List.replicate n.toNat 0)) := ⟨by rw [HL.out, hae]; rfl⟩
          have HAH := Hidden.mk (And.intro hae hah)
          clear hae hah
          obtain ⟨a, rfl⟩ := Int.eq_ofNat_of_zero_le (show 0 ≤ aa by omega)
          obtain ⟨nn, rfl⟩ := Int.eq_ofNat_of_zero_le (show 0 ≤ n by omega)
          have hal : allocL l nn t = splice (putEnt l fh a nn t) a (List.replicate nn 0) := HLL.out
          have hwb : withinB l.length (a : Int) (nn : Int) = true := withinB_true.2 (by omega)
          have hal1 : Below w2.heap.size w2 (w2.alloc (.cells #[.int .i64 fh, .int .i64 a, .int .i64 nn, .int .i64 t] 66)) := (Below.refl _ _).alloc (Nat.le_refl _) _
          have hp3 := HP.out.below (HW3.out.trans (hal1.mono HW3.out.size))
          have HPUT := Hidden.mk (fun (W : World) (hW : Hp w0 W F h l) => hput_ok (fh : Int) (a : Int) (nn : Int) t hW (handleB_true.2 (by omega)) h2 h1 hwb)
          have hpl : (putEnt l fh a nn t).length = l.length := putEnt_len l fh a nn t (by omega) (by omega) (by omega)
          have HPL := Hidden.mk hpl
          have HALL := Hidden.mk hal
          have hf := fourAt_one w2 fh a nn t 66
          have HW4 := Hidden.mk (HW3.out.trans (hal1.mono HW3.out.size))
          have HP4 := Hidden.mk hp3
          generalize putEnt l fh a nn t = l1 at *
          clear hal hal1 hp3 hwb hpl HE HH HL HIN HAD hfe hz HLL
          go_wp2_with fail
          generalize w2.alloc (.cells #[.int .i64 fh, .int .i64 a, .int .i64 nn, .int .i64 t] 66) = w3 at *
          refine (HPUT.out _ HP4.out).mono ?_
          rintro e w4 ⟨rfl, F4, hm4⟩
          obtain ⟨f0, f1, f2, f3⟩ := hf
          have hfl4 : w2.heap.size < w3.heap.size := block_lt_of_cell f0
          have hno : ¬ F w2.heap.size := fun hk => by have := HP.out.flt _ hk; have := HW3.out.size; omega
          have hk4 := hm4.kp.block _ hfl4 hno
          have g0 := (World.cell?_of_block (w := w3) (a := ⟨w2.heap.size, 0, none⟩) hk4).trans f0
          have g1 := (World.cell?_of_block (w := w3) (a := ⟨w2.heap.size, 1, none⟩) hk4).trans f1
          have g2 := (World.cell?_of_block (w := w3) (a := ⟨w2.heap.size, 2, none⟩) hk4).trans f2
          have g3 := (World.cell?_of_block (w := w3) (a := ⟨w2.heap.size, 3, none⟩) hk4).trans f3
          obtain ⟨gi, ci, cur4, y0, -, -, hci, -, -, -, -⟩ := hm4.hp.rowW
          rw [HPL.out] at y0 hci
          have HOF := Hidden.mk (hof_any (h := h) gi ci a nn fh t w4 ⟨_, y0⟩ (by omega) (by omega) (by omega))
          have HM := Hidden.mk (((HP.out.same HW4.out).trans hm4))
          have HY0 := Hidden.mk y0
          clear f0 f1 f2 f3 hfl4 hno hk4 hm4 HPUT
          go_wp2_with fail
          refine HOF.out.mono ?_
          rintro e w5 ⟨rfl, hb5⟩
          have hm5 := HM.out.trans (HM.out.hp.same hb5)
          obtain ⟨g5, c5, cur5, z0, z1, z2, z3, -, -, -, z4⟩ := hm5.hp.rowW
          have hyz := ((hb5.cell (p := ⟨h, 0, none⟩) (block_lt_of_cell HY0.out)).trans HY0.out).symm.trans z0
          have hyz := Option.some.inj hyz
          injection hyz with q1 q2 q3
          injection q1 with q1
          injection q1 with q1
          subst q1 q3
          rw [HPL.out] at z3
          have hclear := fun ty => run_clear_row w5 gi a nn (ci - a) cur5 _ z1 (by omega) (by omega) ty
          have hz4 := z4 a (List.replicate nn 0) (by rw [HPL.out]; simp; omega)
          have HFIN := Hidden.mk (hm5.trans (HpM.mk hz4.1 hz4.2 (fun k hk => .inl hk)))
          clear z0 z2 z3 z4 hz4 hm5 hb5 HOF HM HY0 y0 q2
          go_wp2_with fail
          go_ret2
          exact ⟨by rw [HAH.out.1, HAH.out.2]; rfl, _, by rw [HALL.out]; have hF := HFIN.out; rw [List.map_replicate] at hF; exact hF⟩
        · have hae : allocE l n t = 4 := by rw [HE.out, if_pos (.inr hfe)]
          have HAH : Hidden (allocE l n t = 4 ∧ allocH l n t = 0 ∧ allocL l n t = l) := ⟨hae, by rw [HH.out, hae]; rfl, by rw [HL.out, hae]; rfl⟩
          clear hae
          have hev : errV fe = .iface 111 (.int .i64 fe) := by unfold errV; rw [if_neg hfe]
          rw [hev]
          have t1 : (fh == 0) = false := by simpa using hz
          have t2 : ((fh : Int) == 0) = false := by simpa using hz
          have HFIN := Hidden.mk (HP.out.same HW3.out)
          clear HE HH HL hfe hz hev
          go_wp2_with fail
          go_ret2
          exact ⟨by rw [HAH.out.1, HAH.out.2.1]; rfl, _, by rw [HAH.out.2.2]; exact HFIN.out⟩
theorem halloc_any (n t : Int) (hp : Hp w0 w F h l) :
    Calls Tryz.prog 13 #[.pointer (some ⟨h, 0, none⟩), .int .i64 n, .int .i64 t] w fun e w' => e = .returned (.tuple #[.int .i64 (allocH l n t), errV (allocE l n t)]) ∧ ∃ F', HpM w0 w w' F F' h (allocL l n t) := by
  by_cases hbad : lenB n = false ∨ tagB t = false
  · have h1 : allocE l n t = 1 := by unfold allocE; rw [if_pos hbad]
    have h2 : allocH l n t = 0 := by unfold allocH; rw [h1]; rfl
    have h3 : allocL l n t = l := by unfold allocL; rw [h1]; rfl
    rw [h1, h2, h3]
    refine (halloc_e1 n t hp hbad).mono ?_
    rintro e w' ⟨rfl, rfl⟩
    exact ⟨rfl, F, hp.same (Below.refl _ _)⟩
  · exact halloc_go n t hp (by cases hx : lenB n <;> simp_all) (by cases hx : tagB t <;> simp_all)
end
end Go.Proofs.YtbnobjlphmkgeaaGreatDoor
/- The heap: bytes of an object that are read, or written. -/
namespace Go.Proofs.YtbnobjlphmkgeaaGreatDoor
open Go.RowKit

/-- the fault of some bytes of an object -/
def someE (l : Bytes) (x a n : Int) : Nat := if hE l x ≠ 0 then hE l x else if a < 0 ∨ n < 0 ∨ gL l x < a ∨ gL l x - a < n then 3 else 0
/-- the bytes; the image in which others stand there -/
def readL (l : Bytes) (x a n : Int) : Bytes := if someE l x a n = 0 then (l.drop (gA l x + a).toNat).take n.toNat else []
def writeL (l : Bytes) (x a : Int) (b : Bytes) : Bytes := if someE l x a b.length = 0 then splice l (gA l x + a).toNat b else l
theorem some_in {l : Bytes} (hg : Good l) {x a n : Int} (h : someE l x a n = 0) : hE l x = 0 ∧ 0 ≤ a ∧ 0 ≤ n ∧ a + n ≤ gL l x ∧ 288 ≤ gA l x ∧ 1 ≤ gL l x ∧ gL l x ≤ 1000 ∧ gA l x + gL l x ≤ l.length := by
  unfold someE at h
  by_cases h0 : hE l x = 0
  · rw [if_neg (by simp [h0])] at h
    have := good_in hg h0
    by_cases hb : a < 0 ∨ n < 0 ∨ gL l x < a ∨ gL l x - a < n
    · rw [if_pos hb] at h; cases h
    · omega
  · rw [if_pos h0] at h; exact absurd h h0
section
variable {w0 w : World} {F : Nat → Prop} {h : Nat} {l : Bytes}
set_option maxRecDepth 100000 in
theorem hsome_e (x a n : Int) (hp : Hp w0 w F h l) (hg : Good l) (he : someE l x a n ≠ 0) (hn : n ≤ 9223372036854775807) :
    Calls Tryz.prog 76 #[.pointer (some ⟨h, 0, none⟩), .int .i64 x, .int .i64 a, .int .i64 n] w fun e w' => e = .returned (.tuple #[.slice none 0 0, .iface 111 (.int .i64 (someE l x a n : Int))]) ∧ Below w.heap.size w w' := by
  have hb := rightB_true.1 hp.len
  obtain ⟨g, cap, c0, hcap, hrow, hF⟩ := hp.open_
  have hcm := hrow.le.2
  have HC := Hidden.mk (iget_ans (some ⟨g, 0, none⟩) l.length cap l x w rfl hp.len hcap hrow.rd)
  unfold entV at HC
  have HGI : Hidden (hE l x = 0 → 288 ≤ gA l x ∧ 1 ≤ gL l x ∧ gL l x ≤ 1000 ∧ gA l x + gL l x ≤ l.length) := ⟨fun h0 => by have := good_in hg h0; omega⟩
  have HE : Hidden (someE l x a n = if hE l x ≠ 0 then hE l x else if a < 0 ∨ n < 0 ∨ gL l x < a ∨ gL l x - a < n then 3 else 0) := ⟨rfl⟩
  clear hp hrow hg
  by_cases h0 : hE l x = 0
  · have hin := HGI.out h0
    have hbad : a < 0 ∨ n < 0 ∨ gL l x < a ∨ gL l x - a < n := by
      refine Classical.byContradiction fun hb' => he ?_
      rw [HE.out, if_neg (by simp [h0]), if_neg hb']
    have hE3 : someE l x a n = 3 := by rw [HE.out, if_neg (by simp [h0]), if_pos hbad]
    rw [hE3]
    rw [h0, show errV 0 = Value.nilIface from rfl] at HC
    generalize gH l x = a0 at *
    generalize gT l x = a3 at *
    obtain ⟨ea, hea⟩ := Int.eq_ofNat_of_zero_le (show 0 ≤ gA l x by omega)
    obtain ⟨el, hel⟩ := Int.eq_ofNat_of_zero_le (show 0 ≤ gL l x by omega)
    rw [hea, hel] at HC
    rw [hea, hel] at hin
    rw [hel] at hbad
    clear HE HGI hE3 he h0 hea hel
    go_enter Tryz.func76, Tryz.ntmps76
    go_wp2_with fail
    refine HC.out.mono ?_
    rintro e w1 ⟨rfl, hb1⟩
    have hal := (Below.refl w1.heap.size w1).alloc (Nat.le_refl _) (.cells #[.int .i64 a0, .int .i64 (ea : Int), .int .i64 (el : Int), .int .i64 a3] 66)
    have hB2 := hb1.trans (hal.mono hb1.size)
    have HB2 := Hidden.mk hB2
    have HOF := Hidden.mk (hof_any (h := h) g cap ea el a0 a3 (w1.alloc (.cells #[.int .i64 a0, .int .i64 (ea : Int), .int .i64 (el : Int), .int .i64 a3] 66)) ⟨_, (hB2.cell (p := ⟨h, 0, none⟩) (block_lt_of_cell c0)).trans c0⟩ (by omega) (by omega) (by omega))
    have hf := fourAt_one w1 a0 (ea : Int) (el : Int) a3 66
    obtain ⟨f0, f1, f2, f3⟩ := hf
    clear hal hB2 hb1 HC c0
    go_wp2_with fail
    refine HOF.out.mono ?_
    rintro e w2 ⟨rfl, hb2⟩
    have HB3 := Hidden.mk (HB2.out.trans (hb2.mono HB2.out.size))
    clear hb2 HB2 HOF f0 f1 f2 f3
    by_cases q1 : a < 0
    · have d1 : decide (a < 0) = true := by simpa using q1
      clear hbad q1
      go_wp2_with fail
      go_ret2
      exact ⟨rfl, HB3.out⟩
    have d1 : decide (a < 0) = false := by simpa using q1
    by_cases q2 : n < 0
    · have d2 : decide (n < 0) = true := by simpa using q2
      clear hbad q1 q2
      go_wp2_with fail
      go_ret2
      exact ⟨rfl, HB3.out⟩
    have d2 : decide (n < 0) = false := by simpa using q2
    by_cases q3 : (el : Int) < a
    · have d3 : decide ((el : Int) < a) = true := by simpa using q3
      clear hbad q1 q2 q3
      go_wp2_with fail
      go_ret2
      exact ⟨rfl, HB3.out⟩
    have d3 : decide ((el : Int) < a) = false := by simpa using q3
    have s1 : IntKind.i64.wrap ((el : Int) - a) = (el : Int) - a := IntWalk.i64_in _ (by omega)
    have d4 : decide ((el : Int) - a < n) = true := by simp; omega
    clear hbad q1 q2 q3
    go_wp2_with fail
    go_ret2
    exact ⟨rfl, HB3.out⟩
  · have hE1 : someE l x a n = hE l x := by rw [HE.out, if_pos h0]
    have hev : errV (hE l x) = .iface 111 (.int .i64 (hE l x : Int)) := by unfold errV; rw [if_neg h0]
    rw [hE1]
    rw [hev] at HC
    generalize (hE l x : Int) = q at *
    generalize gH l x = a0 at *
    generalize gA l x = a1 at *
    generalize gL l x = a2 at *
    generalize gT l x = a3 at *
    clear HE HGI hE1 hev he h0
    go_enter Tryz.func76, Tryz.ntmps76
    go_wp2_with fail
    refine HC.out.mono ?_
    rintro e w1 ⟨rfl, hb1⟩
    have HB := Hidden.mk (hb1.alloc hb1.size (.cells #[.int .i64 a0, .int .i64 a1, .int .i64 a2, .int .i64 a3] 66))
    clear hb1 HC
    go_wp2_with fail
    go_ret2
    exact ⟨rfl, HB.out⟩
set_option maxRecDepth 100000 in
theorem hsome_ok (x a n : Int) (g cap : Nat) (hp : Hp w0 w F h l) (hg : Good l) (he : someE l x a n = 0) (c0 : w.cell? ⟨h, 0, none⟩ = some (.slice (some ⟨g, 0, none⟩) l.length cap)) :
    Calls Tryz.prog 76 #[.pointer (some ⟨h, 0, none⟩), .int .i64 x, .int .i64 a, .int .i64 n] w fun e w' => ∃ o c', e = .returned (.tuple #[.slice (some ⟨g, o, none⟩) n.toNat c', .nilIface]) ∧ (0 < n.toNat → o = (gA l x + a).toNat) ∧ o ≤ cap ∧ n.toNat ≤ c' ∧ Below w.heap.size w w' := by
  have hb := rightB_true.1 hp.len
  obtain ⟨g', cap', c0', hcap, hrow, hF⟩ := hp.open_
  rw [c0] at c0'
  have hinj := Option.some.inj c0'
  injection hinj with q1 q2 q3
  injection q1 with q1
  injection q1 with q1
  subst q1 q3
  clear c0' q2
  have hcm := hrow.le.2
  have hin := some_in hg he
  have HC := Hidden.mk (iget_ans (some ⟨g, 0, none⟩) l.length cap l x w rfl hp.len hcap hrow.rd)
  unfold entV at HC
  rw [hin.1, show errV 0 = Value.nilIface from rfl] at HC
  generalize gH l x = a0 at *
  generalize gT l x = a3 at *
  obtain ⟨ea, hea⟩ := Int.eq_ofNat_of_zero_le (show 0 ≤ gA l x by omega)
  obtain ⟨el, hel⟩ := Int.eq_ofNat_of_zero_le (show 0 ≤ gL l x by omega)
  obtain ⟨aa, rfl⟩ := Int.eq_ofNat_of_zero_le (show 0 ≤ a by omega)
  obtain ⟨nn, rfl⟩ := Int.eq_ofNat_of_zero_le (show 0 ≤ n by omega)
  rw [hea, hel] at HC
  rw [hea, hel] at hin
  rw [hea, show ((ea : Int) + (aa : Int)).toNat = ea + aa by omega, Int.toNat_natCast]
  obtain ⟨-, -, -, h4, h5, h6, h7, h8⟩ := hin
  have hcut := run_cutA (some ⟨g, ea, none⟩) el (cap - ea) aa (aa + nn) (by omega) (by omega)
  rw [Nat.add_sub_cancel_left] at hcut
  have HO : ∃ o, (if cap - ea = aa then some (⟨g, ea, none⟩ : Addr) else (some (⟨g, ea, none⟩ : Addr)).map (·.add aa)) = some ⟨g, o, none⟩ ∧ (0 < nn → o = ea + aa) ∧ o ≤ cap := by
    by_cases hq : cap - ea = aa
    · exact ⟨ea, by rw [if_pos hq], fun h => by omega, by omega⟩
    · exact ⟨ea + aa, by rw [if_neg hq, Option.map_some, Addr.add_lit], fun _ => rfl, by omega⟩
  obtain ⟨o, ho, ho1, ho2⟩ := HO
  rw [ho] at hcut
  simp only [Int.natCast_add] at hcut
  have HOO := Hidden.mk (And.intro ho1 ho2)
  have d1 : decide ((aa : Int) < 0) = false := by simp
  have d2 : decide ((nn : Int) < 0) = false := by simp
  have d3 : decide ((el : Int) < (aa : Int)) = false := by simp; omega
  have d3' : decide (el < aa) = false := by simp; omega
  have s1 : IntKind.i64.wrap ((el : Int) - aa) = (el : Int) - aa := IntWalk.i64_in _ (by omega)
  have d4 : decide ((el : Int) - aa < (nn : Int)) = false := by simp; omega
  have s2 : IntKind.i64.wrap ((aa : Int) + nn) = (aa : Int) + nn := IntWalk.i64_in _ (by omega)
  have HCN : Hidden (nn ≤ cap - ea - aa) := ⟨by omega⟩
  have HBD : Hidden (ea + el ≤ cap ∧ 1 ≤ el ∧ ea + el ≤ 281474976710656) := ⟨by omega⟩
  clear hea hel h4 h5 h6 h7 h8 ho ho1 ho2 he hg hp hrow
  go_enter Tryz.func76, Tryz.ntmps76
  go_wp2_with fail
  refine HC.out.mono ?_
  rintro e w1 ⟨rfl, hb1⟩
  have hal := (Below.refl w1.heap.size w1).alloc (Nat.le_refl _) (.cells #[.int .i64 a0, .int .i64 (ea : Int), .int .i64 (el : Int), .int .i64 a3] 66)
  have hB2 := hb1.trans (hal.mono hb1.size)
  have HB2 := Hidden.mk hB2
  have HOF := Hidden.mk (hof_any (h := h) g cap ea el a0 a3 (w1.alloc (.cells #[.int .i64 a0, .int .i64 (ea : Int), .int .i64 (el : Int), .int .i64 a3] 66)) ⟨_, (hB2.cell (p := ⟨h, 0, none⟩) (block_lt_of_cell c0)).trans c0⟩ HBD.out.1 HBD.out.2.1 HBD.out.2.2)
  have hf := fourAt_one w1 a0 (ea : Int) (el : Int) a3 66
  obtain ⟨f0, f1, f2, f3⟩ := hf
  clear hal hB2 hb1 HC c0
  go_wp2_with fail
  refine HOF.out.mono ?_
  rintro e w2 ⟨rfl, hb2⟩
  have HB3 := Hidden.mk (HB2.out.trans (hb2.mono HB2.out.size))
  clear hb2 HB2 HOF f0 f1 f2 f3
  go_wp2_with fail
  go_ret2
  exact ⟨o, _, rfl, HOO.out.1, HOO.out.2, HCN.out, HB3.out⟩
theorem hread_any (x a n : Int) (hp : Hp w0 w F h l) (hg : Good l) (hn : n ≤ 9223372036854775807) :
    Calls Tryz.prog 27 #[.pointer (some ⟨h, 0, none⟩), .int .i64 x, .int .i64 a, .int .i64 n] w fun e w' => ∃ A' c', e = .returned (.tuple #[.slice A' (readL l x a n).length c', errV (someE l x a n)]) ∧ (readL l x a n).length ≤ c' ∧ Rd w' A' (readL l x a n) ∧ (∀ ad, A' = some ad → w.heap.size ≤ ad.block) ∧ Below w.heap.size w w' := by
  by_cases he : someE l x a n = 0
  · have hin := some_in hg he
    obtain ⟨g, cap, c0, hcap, hrow, hF⟩ := hp.open_
    have HC := Hidden.mk (hsome_ok x a n g cap hp hg he c0)
    have hL : readL l x a n = (l.drop (gA l x + a).toNat).take n.toNat := by unfold readL; rw [if_pos he]
    have hlen : (readL l x a n).length = n.toNat := by rw [hL]; simp; omega
    have hcut := hrow.rd.cut (gA l x + a).toNat n.toNat (by omega)
    rw [← hL, Option.map_some, Addr.add_lit, Nat.zero_add] at hcut
    have HCUT := Hidden.mk hcut
    have hle : n.toNat ≤ 140737488351232 := by omega
    rw [he, hlen, show errV 0 = Value.nilIface from rfl]
    have HLN := Hidden.mk hlen
    generalize readL l x a n = rl at *
    generalize (gA l x + a).toNat = oo at *
    clear hp hg hrow hcut hL hlen hin he c0
    go_enter Tryz.func27, Tryz.ntmps27
    go_wp2_with fail
    refine HC.out.mono ?_
    rintro e w1 ⟨o, c', rfl, ho, -, hc', hb1⟩
    have hr1 : Rd w1 (some ⟨g, o, none⟩) rl := by
      by_cases h0 : 0 < n.toNat
      · rw [ho h0]; exact HCUT.out.below hb1
      · have : rl = [] := List.eq_nil_of_length_eq_zero (by rw [HLN.out]; omega)
        rw [this]; exact Rd.nil_
    have HB1 := Hidden.mk hb1
    have HCL := Hidden.mk (clone_some ⟨g, o, none⟩ n.toNat c' rl w1 HLN.out hle hr1)
    clear hb1 hr1 ho hc' HC
    go_wp2_with fail
    refine HCL.out.mono ?_
    rintro e w2 ⟨g2, cap2, rfl, hg2, hrow2, hb2⟩
    have HF2 := Hidden.mk (And.intro hrow2.le.1 (And.intro hrow2.rd (HB1.out.trans (hb2.mono HB1.out.size))))
    have HG2 := Hidden.mk (Nat.le_trans HB1.out.size hg2)
    clear hb2 hrow2 HCL
    go_wp2_with fail
    go_ret2
    exact ⟨some ⟨g2, 0, none⟩, cap2, rfl, by have := HF2.out.1; rw [HLN.out] at this; exact this, HF2.out.2.1, fun ad hA => by have := Option.some.inj hA; subst this; exact HG2.out, HF2.out.2.2⟩
  · have HC := Hidden.mk (hsome_e x a n hp hg he hn)
    have hL : readL l x a n = [] := by unfold readL; rw [if_neg he]
    have hev : errV (someE l x a n) = .iface 111 (.int .i64 (someE l x a n : Int)) := by unfold errV; rw [if_neg he]
    rw [hL, hev, List.length_nil]
    generalize (someE l x a n : Int) = q at *
    clear hp hg hL hev he
    go_enter Tryz.func27, Tryz.ntmps27
    go_wp2_with fail
    refine HC.out.mono ?_
    rintro e w1 ⟨rfl, hb1⟩
    have HB := Hidden.mk hb1
    clear hb1
    go_wp2_with fail
    refine (clone_nil 0 0 _).mono ?_
    rintro e w2 ⟨rfl, rfl⟩
    go_wp2_with fail
    go_ret2
    exact ⟨none, 0, rfl, Nat.le_refl _, Rd.nil_, (fun ad hA => by cases hA), HB.out⟩
/-- copy into nothing -/
theorem run_copy_none (w : World) (n c : Nat) (A : Option Addr) (ty : TypeId) :
    (Builtin.copy_ #[22, 22] ty #[.slice none 0 0, .slice A n c]).run Tryz.prog w = .ok (.int .i64 0) w := by
  obtain ⟨i0, hi0, hz0, hz1, hz2⟩ := info_parts byte_info
  cases A <;> simp [Builtin.copy_, run_underlying Tryz.underlying22, Builtin.lenOf, Builtin.firstCells, sizeOf, typeInfo, hi0, goInt, loadCells, loadCellsFrom]
theorem hwrite_any (x a : Int) (A : Option Addr) (n c : Nat) (b : Bytes) (hp : Hp w0 w F h l) (hg : Good l) (hn : b.length = n) (hn2 : n ≤ 140737488351232) (hrd : Rd w A b) :
    Calls Tryz.prog 17 #[.pointer (some ⟨h, 0, none⟩), .int .i64 x, .int .i64 a, .slice A n c] w fun e w' => e = .returned (errV (someE l x a n)) ∧ HpM w0 w w' F F h (writeL l x a b) := by
  by_cases he : someE l x a n = 0
  · have hin := some_in hg he
    obtain ⟨g, cap, cur, c0, hcur, hcs, hcap, hcm, hrow, hF, hst⟩ := hp.rowW
    have HC := Hidden.mk (hsome_ok x a n g cap hp hg he c0)
    rw [Int.toNat_natCast] at HC
    have hL : writeL l x a b = splice l (gA l x + a).toNat b := by unfold writeL; rw [hn, if_pos he]
    rw [he, hL, show errV 0 = Value.nilIface from rfl]
    have HP := Hidden.mk hp
    have HRD := Hidden.mk hrd
    have HN := Hidden.mk hn
    have hfit : (gA l x + a).toNat + n ≤ l.length := by omega
    generalize (gA l x + a).toNat = oo at *
    clear hg hrow hL hin he hst hp hrd hn hcur hcs
    go_enter Tryz.func17, Tryz.ntmps17
    go_wp2_with fail
    refine HC.out.mono ?_
    rintro e w1 ⟨o, c', rfl, ho, ho2, hc', hb1⟩
    have hp1 := HP.out.below hb1
    obtain ⟨g1, cap1, cur1, z0, z1, z2, z3, -, -, -, z4⟩ := hp1.rowW
    have hyz := Option.some.inj (((hb1.cell (p := ⟨h, 0, none⟩) (block_lt_of_cell c0)).trans c0).symm.trans z0)
    injection hyz with q1 q2 q3
    injection q1 with q1
    injection q1 with q1
    subst q1 q3
    have hcp := fun ty => run_copy_rd w1 g o n c' n c n A b cur1 _ z1 HN.out (HRD.out.below hb1) (by simp) (by
      by_cases h0 : 0 < n
      · rw [ho h0]; omega
      · omega) ty
    have HFIN : Hidden (HpM w0 w (w1.setRow g (setB cur1 o ((b.take n).map bv))) F F h (splice l oo b)) := ⟨by
      have hbt : b.take n = b := List.take_of_length_le (by rw [HN.out]; omega)
      rw [hbt]
      by_cases h0 : 0 < n
      · rw [ho h0]
        have := z4 oo b (by rw [HN.out]; omega)
        exact (HP.out.same hb1).trans ⟨this.1, this.2, fun k hk => .inl hk⟩
      · have hbn : b = [] := List.eq_nil_of_length_eq_zero (by rw [HN.out]; omega)
        rw [hbn]
        have e1 : splice l oo [] = l := by simp [splice]
        rw [e1, List.map_nil, setB_nil, setRow_self w1 g cur1 _ _ z1]
        exact HP.out.same hb1⟩
    clear hb1 hp1 z0 z1 z2 z3 z4 ho ho2 hc' q2 HC c0
    go_wp2_with fail
    go_ret
    exact ⟨rfl, by have hF := HFIN.out; rw [List.map_take] at hF; exact hF⟩
  · have HC := Hidden.mk (hsome_e x a n hp hg he (by omega))
    have hL : writeL l x a b = l := by unfold writeL; rw [hn, if_neg he]
    have hev : errV (someE l x a n) = .iface 111 (.int .i64 (someE l x a n : Int)) := by unfold errV; rw [if_neg he]
    have hcp := fun W ty => run_copy_none W n c A ty
    rw [hL, hev]
    have HP := Hidden.mk hp
    generalize (someE l x a n : Int) = q at *
    clear hp hg hL hev he hrd hn
    go_enter Tryz.func17, Tryz.ntmps17
    go_wp2_with fail
    refine HC.out.mono ?_
    rintro e w1 ⟨rfl, hb1⟩
    have HB := Hidden.mk (HP.out.same hb1)
    clear hb1
    go_wp2_with fail
    go_ret
    exact ⟨rfl, HB.out⟩
end
end Go.Proofs.YtbnobjlphmkgeaaGreatDoor
/- The plain law of heaps: what stays right, what has room. No walk here. -/
namespace Go.Proofs.YtbnobjlphmkgeaaGreatDoor
open Go.RowKit

/-- where a run is free there is one of the runs -/
theorem run_cover : ∀ {S : List Ext} {a n p s : Int}, Tidy a S n → a ≤ p → p + s ≤ n → 1 ≤ s → (∀ e ∈ S, p + s ≤ e.1 ∨ e.1 + e.2 ≤ p) → ∃ h ∈ runsX a S n, h.1 ≤ p ∧ p + s ≤ h.1 + h.2
  | [], a, n, p, s, ht, h1, h2, h3, _ => by
    rw [runsX_nil, if_pos (by omega)]
    exact ⟨_, List.mem_singleton.2 rfl, by dsimp only; omega, by dsimp only; omega⟩
  | e :: r, a, n, p, s, ⟨t1, t2, t3⟩, h1, h2, h3, hall => by
    rw [runsX_cons]
    rcases hall e (List.mem_cons_self ..) with h | h
    · rw [if_pos (by omega)]
      exact ⟨_, List.mem_append_left _ (List.mem_singleton.2 rfl), by dsimp only; omega, by dsimp only; omega⟩
    · obtain ⟨x, hx, hh⟩ := run_cover t3 h h2 h3 (fun y hy => hall y (List.mem_cons_of_mem _ hy))
      exact ⟨x, List.mem_append_right _ hx, hh⟩
theorem fit_exists {n : Int} {l : List Ext} {p size : Int} (h : chkX n l = 0) (h0 : 0 ≤ p) (h1 : 1 ≤ size) (h2 : p + size ≤ n) (hall : ∀ e ∈ l, p + size ≤ e.1 ∨ e.1 + e.2 ≤ p) : fitE n l size = 0 := by
  obtain ⟨o0, o1, _⟩ := chkX_ok h
  obtain ⟨x, hx, hh⟩ := run_cover (tidy_of h) h0 h2 h1 (fun e he => hall e ((sortE_perm l).mem_iff.1 he))
  rw [← holes_runs] at hx
  refine Classical.byContradiction fun hf => ?_
  have := fit_none h hf x hx h1
  omega
theorem takenL_mem {l : Bytes} {e : Ext} : e ∈ takenL l ↔ ∃ k, k < 40 ∧ hasE (rawE l k) = true ∧ e = ((rAt (rawE l k) : Int) - 288, (rLen (rawE l k) : Int)) := by
  unfold takenL entriesL entsL
  simp only [List.map_map, List.mem_map, List.mem_filter, List.mem_range, Function.comp_apply, takeX]
  constructor
  · rintro ⟨k, ⟨h1, h2⟩, rfl⟩; exact ⟨k, h1, h2, rfl⟩
  · rintro ⟨k, h1, h2, rfl⟩; exact ⟨k, ⟨h1, h2⟩, rfl⟩
theorem overE_hit {r s : Bytes} (h : overE r s = false) : hitX ((rAt r : Int) - 288, (rLen r : Int)) ((rAt s : Int) - 288, (rLen s : Int)) = false := by
  rw [hitX_false]
  unfold overE at h
  simp only [Bool.and_eq_false_iff, decide_eq_false_iff_not] at h
  dsimp only
  omega
/-- the extents of a right image are right -/
theorem good_chk {l : Bytes} (hg : Good l) : chkX ((l.length : Int) - 288) (takenL l) = 0 := by
  have hb := hg.bd
  refine chkX_of (by omega) (by omega) (by have := takenL_len l; omega) (fun e he => ?_) ?_
  · obtain ⟨k, hk, hh, rfl⟩ := takenL_mem.1 he
    have := strayE_false (hg.s.fit k hk hh)
    exact badX_of (by dsimp only; omega)
  · unfold takenL entriesL entsL
    rw [List.map_map, List.pairwise_map]
    have hp : (List.range 40).Pairwise (fun a b => a < b) := List.pairwise_lt_range
    have hf := hp.filter (fun k => hasE (rawE l k))
    refine hf.imp_of_mem ?_
    intro a b ha hb' hab
    have ha := List.mem_filter.1 ha
    have hb2 := List.mem_filter.1 hb'
    have h1 := List.mem_range.1 hb2.1
    have := hg.s.apart b h1 a hab hb2.2 ha.2
    rw [overE_symm] at this
    exact overE_hit this
/-- what lies behind the head is not the head's -/
theorem rawE_tail (l x : Bytes) (o j : Nat) (ho : 288 ≤ o) (hx : o + x.length ≤ l.length) (hj : j < 40) : rawE (splice l o x) j = rawE l j := by
  apply List.ext_getElem?
  intro q
  unfold rawE
  rw [List.getElem?_take, List.getElem?_drop, List.getElem?_take, List.getElem?_drop]
  by_cases hq : q < 5
  · rw [if_pos hq, if_pos hq, splice_at _ _ _ _ hx, if_neg (by omega)]
  · rw [if_neg hq, if_neg hq]
theorem rawR_tail (l x : Bytes) (o j : Nat) (ho : 288 ≤ o) (hx : o + x.length ≤ l.length) (hj : j < 8) : rawR (splice l o x) j = rawR l j := by
  apply List.ext_getElem?
  intro q
  unfold rawR
  rw [List.getElem?_take, List.getElem?_drop, List.getElem?_take, List.getElem?_drop]
  by_cases hq : q < 11
  · rw [if_pos hq, if_pos hq, splice_at _ _ _ _ hx, if_neg (by omega)]
  · rw [if_neg hq, if_neg hq]
theorem rawE_root (l x : Bytes) (i j : Nat) (hx : x.length = 11) (hi : i < 8) (hj : j < 40) (hl : 288 ≤ l.length) : rawE (splice l (200 + 11 * i) x) j = rawE l j := by
  apply List.ext_getElem?
  intro q
  unfold rawE
  rw [List.getElem?_take, List.getElem?_drop, List.getElem?_take, List.getElem?_drop]
  by_cases hq : q < 5
  · rw [if_pos hq, if_pos hq, splice_at _ _ _ _ (by omega), if_neg (by omega)]
  · rw [if_neg hq, if_neg hq]
/-- bytes that are cut out elsewhere -/
theorem cut_splice (l x : Bytes) (o a m : Nat) (hx : o + x.length ≤ l.length) (h : a + m ≤ o ∨ o + x.length ≤ a) : ((splice l o x).drop a).take m = (l.drop a).take m := by
  apply List.ext_getElem?
  intro q
  rw [List.getElem?_take, List.getElem?_drop, List.getElem?_take, List.getElem?_drop]
  by_cases hq : q < m
  · rw [if_pos hq, if_pos hq, splice_at _ _ _ _ hx, if_neg (by omega)]
  · rw [if_neg hq, if_neg hq]
theorem cut_splice_in (l x : Bytes) (o a m : Nat) (hx : o + x.length ≤ l.length) (h1 : o ≤ a) (h2 : a + m ≤ o + x.length) : ((splice l o x).drop a).take m = (x.drop (a - o)).take m := by
  apply List.ext_getElem?
  intro q
  rw [List.getElem?_take, List.getElem?_drop, List.getElem?_take, List.getElem?_drop]
  by_cases hq : q < m
  · rw [if_pos hq, if_pos hq, splice_at _ _ _ _ hx, if_pos (by omega)]
    congr 1; omega
  · rw [if_neg hq, if_neg hq]
/-- what Alloc makes of an image -/
structure AllocIs (l l' : Bytes) (k a n t : Nat) : Prop where
  k40 : k < 40
  none : hasE (rawE l k) = false
  least : ∀ i, i < k → hasE (rawE l i) = true
  a0 : 288 ≤ a
  a1 : a + n ≤ l.length
  n0 : 1 ≤ n
  n1 : n ≤ 1000
  t1 : t ≤ 15
  len : l'.length = l.length
  ents : ∀ j, j < 40 → rawE l' j = if j = k then entB a n t else rawE l j
  rots : ∀ i, i < 8 → rawR l' i = rawR l i
  apart : ∀ j, j < 40 → hasE (rawE l j) = true → a + n ≤ rAt (rawE l j) ∨ rAt (rawE l j) + rLen (rawE l j) ≤ a
  zero : (l'.drop a).take n = List.replicate n 0
  rest : ∀ b m, 288 ≤ b → b + m ≤ a ∨ a + n ≤ b → (l'.drop b).take m = (l.drop b).take m
theorem alloc_is {l : Bytes} (hg : Good l) {n t : Int} (h0 : allocE l n t = 0) : ∃ k a n' t' : Nat, n = n' ∧ t = t' ∧ allocH l n t = (k : Int) + 1 ∧ allocA l n = a ∧ AllocIs l (allocL l n t) k a n' t' := by
  have hb := hg.bd
  have hE := h0
  unfold allocE at hE
  by_cases hbad : lenB n = false ∨ tagB t = false
  · rw [if_pos hbad] at hE; cases hE
  · rw [if_neg hbad] at hE
    by_cases hz : fH l 40 = 0 ∨ fitE ((l.length : Int) - 288) (takenL l) n ≠ 0
    · rw [if_pos hz] at hE; cases hE
    · have hn := lenB_true.1 (show lenB n = true by cases hx : lenB n <;> simp_all)
      have ht := tagB_true.1 (show tagB t = true by cases hx : tagB t <;> simp_all)
      have hf : fitE ((l.length : Int) - 288) (takenL l) n = 0 := by omega
      obtain ⟨i1, i2⟩ := alloc_in hf
      rcases fH_spec l 40 (Nat.le_refl _) with ⟨h, _⟩ | ⟨k, k1, k2, k3, k4, k5⟩
      · omega
      obtain ⟨a, ha⟩ := Int.eq_ofNat_of_zero_le (show 0 ≤ allocA l n by omega)
      obtain ⟨n', rfl⟩ := Int.eq_ofNat_of_zero_le (show 0 ≤ n by omega)
      obtain ⟨t', rfl⟩ := Int.eq_ofNat_of_zero_le (show 0 ≤ t by omega)
      have hL : allocL l n' t' = splice (splice l (5 * k) (entB a n' t')) a (List.replicate n' 0) := by
        unfold allocL
        rw [if_pos h0, ha, k3]
        unfold putEnt
        rw [show ((k + 1 : Nat) : Int) = (k : Int) + 1 by omega, entO_k]
        rfl
      have hl1 : (splice l (5 * k) (entB a n' t')).length = l.length := splice_len _ _ _ (by rw [entB_len]; omega)
      have hl2 : (allocL l n' t').length = l.length := by rw [hL, splice_len _ _ _ (by rw [hl1]; simp; omega), hl1]
      refine ⟨k, a, n', t', rfl, rfl, by unfold allocH; rw [if_pos h0, k3]; omega, ha, ⟨k2, k4, fun i hi => k5 i (by omega) hi, by omega, by omega, by omega, by omega, by omega, hl2, fun j hj => ?_, fun i hi => ?_, fun j hj hh => ?_, ?_, fun b m hb0 hbm => ?_⟩⟩
      · rw [hL, rawE_tail _ _ _ _ (by omega) (by rw [hl1]; simp; omega) hj]
        exact rawE_splice l (entB a n' t') k j (entB_len _ _ _) k2 hj (by omega)
      · rw [hL, rawR_tail _ _ _ _ (by omega) (by rw [hl1]; simp; omega) hi]
        exact rawR_head l _ _ _ (by rw [entB_len]; omega) (by omega)
      · have hc := good_chk hg
        obtain ⟨L, m1, m2, m3, _, _⟩ := fit_some hc hf
        have h4 := (holes_mem hc _ m1).2.2.2 _ (takenL_mem.2 ⟨j, hj, hh, rfl⟩)
        unfold allocA at ha
        dsimp only at h4
        omega
      · rw [hL, cut_splice_in _ _ _ _ _ (by rw [hl1]; simp; omega) (by omega) (by simp), Nat.sub_self, List.drop_zero, List.take_of_length_le (by simp)]
      · rw [hL, cut_splice _ _ _ _ _ (by rw [hl1]; simp; omega) (by simpa using hbm), cut_splice _ _ _ _ _ (by rw [entB_len]; omega) (by rw [entB_len]; omega)]
theorem AllocIs.ent {l l' : Bytes} {k a n t : Nat} (h : AllocIs l l' k a n t) (hb : l.length ≤ 6400) : hasE (rawE l' k) = true ∧ rAt (rawE l' k) = a ∧ rLen (rawE l' k) = n ∧ rTag (rawE l' k) = t := by
  rw [h.ents k h.k40, if_pos rfl]
  exact entB_rd a n t (by have := h.a1; omega) (by have := h.n1; omega) h.t1
theorem AllocIs.good {l l' : Bytes} {k a n t : Nat} (h : AllocIs l l' k a n t) (hg : Good l) : Good l' := by
  have hb := hg.bd
  obtain ⟨e1, e2, e3, e4⟩ := entB_rd a n t (by have := h.a1; omega) (by have := h.n1; omega) h.t1
  refine good_iff.2 ⟨by rw [h.len]; exact hg.len, ?_⟩
  rw [h.len]
  have h1 : GoodS l.length (rawE l') (rawR l) := by
    refine hg.s.putE k h.k40 (entB a n t) h.ents e1 ?_ (fun j hj _ hh => ?_)
    · unfold strayE
      rw [e2, e3, e4, tagB_true.2 ⟨by omega, by have := h.t1; omega⟩, lenB_true.2 ⟨by have := h.n0; omega, by have := h.n1; omega⟩, withinB_true.2 ⟨by have := h.a0; omega, by have := h.a1; omega, by have := h.a1; omega⟩]
      rfl
    · have := h.apart j hj hh
      unfold overE
      rw [e2, e3]
      simp only [Bool.and_eq_false_iff, decide_eq_false_iff_not]
      omega
  exact h1.putR 0 (rawR l 0) (fun j hj => by rw [h.rots j hj]; split <;> simp_all) (by
    cases hz : zeroE (rawR l 0) with
    | true => exact .inl rfl
    | false => exact .inr ⟨h1.root 0 (by omega) hz, fun j hj hne hz' => (h1.name j hj 0 (by omega) hz' hz).symm⟩)
theorem alloc_good {l : Bytes} (hg : Good l) (n t : Int) : Good (allocL l n t) := by
  by_cases h0 : allocE l n t = 0
  · obtain ⟨k, a, n', t', _, _, _, _, h⟩ := alloc_is hg h0
    exact h.good hg
  · have : allocL l n t = l := by unfold allocL; rw [if_neg h0]
    rw [this]; exact hg
theorem rootsL_mem {l : Bytes} {x : Bytes × Nat} : x ∈ rootsL l ↔ ∃ i, i < 8 ∧ zeroE (rawR l i) = false ∧ x = rootP (rawR l i) := by
  unfold rootsL rootsF
  simp only [List.mem_map, List.mem_filter, List.mem_range, Bool.not_eq_true']
  constructor
  · rintro ⟨i, ⟨h1, h2⟩, rfl⟩; exact ⟨i, h1, h2, rfl⟩
  · rintro ⟨i, h1, h2, rfl⟩; exact ⟨i, ⟨h1, h2⟩, rfl⟩
/-- what Free makes of an image -/
structure FreeIs (l l' : Bytes) (k : Nat) : Prop where
  k40 : k < 40
  has : hasE (rawE l k) = true
  len : l'.length = l.length
  ents : ∀ j, j < 40 → rawE l' j = if j = k then List.replicate 5 0 else rawE l j
  rots : ∀ i, i < 8 → rawR l' i = rawR l i
  nol : ∀ i, i < 8 → zeroE (rawR l i) = false → ((rawR l i).getD 10 0).toNat ≠ k + 1
  rest : ∀ b m, 288 ≤ b → (l'.drop b).take m = (l.drop b).take m
theorem free_is {l : Bytes} (hg : Good l) {x : Int} (h0 : freeE l x = 0) : ∃ k : Nat, x = (k : Int) + 1 ∧ FreeIs l (freeL l x) k := by
  have hb := hg.bd
  have hQ := h0
  unfold freeE at hQ
  by_cases hx : hE l x = 0
  · rw [if_neg (by simp [hx])] at hQ
    obtain ⟨k, hk, rfl, hh, _⟩ := hE_zero hx
    have hno : (rootsL l).any (fun r => (r.2 : Int) == (k : Int) + 1) = false := by
      cases ha : (rootsL l).any (fun r => (r.2 : Int) == (k : Int) + 1) with
      | false => rfl
      | true => rw [ha] at hQ; simp at hQ
    have hL : freeL l ((k : Int) + 1) = splice l (5 * k) (List.replicate 5 0) := by
      unfold freeL
      rw [if_pos h0, show ((k : Int) + 1 - 1).toNat = k by omega]
    rw [List.any_eq_false] at hno
    refine ⟨k, rfl, ⟨hk, hh, by rw [hL]; exact splice_len _ _ _ (by simp; omega), fun j hj => ?_, fun i hi => ?_, fun i hi hz => ?_, fun b m hb0 => ?_⟩⟩
    · rw [hL]; exact rawE_splice l _ k j (by simp) hk hj (by omega)
    · rw [hL]; exact rawR_head l _ _ _ (by simp; omega) (by omega)
    · have h1 := hno _ (rootsL_mem.2 ⟨i, hi, hz, rfl⟩)
      simp only [rootP, beq_iff_eq] at h1
      omega
    · rw [hL]; exact cut_splice _ _ _ _ _ (by simp; omega) (by simp; omega)
  · rw [if_pos hx] at hQ; exact absurd hQ hx
theorem FreeIs.good {l l' : Bytes} {k : Nat} (h : FreeIs l l' k) (hg : Good l) : Good l' := by
  refine good_iff.2 ⟨by rw [h.len]; exact hg.len, ?_⟩
  rw [h.len]
  have h1 : GoodS l.length (rawE l') (rawR l) := hg.s.dropE k h.k40 h.ents h.nol
  exact h1.putR 0 (rawR l 0) (fun j hj => by rw [h.rots j hj]; split <;> simp_all) (by
    cases hz : zeroE (rawR l 0) with
    | true => exact .inl rfl
    | false => exact .inr ⟨h1.root 0 (by omega) hz, fun j hj hne hz' => (h1.name j hj 0 (by omega) hz' hz).symm⟩)
theorem free_good {l : Bytes} (hg : Good l) (x : Int) : Good (freeL l x) := by
  by_cases h0 : freeE l x = 0
  · obtain ⟨k, _, h⟩ := free_is hg h0
    exact h.good hg
  · have : freeL l x = l := by unfold freeL; rw [if_neg h0]
    rw [this]; exact hg
end Go.Proofs.YtbnobjlphmkgeaaGreatDoor
/- HeapKeeps, the plain law: what an Alloc and a Write leave as it was. -/
namespace Go.Proofs.YtbnobjlphmkgeaaGreatDoor
open Go.RowKit

theorem obj_congr {l l' : Bytes} {k : Nat} (he : rawE l' k = rawE l k) (hs : hasE (rawE l k) = true → (l'.drop (rAt (rawE l k))).take (rLen (rawE l k)) = (l.drop (rAt (rawE l k))).take (rLen (rawE l k))) : objT l' k = objT l k ∧ objS l' k = objS l k := by
  unfold objT objS
  rw [he]
  by_cases h : hasE (rawE l k) = true
  · simp only [if_pos h, hs h]; exact ⟨trivial, trivial⟩
  · simp only [if_neg h]; exact ⟨trivial, trivial⟩
theorem hd_of {l : Bytes} {k : Nat} (hk : k < 40) (hh : hasE (rawE l k) = true) : hE l ((k : Int) + 1) = 0 ∧ gA l ((k : Int) + 1) = rAt (rawE l k) ∧ gL l ((k : Int) + 1) = rLen (rawE l k) ∧ gT l ((k : Int) + 1) = rTag (rawE l k) := by
  obtain ⟨h0, h1⟩ := hE_has hk hh
  unfold gA gL gT
  rw [if_pos h0, if_pos h0, if_pos h0, h1]
  exact ⟨h0, rfl, rfl, rfl⟩
section
variable {l l' : Bytes} {k a n t : Nat}
theorem AllocIs.keep (h : AllocIs l l' k a n t) (hg : Good l) {j : Nat} (hj : j < 40) (hne : j ≠ k) : objT l' j = objT l j ∧ objS l' j = objS l j := by
  refine obj_congr (by rw [h.ents j hj, if_neg hne]) fun hh => ?_
  have := strayE_false (hg.s.fit j hj hh)
  have := h.apart j hj hh
  exact h.rest _ _ (by omega) (by omega)
theorem AllocIs.hd (h : AllocIs l l' k a n t) (hg : Good l) : hE l' ((k : Int) + 1) = 0 ∧ gA l' ((k : Int) + 1) = a ∧ gL l' ((k : Int) + 1) = n ∧ gT l' ((k : Int) + 1) = t := by
  obtain ⟨e1, e2, e3, e4⟩ := h.ent hg.bd.2
  have := hd_of h.k40 e1
  rw [e2, e3, e4] at this
  exact this
theorem some_zero {x o m : Int} (h0 : hE l x = 0) (h1 : 0 ≤ o) (h2 : 0 ≤ m) (h3 : o + m ≤ gL l x) : someE l x o m = 0 := by
  unfold someE
  rw [if_neg (by omega), if_neg (by omega)]
theorem AllocIs.read (h : AllocIs l l' k a n t) (hg : Good l) : someE l' ((k : Int) + 1) 0 n = 0 ∧ readL l' ((k : Int) + 1) 0 n = List.replicate n 0 := by
  obtain ⟨e1, e2, e3, e4⟩ := h.hd hg
  have h0 : someE l' ((k : Int) + 1) 0 n = 0 := some_zero e1 (by omega) (by omega) (by omega)
  refine ⟨h0, ?_⟩
  unfold readL
  rw [if_pos h0, e2, show ((a : Int) + 0).toNat = a by omega, Int.toNat_natCast]
  exact h.zero
/-- what Write makes of an image -/
structure WriteIs (l l' : Bytes) (k o : Nat) (b : Bytes) : Prop where
  k40 : k < 40
  has : hasE (rawE l k) = true
  o0 : 288 ≤ o
  o1 : o + b.length ≤ l.length
  at0 : rAt (rawE l k) ≤ o
  at1 : o + b.length ≤ rAt (rawE l k) + rLen (rawE l k)
  eq : l' = splice l o b
theorem write_is (hg : Good l) {x c : Int} {b : Bytes} (h : someE l x c b.length = 0) : ∃ k o : Nat, x = (k : Int) + 1 ∧ gA l x + c = o ∧ WriteIs l (writeL l x c b) k o b := by
  obtain ⟨h0, h1, h2, h3, h4, h5, h6, h7⟩ := some_in hg h
  obtain ⟨k, hk, rfl, hh, he⟩ := hE_zero h0
  obtain ⟨_, f1, f2, f3⟩ := hd_of hk hh
  obtain ⟨o, ho⟩ := Int.eq_ofNat_of_zero_le (show 0 ≤ gA l ((k : Int) + 1) + c by omega)
  refine ⟨k, o, rfl, ho, hk, hh, by omega, by omega, by omega, by omega, ?_⟩
  unfold writeL
  rw [if_pos h, ho]
  rfl
variable {o : Nat} {b : Bytes}
theorem WriteIs.len (h : WriteIs l l' k o b) : l'.length = l.length := by rw [h.eq]; exact splice_len _ _ _ h.o1
theorem WriteIs.ents (h : WriteIs l l' k o b) (j : Nat) (hj : j < 40) : rawE l' j = rawE l j := by rw [h.eq]; exact rawE_tail _ _ _ _ h.o0 h.o1 hj
theorem WriteIs.rots (h : WriteIs l l' k o b) (j : Nat) (hj : j < 8) : rawR l' j = rawR l j := by rw [h.eq]; exact rawR_tail _ _ _ _ h.o0 h.o1 hj
theorem Good.apart {l : Bytes} (hg : Good l) {j k : Nat} (hj : j < 40) (hk : k < 40) (hne : j ≠ k) (h1 : hasE (rawE l j) = true) (h2 : hasE (rawE l k) = true) : overE (rawE l k) (rawE l j) = false := by
  rcases Nat.lt_or_gt_of_ne hne with h | h
  · exact hg.s.apart k hk j h h2 h1
  · rw [overE_symm]; exact hg.s.apart j hj k h h1 h2
theorem WriteIs.good (h : WriteIs l l' k o b) (hg : Good l) : Good l' := by
  refine good_iff.2 ⟨by rw [h.len]; exact hg.len, ?_⟩
  rw [h.len]
  have h1 : GoodS l.length (rawE l') (rawR l) := hg.s.putE k h.k40 (rawE l k) (fun j hj => by rw [h.ents j hj]; split <;> simp_all) h.has (hg.s.fit k h.k40 h.has) (fun j hj hne hh => hg.apart hj h.k40 hne hh h.has)
  exact h1.putR 0 (rawR l 0) (fun j hj => by rw [h.rots j hj]; split <;> simp_all) (by
    cases hz : zeroE (rawR l 0) with
    | true => exact .inl rfl
    | false => exact .inr ⟨h1.root 0 (by omega) hz, fun j hj hne hz' => (h1.name j hj 0 (by omega) hz' hz).symm⟩)
theorem write_good (hg : Good l) (x c : Int) (b : Bytes) : Good (writeL l x c b) := by
  by_cases h : someE l x c b.length = 0
  · obtain ⟨k, o, _, _, hw⟩ := write_is hg h
    exact hw.good hg
  · have : writeL l x c b = l := by unfold writeL; rw [if_neg h]
    rw [this]; exact hg
theorem WriteIs.keep (h : WriteIs l l' k o b) (hg : Good l) {j : Nat} (hj : j < 40) (hne : j ≠ k) : objT l' j = objT l j ∧ objS l' j = objS l j := by
  refine obj_congr (h.ents j hj) fun hh => ?_
  have := hg.apart hj h.k40 hne hh h.has
  unfold overE at this
  simp only [Bool.and_eq_false_iff, decide_eq_false_iff_not] at this
  have := h.at0
  have := h.at1
  rw [h.eq]
  exact cut_splice _ _ _ _ _ h.o1 (by omega)
theorem WriteIs.some (h : WriteIs l l' k o b) (x c m : Int) : someE l' x c m = someE l x c m ∧ gA l' x = gA l x := by
  have hx : hE l' x = hE l x ∧ (hE l x = 0 → hR l' x = hR l x) := by
    unfold hE hR
    by_cases hb : handleB x = false
    · rw [if_pos hb, if_pos hb]; exact ⟨rfl, fun h => by cases h⟩
    · have := handleB_true.1 (show handleB x = true by cases hx : handleB x <;> simp_all)
      rw [if_neg hb, if_neg hb, h.ents (x - 1).toNat (by omega)]
      exact ⟨rfl, fun _ => rfl⟩
  have hgl : gL l' x = gL l x ∧ gA l' x = gA l x := by
    unfold gL gA
    rw [hx.1]
    by_cases h0 : hE l x = 0
    · rw [if_pos h0, if_pos h0, if_pos h0, if_pos h0, hx.2 h0]; exact ⟨rfl, rfl⟩
    · rw [if_neg h0, if_neg h0, if_neg h0, if_neg h0]; exact ⟨rfl, rfl⟩
  unfold someE
  rw [hx.1, hgl.1]
  exact ⟨rfl, hgl.2⟩
end
theorem write_read {l : Bytes} (hg : Good l) {x c : Int} {b : Bytes} (h : someE l x c b.length = 0) : someE (writeL l x c b) x c b.length = 0 ∧ readL (writeL l x c b) x c b.length = b := by
  obtain ⟨k, o, _, ho, hw⟩ := write_is hg h
  obtain ⟨h1, h2⟩ := hw.some x c b.length
  rw [h] at h1
  refine ⟨h1, ?_⟩
  unfold readL
  rw [if_pos h1, h2, ho, Int.toNat_natCast, Int.toNat_natCast, hw.eq, cut_splice_in _ _ _ _ _ hw.o1 (Nat.le_refl _) (Nat.le_refl _), Nat.sub_self, List.drop_zero, List.take_of_length_le (Nat.le_refl _)]
theorem alloc_read {l : Bytes} (hg : Good l) {n t : Int} (h : allocE l n t = 0) : 1 ≤ n ∧ n ≤ 1000 ∧ 1 ≤ allocH l n t ∧ allocH l n t ≤ 40 ∧ someE (allocL l n t) (allocH l n t) 0 n = 0 ∧ readL (allocL l n t) (allocH l n t) 0 n = List.replicate n.toNat 0 ∧ hE (allocL l n t) (allocH l n t) = 0 ∧ gT (allocL l n t) (allocH l n t) = t := by
  obtain ⟨k, a, n', t', hn, ht, hH, _, hi⟩ := alloc_is hg h
  have h1 := hi.read hg
  have h2 := hi.hd hg
  have := hi.k40
  have := hi.n0
  have := hi.n1
  rw [hH, ht]
  rw [hn] at h1 h2 ⊢
  rw [ht] at h1 h2
  refine ⟨by omega, by omega, by omega, by omega, h1.1, ?_, h2.1, h2.2.2.2⟩
  rw [h1.2, Int.toNat_natCast]
end Go.Proofs.YtbnobjlphmkgeaaGreatDoor
/- Where a name's root lies, and the first that is free: root.place. -/
namespace Go.Proofs.YtbnobjlphmkgeaaGreatDoor
open Go.RowKit

/-- after j rounds, from the last root down: where the name lies, which root is free (-1: nowhere) -/
def placeF (l s : Bytes) : Nat → Int × Int
  | 0 => (-1, -1)
  | j + 1 => if zeroE (rawR l (7 - j)) = true then ((placeF l s j).1, ((7 - j : Nat) : Int)) else if nmR (rawR l (7 - j)) = s then (((7 - j : Nat) : Int), (placeF l s j).2) else placeF l s j
theorem Good.got {l : Bytes} (h : Good l) {i : Nat} (hi : i < 8) (hz : zeroE (rawR l i) = false) : gotName ((rawR l i).take 8) = true := by
  have := h.s.root i hi hz
  unfold badR at this
  simp only [Bool.or_eq_false_iff] at this
  simpa using this.1.1.1
theorem placeF_spec (l s : Bytes) : ∀ j, j ≤ 8 →
    (((placeF l s j).1 = -1 ∧ ∀ i, 8 - j ≤ i → i < 8 → zeroE (rawR l i) = false → nmR (rawR l i) ≠ s) ∨ (∃ i : Nat, 8 - j ≤ i ∧ i < 8 ∧ (placeF l s j).1 = i ∧ zeroE (rawR l i) = false ∧ nmR (rawR l i) = s ∧ ∀ q, 8 - j ≤ q → q < i → zeroE (rawR l q) = false → nmR (rawR l q) ≠ s)) ∧
    (((placeF l s j).2 = -1 ∧ ∀ i, 8 - j ≤ i → i < 8 → zeroE (rawR l i) = false) ∨ (∃ i : Nat, 8 - j ≤ i ∧ i < 8 ∧ (placeF l s j).2 = i ∧ zeroE (rawR l i) = true ∧ ∀ q, 8 - j ≤ q → q < i → zeroE (rawR l q) = false))
  | 0, _ => ⟨.inl ⟨rfl, fun i h1 h2 => by omega⟩, .inl ⟨rfl, fun i h1 h2 => by omega⟩⟩
  | j + 1, hj => by
    obtain ⟨h1, h2⟩ := placeF_spec l s j (by omega)
    have hcut : ∀ i, 8 - (j + 1) ≤ i → i < 8 → i = 7 - j ∨ 8 - j ≤ i := fun i _ _ => by omega
    cases hz : zeroE (rawR l (7 - j)) with
    | true =>
      have e : placeF l s (j + 1) = ((placeF l s j).1, ((7 - j : Nat) : Int)) := by rw [placeF, if_pos hz]
      rw [e]
      refine ⟨?_, .inr ⟨7 - j, by omega, by omega, rfl, hz, fun q q1 q2 => by omega⟩⟩
      rcases h1 with ⟨a, b⟩ | ⟨i, a, b, c, d, f, g⟩
      · refine .inl ⟨a, fun i i1 i2 i3 => ?_⟩
        rcases hcut i i1 i2 with rfl | hi
        · rw [hz] at i3; cases i3
        · exact b i hi i2 i3
      · refine .inr ⟨i, by omega, b, c, d, f, fun q q1 q2 q3 => ?_⟩
        rcases hcut q q1 (by omega) with rfl | hq
        · rw [hz] at q3; cases q3
        · exact g q hq q2 q3
    | false =>
      have hfree : ∀ v : Int × Int, v.2 = (placeF l s j).2 → ((v.2 = -1 ∧ ∀ i, 8 - (j + 1) ≤ i → i < 8 → zeroE (rawR l i) = false) ∨ (∃ i : Nat, 8 - (j + 1) ≤ i ∧ i < 8 ∧ v.2 = i ∧ zeroE (rawR l i) = true ∧ ∀ q, 8 - (j + 1) ≤ q → q < i → zeroE (rawR l q) = false)) := fun v hv => by
        rw [hv]
        rcases h2 with ⟨a, b⟩ | ⟨i, a, b, c, d, f⟩
        · refine .inl ⟨a, fun i i1 i2 => ?_⟩
          rcases hcut i i1 i2 with rfl | hi
          · exact hz
          · exact b i hi i2
        · refine .inr ⟨i, by omega, b, c, d, fun q q1 q2 => ?_⟩
          rcases hcut q q1 (by omega) with rfl | hq
          · exact hz
          · exact f q hq q2
      by_cases hn : nmR (rawR l (7 - j)) = s
      · have e : placeF l s (j + 1) = (((7 - j : Nat) : Int), (placeF l s j).2) := by rw [placeF, if_neg (by rw [hz]; decide), if_pos hn]
        rw [e]
        exact ⟨.inr ⟨7 - j, by omega, by omega, rfl, hz, hn, fun q q1 q2 => by omega⟩, hfree _ rfl⟩
      · have e : placeF l s (j + 1) = placeF l s j := by rw [placeF, if_neg (by rw [hz]; decide), if_neg hn]
        rw [e]
        refine ⟨?_, hfree _ rfl⟩
        rcases h1 with ⟨a, b⟩ | ⟨i, a, b, c, d, f, g⟩
        · refine .inl ⟨a, fun i i1 i2 i3 => ?_⟩
          rcases hcut i i1 i2 with rfl | hi
          · exact hn
          · exact b i hi i2 i3
        · refine .inr ⟨i, by omega, b, c, d, f, fun q q1 q2 q3 => ?_⟩
          rcases hcut q q1 (by omega) with rfl | hq
          · exact hn
          · exact g q hq q2 q3
section
variable {w0 w : World} {F : Nat → Prop} {h : Nat} {l : Bytes}
set_option maxRecDepth 100000 in
set_option maxHeartbeats 2000000 in
theorem place_any (s : Bytes) (hp : Hp w0 w F h l) (hg : Good l) :
    Calls Tryz.prog 83 #[.pointer (some ⟨h, 0, none⟩), sv s] w fun e w' => e = .returned (.tuple #[.int .i64 (placeF l s 8).1, .int .i64 (placeF l s 8).2]) ∧ Below w.heap.size w w' := by
  have hb := rightB_true.1 hp.len
  have HC := Hidden.mk (hbytes_ok _ _ F h l hp)
  have HLEN : Hidden (∀ k : Nat, k < 8 → (rawR l k).length = 11) := ⟨fun k hk => rawR_len l k hk (by omega)⟩
  have HGOT : Hidden (∀ k : Nat, k < 8 → zeroE (rawR l k) = false → gotName ((rawR l k).take 8) = true) := ⟨fun k hk hz => hg.got hk hz⟩
  have HCUT : Hidden (∀ (W : World) g cap, Row W 5 g cap l → ∀ k, k < 8 → Rd W (some ⟨g, 0 + (200 + 11 * k), none⟩) (rawR l k)) := ⟨fun W g cap hr k hk => by
    have hx := rawR_rd hr.rd k hk (by omega)
    rw [Option.map_some, Addr.add_lit] at hx
    exact hx⟩
  have HNX : Hidden (∀ j, placeF l s (j + 1) = if zeroE (rawR l (7 - j)) = true then ((placeF l s j).1, ((7 - j : Nat) : Int)) else if nmR (rawR l (7 - j)) = s then (((7 - j : Nat) : Int), (placeF l s j).2) else placeF l s j) := ⟨fun j => by rw [placeF]⟩
  have HZ : Hidden (placeF l s 0 = (-1, -1)) := ⟨rfl⟩
  generalize placeF l s = P at *
  clear hp hg
  go_enter Tryz.func83, Tryz.ntmps83
  go_wp2_with fail
  refine HC.out.mono ?_
  rintro e w1 ⟨g, cap, rfl, hg1, hrow, hb1⟩
  have HROW := Hidden.mk hrow
  have HB1 := Hidden.mk hb1
  have hcap := hrow.le.1
  clear hg1 hrow hb1 HC
  go_wp2_with fail
  go_loopg [4, 5, 7] 8 (fun q a f i wr => ∃ j : Nat, j ≤ 8 ∧ q = 8 - j ∧ i = .int .i64 (7 - (j : Int)) ∧ a = .int .i64 (P j).1 ∧ f = .int .i64 (P j).2 ∧ Hidden (Below w1.heap.size w1 wr))
  case atStart => exact ⟨0, by omega, rfl, rfl, by rw [HZ.out], by rw [HZ.out], ⟨Below.refl _ _⟩⟩
  case round =>
    obtain ⟨j, hj, rfl, rfl, rfl, rfl, hst⟩ := hrel
    by_cases hlt : j < 8
    · obtain ⟨i, hi⟩ : ∃ i : Nat, i = 7 - j := ⟨_, rfl⟩
      have hii : (7 - (j : Int)) = (i : Int) := by omega
      have HNJ := Hidden.mk (HNX.out j)
      have s1 : IntKind.i64.wrap ((i : Int) - 1) = (i : Int) - 1 := IntWalk.i64_in _ (by omega)
      have t0 : decide (0 ≤ (i : Int)) = true := by simp
      have hi8 : i < 8 := by omega
      rw [hii]
      rw [← hi] at HNJ
      have hrw := HCUT.out wr g cap (HROW.out.block (hst.out.block _ HROW.out.lt)) i hi8
      have HLK := Hidden.mk (HLEN.out i hi8)
      have HGK := Hidden.mk (HGOT.out i hi8)
      generalize rawR l i = r at *
      have HI := Hidden.mk hi
      clear hi hii
      go_wp2_with fail
      refine (rawRoot_any (some ⟨g, 0, none⟩) l.length cap (i : Int) _ (by omega) (by omega) (by omega) hcap).mono ?_
      rintro e w2 ⟨rfl, rfl⟩
      rw [rootO_k, Option.map_some, Addr.add_lit]
      generalize hcc : cap - (200 + 11 * i) = cc at *
      have hc8 : 8 ≤ cc := by omega
      generalize 0 + (200 + 11 * i) = oo at *
      clear hcc
      go_wp2_with fail
      refine (izero_any _ 11 _ r _ HLK.out (by simp [maxLen]) hrw).mono ?_
      rintro e w3 ⟨rfl, rfl⟩
      cases hz : zeroE r with
      | true =>
        have HPJ := Hidden.mk (show P (j + 1) = ((P j).1, (i : Int)) by rw [HNJ.out, if_pos hz])
        clear HNJ hz HGK hrw
        go_wp2_with fail
        go_roundg (8 - (j + 1))
        case measure => omega
        case rel => exact ⟨j + 1, by omega, rfl, by rw [show (7 - ((j + 1 : Nat) : Int)) = (i : Int) - 1 by have := HI.out; omega], by rw [HPJ.out], by rw [HPJ.out], hst⟩
      | false =>
        have HPJ := Hidden.mk (show P (j + 1) = if nmR r = s then ((i : Int), (P j).2) else P j by rw [HNJ.out, if_neg (by rw [hz]; decide)])
        have hgn := HGK.out hz
        have HGN := Hidden.mk (getName_any (some ⟨g, oo, none⟩) cc (r.take 8) wr (by simp [HLK.out]) hc8 (hrw.take 8 (by rw [HLK.out]; omega)))
        rw [if_pos hgn] at HGN
        rw [show nameAt (r.take 8) = nmR r from rfl] at HGN
        clear HNJ hz HGK hgn hrw HLK
        generalize nmR r = nm at *
        go_wp2_with fail
        refine HGN.out.mono ?_
        rintro e w4 ⟨rfl, hb4⟩
        have HB4 := Hidden.mk (hst.out.trans (hb4.mono hst.out.size))
        clear hb4 hst HGN
        by_cases hn : nm = s
        · have d1 : (nm == s) = true := by simpa using hn
          have HPJ := Hidden.mk (show P (j + 1) = ((i : Int), (P j).2) by rw [HPJ.out, if_pos hn])
          clear hn
          go_wp2_with fail
          go_roundg (8 - (j + 1))
          case measure => omega
          case rel => exact ⟨j + 1, by omega, rfl, by rw [show (7 - ((j + 1 : Nat) : Int)) = (i : Int) - 1 by have := HI.out; omega], by rw [HPJ.out], by rw [HPJ.out], HB4⟩
        · have d1 : (nm == s) = false := by simpa using hn
          have HPJ := Hidden.mk (show P (j + 1) = P j by rw [HPJ.out, if_neg hn])
          clear hn
          go_wp2_with fail
          go_roundg (8 - (j + 1))
          case measure => omega
          case rel => exact ⟨j + 1, by omega, rfl, by rw [show (7 - ((j + 1 : Nat) : Int)) = (i : Int) - 1 by have := HI.out; omega], by rw [HPJ.out], by rw [HPJ.out], HB4⟩
    · obtain rfl : j = 8 := by omega
      have t0 : decide ((0 : Int) ≤ 7 - ((8 : Nat) : Int)) = false := by decide
      have HE := Hidden.mk (HB1.out.trans (hst.out.mono HB1.out.size))
      clear hst
      go_wp2_with fail
      go_ret2
      exact ⟨rfl, HE.out⟩
end
end Go.Proofs.YtbnobjlphmkgeaaGreatDoor
/- root.Set, of a right name and an object that is there. -/
namespace Go.Proofs.YtbnobjlphmkgeaaGreatDoor
open Go.RowKit

/-- where a name's root is set: its own place, else the first that is free -/
def setAt (l s : Bytes) : Int := if (placeF l s 8).1 < 0 then (placeF l s 8).2 else (placeF l s 8).1
section
variable {w0 w : World} {F : Nat → Prop} {h : Nat} {l : Bytes}
set_option maxRecDepth 100000 in
theorem rset_full (s : Bytes) (x : Int) (hp : Hp w0 w F h l) (hg : Good l) (hn : isName s = true) (hx : hE l x = 0) (ha : setAt l s < 0) :
    Calls Tryz.prog 19 #[.pointer (some ⟨h, 0, none⟩), sv s, .int .i64 x] w fun e w' => e = .returned (.tuple #[.bool false, .iface 111 (.int .i64 4)]) ∧ Below w.heap.size w w' := by
  have HP := Hidden.mk hp
  have HG := Hidden.mk hg
  have HX := Hidden.mk hx
  have HC := Hidden.mk (putName_ok s w hn)
  have h1 : (placeF l s 8).1 < 0 := by
    unfold setAt at ha
    by_cases h : (placeF l s 8).1 < 0
    · exact h
    · rw [if_neg h] at ha; exact absurd ha h
  have h2 : (placeF l s 8).2 < 0 := by
    unfold setAt at ha
    rw [if_pos h1] at ha; exact ha
  have HPL : Hidden (∀ W, Below w.heap.size w W → Calls Tryz.prog 83 #[.pointer (some ⟨h, 0, none⟩), sv s] W fun e w' => e = .returned (.tuple #[.int .i64 (placeF l s 8).1, .int .i64 (placeF l s 8).2]) ∧ Below W.heap.size W w') := ⟨fun W hW => place_any s (hp.below hW) hg⟩
  generalize (placeF l s 8).1 = p1 at *
  generalize (placeF l s 8).2 = p2 at *
  have d1 : decide (p1 < 0) = true := by simpa using h1
  have d2 : decide (p2 < 0) = true := by simpa using h2
  clear hp hg hn hx ha h1 h2
  go_enter Tryz.func19, Tryz.ntmps19
  go_wp2_with fail
  refine HC.out.mono ?_
  rintro e w1 ⟨gn, rfl, -, -, hb1⟩
  have HB1 := Hidden.mk hb1
  have HT := Hidden.mk (htag_any x (HP.out.below hb1))
  rw [HX.out, show errV 0 = Value.nilIface from rfl] at HT
  clear hb1 HC
  go_wp2_with fail
  refine HT.out.mono ?_
  rintro e w2 ⟨rfl, hb2⟩
  have HB2 := Hidden.mk (HB1.out.trans (hb2.mono HB1.out.size))
  clear hb2 HT HB1
  go_wp2_with fail
  refine (HPL.out w2 HB2.out).mono ?_
  rintro e w3 ⟨rfl, hb3⟩
  have HB3 := Hidden.mk (HB2.out.trans (hb3.mono HB2.out.size))
  clear hb3 HPL HB2
  go_wp2_with fail
  go_ret2
  exact ⟨rfl, HB3.out⟩
set_option maxRecDepth 100000 in
theorem rset_ok (s : Bytes) (x : Int) (i : Nat) (hp : Hp w0 w F h l) (hg : Good l) (hn : isName s = true) (hx : hE l x = 0) (hi : i < 8) (ha : setAt l s = i) :
    Calls Tryz.prog 19 #[.pointer (some ⟨h, 0, none⟩), sv s, .int .i64 x] w fun e w' => e = .returned (.tuple #[.bool (decide ((placeF l s 8).1 < 0)), .nilIface]) ∧ ∃ F', HpM w0 w w' F F' h (splice l (200 + 11 * i) (putRo s x)) := by
  have HP := Hidden.mk hp
  have HX := Hidden.mk hx
  have HC := Hidden.mk (putName_ok s w hn)
  have hhb : handleB x = true := by
    unfold hE at hx
    cases hb : handleB x with
    | true => rfl
    | false => rw [hb] at hx; simp at hx
  have HPR : Hidden (∀ W, Below w.heap.size w W → Calls Tryz.prog 84 #[.pointer (some ⟨h, 0, none⟩), .int .i64 (i : Int), .agg #[sv s, .int .i64 x]] W fun e w' => e = .returned .nilIface ∧ ∃ F', HpM w0 W w' F F' h (splice l (200 + 11 * i) (putRo s x))) := ⟨fun W hW => hroot_ok i s x (hp.below hW) hi (.inr ⟨hhb, hn⟩)⟩
  have HPL : Hidden (∀ W, Below w.heap.size w W → Calls Tryz.prog 83 #[.pointer (some ⟨h, 0, none⟩), sv s] W fun e w' => e = .returned (.tuple #[.int .i64 (placeF l s 8).1, .int .i64 (placeF l s 8).2]) ∧ Below W.heap.size W w') := ⟨fun W hW => place_any s (hp.below hW) hg⟩
  unfold setAt at ha
  generalize splice l (200 + 11 * i) (putRo s x) = l' at *
  generalize (placeF l s 8).1 = p1 at *
  generalize (placeF l s 8).2 = p2 at *
  have d3 : decide ((i : Int) < 0) = false := by simp
  clear hp hg hn hhb
  by_cases h1 : p1 < 0
  · have d1 : decide (p1 < 0) = true := by simpa using h1
    rw [if_pos h1] at ha
    subst ha
    clear hx hi h1
    go_enter Tryz.func19, Tryz.ntmps19
    go_wp2_with fail
    refine HC.out.mono ?_
    rintro e w1 ⟨gn, rfl, -, -, hb1⟩
    have HB1 := Hidden.mk hb1
    have HT := Hidden.mk (htag_any x (HP.out.below hb1))
    rw [HX.out, show errV 0 = Value.nilIface from rfl] at HT
    clear hb1 HC
    go_wp2_with fail
    refine HT.out.mono ?_
    rintro e w2 ⟨rfl, hb2⟩
    have HB2 := Hidden.mk (HB1.out.trans (hb2.mono HB1.out.size))
    clear hb2 HT HB1
    go_wp2_with fail
    refine (HPL.out w2 HB2.out).mono ?_
    rintro e w3 ⟨rfl, hb3⟩
    have HB3 := Hidden.mk (HB2.out.trans (hb3.mono HB2.out.size))
    clear hb3 HPL HB2
    go_wp2_with fail
    refine (HPR.out w3 HB3.out).mono ?_
    rintro e w4 ⟨rfl, F', hm⟩
    have HF := Hidden.mk ((HP.out.same HB3.out).trans hm)
    clear hm HPR HB3
    go_wp2_with fail
    go_ret2
    exact ⟨by rw [d1]; rfl, F', HF.out⟩
  · have d1 : decide (p1 < 0) = false := by simpa using h1
    rw [if_neg h1] at ha
    subst ha
    clear hx hi h1
    go_enter Tryz.func19, Tryz.ntmps19
    go_wp2_with fail
    refine HC.out.mono ?_
    rintro e w1 ⟨gn, rfl, -, -, hb1⟩
    have HB1 := Hidden.mk hb1
    have HT := Hidden.mk (htag_any x (HP.out.below hb1))
    rw [HX.out, show errV 0 = Value.nilIface from rfl] at HT
    clear hb1 HC
    go_wp2_with fail
    refine HT.out.mono ?_
    rintro e w2 ⟨rfl, hb2⟩
    have HB2 := Hidden.mk (HB1.out.trans (hb2.mono HB1.out.size))
    clear hb2 HT HB1
    go_wp2_with fail
    refine (HPL.out w2 HB2.out).mono ?_
    rintro e w3 ⟨rfl, hb3⟩
    have HB3 := Hidden.mk (HB2.out.trans (hb3.mono HB2.out.size))
    clear hb3 HPL HB2
    go_wp2_with fail
    refine (HPR.out w3 HB3.out).mono ?_
    rintro e w4 ⟨rfl, F', hm⟩
    have HF := Hidden.mk ((HP.out.same HB3.out).trans hm)
    clear hm HPR HB3
    go_wp2_with fail
    go_ret2
    exact ⟨by rw [d3]; rfl, F', HF.out⟩
end
end Go.Proofs.YtbnobjlphmkgeaaGreatDoor
/- What comes in: the program's own slices, opened. -/
namespace Go.Proofs.YtbnobjlphmkgeaaGreatDoor
open Go.RowKit Go.ChangeShapes Go.WideShapes Go.ChangeAt

section
variable {H : Type} {enc : TypeId × Value → H} {w : World} {v : Value} {d : DataW H} {ps : List MemPlace} {base : Nat} {r : Reach}
set_option maxRecDepth 20000 in
theorem open_pages (hv : Value.okWide Tryz.prog w r base 72 v) (h : DataW.Trod enc Tryz.prog w 0 (fun _ => true) true 72 v d ps) (hz : (d.weights Tryz.prog 72).all (· ≤ reachBytes) = true) :
    ∃ (A : Option Addr) (c : Nat) (L : List PgX), v = .slice A L.length c ∧ L.length ≤ c ∧ c ≤ 140737488351232 ∧ (∀ x ∈ L, PgOk w x) ∧ RdX pcells 2 w A L := by
  have hb : decide (1 ≤ Tryz.prog.bytesOf 89) = true := by kernel_rfl
  have hC : Tryz.prog.cellsOf 89 = 2 := by kernel_rfl
  refine open_seq (P := Tryz.prog) pcells 2 PgOk Tryz.underlying72 hC (by omega) (of_decide_eq_true hb) (fun n cs x hl ht hz => ?_) hv h hz
  obtain ⟨v0, v1, y0, y1, m, rfl, t0, t1, z0, z1⟩ := open_two Tryz.underlying89 ⟨rfl, by kernel_rfl⟩ ⟨rfl, by kernel_rfl⟩ hl ht hz
  obtain ⟨a, ha, -, wa⟩ := DataW.trod_int Tryz.underlying3 t0
  obtain ⟨A, c, l, hb, hc, hm, hr⟩ := open_bytes_in Tryz.underlying22 Tryz.underlying5 (by kernel_rfl) (by kernel_rfl) t1 z1
  simp only [List.cons.injEq, and_true] at ha
  have hw := wf_i64' wa
  exact ⟨⟨a, A, c, l⟩, by rw [ha, hb]; rfl, hw.1, hw.2, hc, hm, hr⟩
end
end Go.Proofs.YtbnobjlphmkgeaaGreatDoor
/- ImageBack: what the walk leans on. -/
namespace Go.Proofs.YtbnobjlphmkgeaaGreatDoor
open Go.RowKit

theorem rootB_zero (s : Bytes) (h : Int) (hh : handleB h = true) : zeroE (rootB s h) = false := by
  have hb := handleB_true.1 hh
  have hd : (UInt8.ofNat h.toNat).toNat = h.toNat := by rw [UInt8.toNat_ofNat', Nat.mod_eq_of_lt (by omega)]
  unfold zeroE
  rw [Bool.not_eq_false', List.any_eq_true]
  refine ⟨UInt8.ofNat h.toNat, by simp [rootB], ?_⟩
  unfold nonZero
  rw [bne_iff_ne]
  intro e
  rw [e] at hd
  simp at hd
  omega
theorem rootB_P (s : Bytes) (h : Int) (hh : handleB h = true) (hnm : isName s = true) : rootP (rootB s h) = (s, h.toNat) := by
  have hb := handleB_true.1 hh
  have hd : (UInt8.ofNat h.toNat).toNat = h.toNat := by rw [UInt8.toNat_ofNat', Nat.mod_eq_of_lt (by omega)]
  have h8 := nameB_len s hnm
  obtain ⟨h1, h2⟩ := nameB_back s hnm
  have ht : (rootB s h).take 8 = nameB s := by unfold rootB; rw [List.take_append_of_le_length (by omega), List.take_of_length_le (by omega)]
  have h3 : nmR (rootB s h) = s := by unfold nmR; rw [ht]; exact h2
  unfold rootP
  rw [ht, if_pos h1, h3]
  congr 1
  unfold rootB
  rw [List.getD_eq_getElem?_getD, List.getElem?_append_right (by omega), h8]
  exact hd
theorem rootB_len (s : Bytes) (h : Int) (hnm : isName s = true) : (rootB s h).length = 11 := by unfold rootB; simp [nameB_len s hnm]
end Go.Proofs.YtbnobjlphmkgeaaGreatDoor
/- Roots that are set and unset, plainly: where names lead then. No walk here. -/
namespace Go.Proofs.YtbnobjlphmkgeaaGreatDoor
open Go.RowKit

theorem leadR_mem {L : List (Bytes × Nat)} {s : Bytes} {r : Bytes × Nat} (hr : r ∈ L) (hs : r.1 = s) (hu : ∀ x ∈ L, x.1 = s → x.2 = r.2) : leadR L s = r.2 := by
  unfold leadR
  cases hf : L.find? (fun r => r.1 == s) with
  | none =>
    have := List.find?_eq_none.1 hf r hr
    simp [hs] at this
  | some x =>
    have h1 := List.find?_some hf
    have h2 := List.mem_of_find?_eq_some hf
    exact hu x h2 (by simpa using h1)
theorem mem_rootsF {S : Nat → Bytes} {m : Nat} {x : Bytes × Nat} : x ∈ rootsF S m ↔ ∃ i, i < m ∧ zeroE (S i) = false ∧ rootP (S i) = x := by
  unfold rootsF
  simp only [List.mem_map, List.mem_filter, List.mem_range, Bool.not_eq_true']
  constructor
  · rintro ⟨i, ⟨h1, h2⟩, h3⟩; exact ⟨i, h1, h2, h3⟩
  · rintro ⟨i, h1, h2, h3⟩; exact ⟨i, ⟨h1, h2⟩, h3⟩
theorem good_rootP {l : Bytes} (hg : Good l) {i : Nat} (hi : i < 8) (hz : zeroE (rawR l i) = false) : rootP (rawR l i) = (nmR (rawR l i), ((rawR l i).getD 10 0).toNat) := by
  unfold rootP; rw [if_pos (hg.got hi hz)]
/-- where a name leads, by the place of its root -/
theorem lead_at {l s : Bytes} (hg : Good l) {i : Nat} (hi : i < 8) (hz : zeroE (rawR l i) = false) (hs : nmR (rawR l i) = s) : leadR (rootsL l) s = ((rawR l i).getD 10 0).toNat := by
  have hm : rootP (rawR l i) ∈ rootsL l := mem_rootsF.2 ⟨i, hi, hz, rfl⟩
  rw [good_rootP hg hi hz] at hm
  refine leadR_mem hm hs fun x hx he => ?_
  obtain ⟨j, hj, hzj, rfl⟩ := mem_rootsF.1 hx
  rw [good_rootP hg hj hzj] at he ⊢
  dsimp only at he ⊢
  by_cases h : j = i
  · rw [h]
  · exfalso
    rcases Nat.lt_or_gt_of_ne h with h | h
    · exact hg.s.name i hi j h hz hzj (hs.trans he.symm)
    · exact hg.s.name j hj i h hzj hz (he.trans hs.symm)
theorem lead_no {l s : Bytes} (hg : Good l) (h : ∀ i, i < 8 → zeroE (rawR l i) = false → nmR (rawR l i) ≠ s) : leadR (rootsL l) s = 0 :=
  leadR_none fun x hx => by
    obtain ⟨j, hj, hzj, rfl⟩ := mem_rootsF.1 hx
    rw [good_rootP hg hj hzj]
    simpa using h j hj hzj
theorem count_upd (p : Nat → Bool) (i : Nat) (b : Bool) : ∀ n, ((List.range n).filter (fun j => if j = i then b else p j)).length + (if i < n ∧ p i = true then 1 else 0) = ((List.range n).filter p).length + (if i < n ∧ b = true then 1 else 0)
  | 0 => by simp
  | n + 1 => by
    have ih := count_upd p i b n
    rw [List.range_succ, List.filter_append, List.filter_append, List.length_append, List.length_append]
    by_cases h : n = i
    · subst h
      have h1 : ((List.range n).filter (fun j => if j = n then b else p j)) = (List.range n).filter p := List.filter_congr fun j hj => by
        rw [if_neg (by have := List.mem_range.1 hj; omega)]
      rw [h1]
      cases hb : b <;> cases hp : p n <;> simp [hp]
    · have e1 : (i < n + 1 ∧ p i = true) ↔ (i < n ∧ p i = true) := by constructor <;> rintro ⟨a, b⟩ <;> exact ⟨by omega, b⟩
      have e2 : (i < n + 1 ∧ b = true) ↔ (i < n ∧ b = true) := by constructor <;> rintro ⟨a, b⟩ <;> exact ⟨by omega, b⟩
      simp only [e1, e2]
      have e3 : ((List.filter (fun j => if j = i then b else p j) [n]).length) = (List.filter p [n]).length := by
        simp only [List.filter_cons, List.filter_nil, if_neg h]
      omega
/-- l' has x in the place of the root i; nothing else is another -/
structure PutsR (l l' : Bytes) (i : Nat) (x : Bytes) : Prop where
  i8 : i < 8
  x11 : x.length = 11
  eq : l' = splice l (200 + 11 * i) x
section
variable {l l' x : Bytes} {i : Nat}
theorem PutsR.len (h : PutsR l l' i x) (hb : 288 ≤ l.length) : l'.length = l.length := by rw [h.eq]; exact splice_len _ _ _ (by have := h.i8; have := h.x11; omega)
theorem PutsR.ents (h : PutsR l l' i x) (hb : 288 ≤ l.length) (j : Nat) (hj : j < 40) : rawE l' j = rawE l j := by rw [h.eq]; exact rawE_root l _ i j h.x11 h.i8 hj hb
theorem PutsR.rots (h : PutsR l l' i x) (hb : 288 ≤ l.length) (j : Nat) (hj : j < 8) : rawR l' j = if j = i then x else rawR l j := by rw [h.eq]; exact rawR_splice l _ i j h.x11 h.i8 hj hb
theorem same_ents {l l' : Bytes} (h : ∀ j, j < 40 → rawE l' j = rawE l j) (y : Int) : hE l' y = hE l y ∧ gT l' y = gT l y ∧ gA l' y = gA l y ∧ gL l' y = gL l y := by
  have hx : hE l' y = hE l y ∧ (hE l y = 0 → hR l' y = hR l y) := by
    unfold hE hR
    by_cases hb : handleB y = false
    · rw [if_pos hb, if_pos hb]; exact ⟨rfl, fun h => by cases h⟩
    · have := handleB_true.1 (show handleB y = true by
        cases hx : handleB y with
        | true => rfl
        | false => exact absurd hx hb)
      rw [if_neg hb, if_neg hb, h (y - 1).toNat (by omega)]
      exact ⟨rfl, fun _ => rfl⟩
  unfold gT gL gA
  rw [hx.1]
  by_cases h0 : hE l y = 0
  · rw [if_pos h0, if_pos h0, if_pos h0, if_pos h0, if_pos h0, if_pos h0, hx.2 h0]; exact ⟨rfl, rfl, rfl, rfl⟩
  · rw [if_neg h0, if_neg h0, if_neg h0, if_neg h0, if_neg h0, if_neg h0]; exact ⟨rfl, rfl, rfl, rfl⟩
theorem PutsR.same (h : PutsR l l' i x) (hb : 288 ≤ l.length) (y : Int) : hE l' y = hE l y ∧ gT l' y = gT l y ∧ gA l' y = gA l y ∧ gL l' y = gL l y := same_ents (h.ents hb) y
theorem goodS_ents {n : Nat} {R R' S : Nat → Bytes} (g : GoodS n R S) (h : ∀ j, j < 40 → R' j = R j) : GoodS n R' S where
  none j hj hh := by rw [h j hj] at hh ⊢; exact g.none j hj hh
  fit j hj hh := by rw [h j hj] at hh ⊢; exact g.fit j hj hh
  apart i hi j hj hh hh' := by rw [h i hi] at hh ⊢; rw [h j (by omega)] at hh' ⊢; exact g.apart i hi j hj hh hh'
  root i hi hz := badR_mono (g.root i hi hz) fun hl => by
    obtain ⟨j, hj, hh, hx⟩ := leadsS_iff.1 hl
    exact leadsS_iff.2 ⟨j, hj, by rw [h j hj]; exact hh, hx⟩
  name := g.name
theorem PutsR.good (h : PutsR l l' i x) (hg : Good l) (hx : zeroE x = true ∨ (badR (leadsS (rawE l)) x = false ∧ ∀ j, j < 8 → j ≠ i → zeroE (rawR l j) = false → nmR x ≠ nmR (rawR l j))) : Good l' := by
  have hb := hg.bd.1
  refine good_iff.2 ⟨by rw [h.len hb]; exact hg.len, ?_⟩
  rw [h.len hb]
  exact goodS_ents (hg.s.putR i x (h.rots hb) hx) (h.ents hb)
theorem PutsR.count (h : PutsR l l' i x) (hb : 288 ≤ l.length) : (rootsL l').length + (if zeroE (rawR l i) = false then 1 else 0) = (rootsL l).length + (if zeroE x = false then 1 else 0) := by
  have hc := count_upd (fun j => !zeroE (rawR l j)) i (!zeroE x) 8
  have e : (List.range 8).filter (fun j => !zeroE (rawR l' j)) = (List.range 8).filter (fun j => if j = i then !zeroE x else !zeroE (rawR l j)) := List.filter_congr fun j hj => by
    rw [h.rots hb j (List.mem_range.1 hj)]; split <;> rfl
  unfold rootsL rootsF
  rw [List.length_map, List.length_map, e]
  have hi := h.i8
  cases h1 : zeroE (rawR l i) <;> cases h2 : zeroE x <;> simp [h1, h2, hi] at hc ⊢ <;> omega
end
theorem putRo_zero : putRo [] 0 = List.replicate 11 0 := by decide
theorem rootB_facts (s : Bytes) (y : Int) (hh : handleB y = true) (hnm : isName s = true) : zeroE (rootB s y) = false ∧ nmR (rootB s y) = s ∧ (rootB s y).length = 11 ∧ ((rootB s y).getD 10 0).toNat = y.toNat ∧ gotName ((rootB s y).take 8) = true ∧ (rootB s y).getD 8 0 = 0 ∧ (rootB s y).getD 9 0 = 0 := by
  have hb := handleB_true.1 hh
  have h8 := nameB_len s hnm
  obtain ⟨h1, h2⟩ := nameB_back s hnm
  have ht : (rootB s y).take 8 = nameB s := by unfold rootB; rw [List.take_append_of_le_length (by omega), List.take_of_length_le (by omega)]
  have hd : (UInt8.ofNat y.toNat).toNat = y.toNat := by rw [UInt8.toNat_ofNat', Nat.mod_eq_of_lt (by omega)]
  refine ⟨rootB_zero s y hh, by unfold nmR; rw [ht]; exact h2, rootB_len s y hnm, ?_, by rw [ht]; exact h1, ?_, ?_⟩
  · unfold rootB
    rw [List.getD_eq_getElem?_getD, List.getElem?_append_right (by omega), h8]
    exact hd
  · unfold rootB
    rw [List.getD_eq_getElem?_getD, List.getElem?_append_right (by omega), h8]
    rfl
  · unfold rootB
    rw [List.getD_eq_getElem?_getD, List.getElem?_append_right (by omega), h8]
    rfl
theorem putRo_name (s : Bytes) (y : Int) (hh : handleB y = true) : putRo s y = rootB s y := by
  have hb := handleB_true.1 hh
  unfold putRo
  rw [if_neg (by simp; omega)]
theorem hE_handle {l : Bytes} {y : Int} (h : hE l y = 0) : handleB y = true := by
  obtain ⟨k, hk, rfl, -, -⟩ := hE_zero h
  exact handleB_true.2 (by omega)
/-- what is said of a name that is set -/
structure SetIs (l l' s : Bytes) (y : Int) : Prop where
  good : Good l'
  same : ∀ z, hE l' z = hE l z ∧ gT l' z = gT l z ∧ gA l' z = gA l z ∧ gL l' z = gL l z
  lead : (leadR (rootsL l') s : Int) = y
  rest : ∀ t, t ≠ s → leadR (rootsL l') t = leadR (rootsL l) t
  count : (rootsL l').length = (rootsL l).length + (if (placeF l s 8).1 < 0 then 1 else 0)
  own : ∃ r ∈ rootsL l', (r.2 : Int) = y
  puts : ∃ i, PutsR l l' i (rootB s y)
theorem set_is {l s : Bytes} {y : Int} {i : Nat} (hg : Good l) (hn : isName s = true) (hy : hE l y = 0) (hi : i < 8) (ha : setAt l s = i) : SetIs l (splice l (200 + 11 * i) (rootB s y)) s y := by
  have hb := hg.bd.1
  have hh := hE_handle hy
  have hyb := handleB_true.1 hh
  have hyn : ((y.toNat : Nat) : Int) = y := Int.toNat_of_nonneg (by omega)
  obtain ⟨f1, f2, f3, f4, f5, f6, f7⟩ := rootB_facts s y hh hn
  have hP : PutsR l (splice l (200 + 11 * i) (rootB s y)) i (rootB s y) := ⟨hi, f3, rfl⟩
  obtain ⟨p1, p2⟩ := placeF_spec l s 8 (Nat.le_refl _)
  have hno : ∀ j, j < 8 → j ≠ i → zeroE (rawR l j) = false → nmR (rawR l j) ≠ s := fun j hj hne hz => by
    rcases p1 with ⟨a, b⟩ | ⟨q, _, b, c, d, e, _⟩
    · exact b j (by omega) hj hz
    · unfold setAt at ha
      rw [if_neg (by omega), c] at ha
      obtain rfl : q = i := by omega
      intro hs
      rcases Nat.lt_or_gt_of_ne hne with h | h
      · exact hg.s.name q b j h d hz (e.trans hs.symm)
      · exact hg.s.name j hj q h hz d (hs.trans e.symm)
  have hz : zeroE (rawR l i) = decide ((placeF l s 8).1 < 0) := by
    rcases p1 with ⟨a, b⟩ | ⟨q, _, b, c, d, e, _⟩
    · unfold setAt at ha
      rw [if_pos (by omega)] at ha
      rcases p2 with ⟨a2, b2⟩ | ⟨q, _, b2, c2, d2, e2⟩
      · omega
      · obtain rfl : q = i := by omega
        rw [d2, a]; rfl
    · unfold setAt at ha
      rw [if_neg (by omega), c] at ha
      obtain rfl : q = i := by omega
      rw [d, c]; simp
  have hG : Good (splice l (200 + 11 * i) (rootB s y)) := hP.good hg (.inr ⟨by
    unfold badR
    rw [f5, f6, f7]
    have : leadsS (rawE l) ((rootB s y).getD 10 0) = true := by
      obtain ⟨k, hk, rfl, hk1, -⟩ := hE_zero hy
      exact leadsS_iff.2 ⟨k, hk, hk1, by rw [f4]; omega⟩
    rw [this]; rfl, fun j hj hne hz => by rw [f2]; exact (hno j hj hne hz).symm⟩)
  have hr := hP.rots hb
  have hLs : leadR (rootsL (splice l (200 + 11 * i) (rootB s y))) s = y.toNat := by
    have := lead_at hG (s := s) hi (by rw [hr i hi, if_pos rfl]; exact f1) (by rw [hr i hi, if_pos rfl]; exact f2)
    rw [hr i hi, if_pos rfl, f4] at this
    exact this
  refine ⟨hG, hP.same hb, by rw [hLs]; exact hyn, fun t ht => ?_, ?_, ?_, i, hP⟩
  · by_cases hex : ∃ j, j < 8 ∧ zeroE (rawR l j) = false ∧ nmR (rawR l j) = t
    · obtain ⟨j, hj, hzj, hnj⟩ := hex
      have hne : j ≠ i := fun e => by
        subst e
        rw [hz] at hzj
        have h1 : ¬ (placeF l s 8).1 < 0 := by simpa using hzj
        rcases p1 with ⟨a, b⟩ | ⟨q, _, b, c, d, e, _⟩
        · omega
        · unfold setAt at ha
          rw [if_neg h1, c] at ha
          obtain rfl : q = j := by omega
          exact ht (hnj.symm.trans e)
      rw [lead_at hg hj hzj hnj, lead_at hG hj (by rw [hr j hj, if_neg hne]; exact hzj) (by rw [hr j hj, if_neg hne]; exact hnj), hr j hj, if_neg hne]
    · rw [lead_no hg (fun j hj hzj hnj => hex ⟨j, hj, hzj, hnj⟩), lead_no hG (fun j hj hzj hnj => ?_)]
      rw [hr j hj] at hzj hnj
      by_cases e : j = i
      · rw [if_pos e, f2] at hnj; exact ht hnj.symm
      · rw [if_neg e] at hzj hnj; exact hex ⟨j, hj, hzj, hnj⟩
  · have hc := hP.count hb
    rw [f1, hz] at hc
    by_cases h0 : (placeF l s 8).1 < 0
    · simp [h0] at hc ⊢; omega
    · simp [h0] at hc ⊢; omega
  · refine ⟨rootP (rootB s y), mem_rootsF.2 ⟨i, hi, by rw [hr i hi, if_pos rfl]; exact f1, by rw [hr i hi, if_pos rfl]⟩, ?_⟩
    rw [rootB_P s y hh hn]
    exact hyn
/-- a name that was set lies at its own place then -/
theorem SetIs.place {l l' s : Bytes} {y : Int} (h : SetIs l l' s y) (hg : Good l) (hn : isName s = true) (hy : hE l y = 0) : ∃ i : Nat, i < 8 ∧ (placeF l' s 8).1 = i ∧ zeroE (rawR l' i) = false ∧ nmR (rawR l' i) = s := by
  obtain ⟨i, hP⟩ := h.puts
  obtain ⟨f1, f2, -⟩ := rootB_facts s y (hE_handle hy) hn
  have hr := hP.rots hg.bd.1 i hP.i8
  rw [if_pos rfl] at hr
  obtain ⟨p1, -⟩ := placeF_spec l' s 8 (Nat.le_refl _)
  rcases p1 with ⟨a, b⟩ | ⟨q, _, b, c, d, e, _⟩
  · exact absurd (by rw [hr]; exact f2) (b i (by have := hP.i8; omega) hP.i8 (by rw [hr]; exact f1))
  · exact ⟨q, b, c, d, e⟩
/-- unset -/
theorem unset_is {l s : Bytes} {i : Nat} (hg : Good l) (hi : i < 8) (hz : zeroE (rawR l i) = false) (hs : nmR (rawR l i) = s) : Good (splice l (200 + 11 * i) (List.replicate 11 0)) ∧ leadR (rootsL (splice l (200 + 11 * i) (List.replicate 11 0))) s = 0 ∧ (placeF (splice l (200 + 11 * i) (List.replicate 11 0)) s 8).1 = -1 := by
  have hP : PutsR l (splice l (200 + 11 * i) (List.replicate 11 0)) i (List.replicate 11 0) := ⟨hi, by simp, rfl⟩
  have hG := hP.good hg (.inl (zeros_zero 11))
  have hr := hP.rots hg.bd.1
  have hno : ∀ j, j < 8 → zeroE (rawR (splice l (200 + 11 * i) (List.replicate 11 0)) j) = false → nmR (rawR (splice l (200 + 11 * i) (List.replicate 11 0)) j) ≠ s := fun j hj hzj hnj => by
    rw [hr j hj] at hzj hnj
    by_cases e : j = i
    · rw [if_pos e, zeros_zero] at hzj; cases hzj
    · rw [if_neg e] at hzj hnj
      rcases Nat.lt_or_gt_of_ne e with h | h
      · exact hg.s.name i hi j h hz hzj (hs.trans hnj.symm)
      · exact hg.s.name j hj i h hzj hz (hnj.trans hs.symm)
  refine ⟨hG, lead_no hG hno, ?_⟩
  obtain ⟨p1, -⟩ := placeF_spec (splice l (200 + 11 * i) (List.replicate 11 0)) s 8 (Nat.le_refl _)
  rcases p1 with ⟨a, _⟩ | ⟨q, _, b, c, d, e, _⟩
  · exact a
  · exact absurd e (hno q b d)
end Go.Proofs.YtbnobjlphmkgeaaGreatDoor
/- root.Set of whatever, and root.Unset. -/
namespace Go.Proofs.YtbnobjlphmkgeaaGreatDoor
open Go.RowKit

/-- the fault of Set; the image behind it -/
def setE (l s : Bytes) (x : Int) : Nat := if isName s = false then 2 else if hE l x ≠ 0 then hE l x else if setAt l s < 0 then 4 else 0
def setL (l s : Bytes) (x : Int) : Bytes := if setE l s x = 0 then splice l (200 + 11 * (setAt l s).toNat) (rootB s x) else l
def unE (l s : Bytes) : Nat := if isName s = false then 2 else if (placeF l s 8).1 < 0 then 5 else 0
def unL (l s : Bytes) : Bytes := if unE l s = 0 then splice l (200 + 11 * (placeF l s 8).1.toNat) (List.replicate 11 0) else l
theorem setAt_lt (l s : Bytes) : -1 ≤ setAt l s ∧ setAt l s < 8 := by
  obtain ⟨p1, p2⟩ := placeF_spec l s 8 (Nat.le_refl _)
  unfold setAt
  split
  · rcases p2 with ⟨a, _⟩ | ⟨q, _, b, c, _⟩ <;> omega
  · rcases p1 with ⟨a, _⟩ | ⟨q, _, b, c, _⟩ <;> omega
theorem setE_ok {l s : Bytes} {x : Int} (h : setE l s x = 0) : isName s = true ∧ hE l x = 0 ∧ ∃ i : Nat, i < 8 ∧ setAt l s = i ∧ setL l s x = splice l (200 + 11 * i) (rootB s x) := by
  have h' := h
  unfold setE at h
  cases hn : isName s with
  | false => rw [hn] at h; simp at h
  | true =>
    rw [hn] at h
    by_cases h0 : hE l x = 0
    · by_cases h1 : setAt l s < 0
      · simp [h0, h1] at h
      · have := setAt_lt l s
        refine ⟨rfl, h0, (setAt l s).toNat, by omega, by omega, ?_⟩
        unfold setL; rw [if_pos h']
    · simp [h0] at h
theorem setE_is {l s : Bytes} {x : Int} (hg : Good l) (h : setE l s x = 0) : SetIs l (setL l s x) s x := by
  obtain ⟨h1, h2, i, h3, h4, h5⟩ := setE_ok h
  rw [h5]; exact set_is hg h1 h2 h3 h4
theorem unL_good {l s : Bytes} (hg : Good l) : Good (unL l s) := by
  unfold unL
  split
  · rename_i h
    obtain ⟨p1, p2⟩ := placeF_spec l s 8 (Nat.le_refl _)
    rcases p1 with ⟨a, _⟩ | ⟨q, _, b, c, d, e, _⟩
    · unfold unE at h; rw [if_pos (by omega : (placeF l s 8).1 < 0)] at h; split at h <;> simp at h
    · rw [c, Int.toNat_natCast]; exact (unset_is hg b d e).1
  · exact hg
section
variable {w0 w : World} {F : Nat → Prop} {h : Nat} {l : Bytes}
set_option maxRecDepth 100000 in
theorem rset_any (s : Bytes) (x : Int) (hp : Hp w0 w F h l) (hg : Good l) (hs : s.length ≤ 140737488351232) :
    Calls Tryz.prog 19 #[.pointer (some ⟨h, 0, none⟩), sv s, .int .i64 x] w fun e w' => e = .returned (.tuple #[.bool (decide (setE l s x = 0 ∧ (placeF l s 8).1 < 0)), errV (setE l s x)]) ∧ ∃ F', HpM w0 w w' F F' h (setL l s x) := by
  cases hn : isName s with
  | false =>
    have he : setE l s x = 2 := by unfold setE; rw [if_pos hn]
    have hL : setL l s x = l := by unfold setL; rw [he]; rfl
    rw [he, hL]
    rw [show decide ((2 : Nat) = 0 ∧ (placeF l s 8).1 < 0) = false from by simp]
    have HP := Hidden.mk hp
    have HC := Hidden.mk (putName_no s w hs hn)
    clear hp hg he hL hn
    go_enter Tryz.func19, Tryz.ntmps19
    go_wp2_with fail
    refine HC.out.mono ?_
    rintro e w2 ⟨rfl, hb2⟩
    have HB := Hidden.mk (HP.out.same hb2)
    clear hb2 HC
    go_wp2_with fail
    go_ret2
    exact ⟨rfl, F, HB.out⟩
  | true =>
    by_cases hx : hE l x = 0
    · have hA := setAt_lt l s
      by_cases ha : setAt l s < 0
      · have he : setE l s x = 4 := by unfold setE; rw [if_neg (by rw [hn]; decide), if_neg (by omega), if_pos ha]
        have hL : setL l s x = l := by unfold setL; rw [he]; rfl
        rw [he, hL]
        rw [show decide ((4 : Nat) = 0 ∧ (placeF l s 8).1 < 0) = false from by simp]
        refine (rset_full s x hp hg hn hx ha).mono ?_
        rintro e w' ⟨rfl, hb⟩
        exact ⟨rfl, F, hp.same hb⟩
      · have he : setE l s x = 0 := by unfold setE; rw [if_neg (by rw [hn]; decide), if_neg (by omega), if_neg ha]
        obtain ⟨_, _, i, hi, hai, hL⟩ := setE_ok he
        rw [he, hL]
        refine (rset_ok s x i hp hg hn hx hi hai).mono ?_
        rintro e w' ⟨rfl, F', hm⟩
        rw [putRo_name s x (hE_handle hx)] at hm
        refine ⟨?_, F', hm⟩
        rw [show decide ((0 : Nat) = 0 ∧ (placeF l s 8).1 < 0) = decide ((placeF l s 8).1 < 0) from by simp]
        rfl
    · have he : setE l s x = hE l x := by unfold setE; rw [if_neg (by rw [hn]; decide), if_pos hx]
      have hL : setL l s x = l := by unfold setL; rw [he, if_neg hx]
      have hev : errV (hE l x) = .iface 111 (.int .i64 (hE l x : Int)) := by unfold errV; rw [if_neg hx]
      rw [he, hL]
      rw [show decide (hE l x = 0 ∧ (placeF l s 8).1 < 0) = false from by simp [hx]]
      have HP := Hidden.mk hp
      have HC := Hidden.mk (putName_ok s w hn)
      have HT : Hidden (∀ W, Below w.heap.size w W → Calls Tryz.prog 31 #[.pointer (some ⟨h, 0, none⟩), .int .i64 x] W fun e w' => e = .returned (.tuple #[.int .i64 (gT l x), .iface 111 (.int .i64 (hE l x : Int))]) ∧ Below W.heap.size W w') := ⟨fun W hW => by rw [← hev]; exact htag_any x (hp.below hW)⟩
      rw [hev]
      generalize gT l x = gt at *
      generalize (hE l x : Int) = q at *
      clear hp hg he hL hn hx hev
      go_enter Tryz.func19, Tryz.ntmps19
      go_wp2_with fail
      refine HC.out.mono ?_
      rintro e w1 ⟨gn, rfl, -, -, hb1⟩
      have HB1 := Hidden.mk hb1
      clear hb1 HC
      go_wp2_with fail
      refine (HT.out w1 HB1.out).mono ?_
      rintro e w2 ⟨rfl, hb2⟩
      have HB2 := Hidden.mk (HP.out.same (HB1.out.trans (hb2.mono HB1.out.size)))
      clear hb2 HT HB1
      go_wp2_with fail
      go_ret2
      exact ⟨rfl, F, HB2.out⟩
set_option maxRecDepth 100000 in
theorem runset_any (s : Bytes) (hp : Hp w0 w F h l) (hg : Good l) (hs : s.length ≤ 140737488351232) :
    Calls Tryz.prog 21 #[.pointer (some ⟨h, 0, none⟩), sv s] w fun e w' => e = .returned (errV (unE l s)) ∧ ∃ F', HpM w0 w w' F F' h (unL l s) := by
  have HP := Hidden.mk hp
  cases hn : isName s with
  | false =>
    have he : unE l s = 2 := by unfold unE; rw [if_pos hn]
    have hL : unL l s = l := by unfold unL; rw [he]; rfl
    rw [he, hL]
    have HC := Hidden.mk (putName_no s w hs hn)
    clear hp hg he hL hn
    go_enter Tryz.func21, Tryz.ntmps21
    go_wp2_with fail
    refine HC.out.mono ?_
    rintro e w2 ⟨rfl, hb2⟩
    have HB := Hidden.mk (HP.out.same hb2)
    clear hb2 HC
    go_wp2_with fail
    go_ret
    exact ⟨rfl, F, HB.out⟩
  | true =>
    have HC := Hidden.mk (putName_ok s w hn)
    have HPL : Hidden (∀ W, Below w.heap.size w W → Calls Tryz.prog 83 #[.pointer (some ⟨h, 0, none⟩), sv s] W fun e w' => e = .returned (.tuple #[.int .i64 (placeF l s 8).1, .int .i64 (placeF l s 8).2]) ∧ Below W.heap.size W w') := ⟨fun W hW => place_any s (hp.below hW) hg⟩
    obtain ⟨p1, -⟩ := placeF_spec l s 8 (Nat.le_refl _)
    rcases p1 with ⟨a, _⟩ | ⟨i, _, b, c, d, e, _⟩
    · have he : unE l s = 5 := by unfold unE; rw [if_neg (by rw [hn]; decide), if_pos (by omega)]
      have hL : unL l s = l := by unfold unL; rw [he]; rfl
      rw [he, hL]
      rw [a] at HPL
      generalize (placeF l s 8).2 = p2 at *
      clear hp hg he hL hn a
      go_enter Tryz.func21, Tryz.ntmps21
      go_wp2_with fail
      refine HC.out.mono ?_
      rintro e w1 ⟨gn, rfl, -, -, hb1⟩
      have HB1 := Hidden.mk hb1
      clear hb1 HC
      go_wp2_with fail
      refine (HPL.out w1 HB1.out).mono ?_
      rintro e w2 ⟨rfl, hb2⟩
      have HB2 := Hidden.mk (HP.out.same (HB1.out.trans (hb2.mono HB1.out.size)))
      clear hb2 HPL HB1
      go_wp2_with fail
      go_ret
      exact ⟨rfl, F, HB2.out⟩
    · have he : unE l s = 0 := by unfold unE; rw [if_neg (by rw [hn]; decide), if_neg (by omega)]
      have hL : unL l s = splice l (200 + 11 * i) (List.replicate 11 0) := by unfold unL; rw [if_pos he, c, Int.toNat_natCast]
      rw [he, hL]
      rw [c] at HPL
      have HPR : Hidden (∀ W, Below w.heap.size w W → Calls Tryz.prog 84 #[.pointer (some ⟨h, 0, none⟩), .int .i64 (i : Int), .agg #[sv [], .int .i64 0]] W fun e w' => e = .returned .nilIface ∧ ∃ F', HpM w0 W w' F F' h (splice l (200 + 11 * i) (List.replicate 11 0))) := ⟨fun W hW => by
        have := hroot_ok i [] 0 (hp.below hW) b (.inl ⟨rfl, rfl⟩)
        rw [putRo_zero] at this; exact this⟩
      have d1 : decide ((i : Int) < 0) = false := by simp
      generalize splice l (200 + 11 * i) (List.replicate 11 0) = l' at *
      generalize (placeF l s 8).2 = p2 at *
      clear hp hg he hL hn c d e b
      go_enter Tryz.func21, Tryz.ntmps21
      go_wp2_with fail
      refine HC.out.mono ?_
      rintro e w1 ⟨gn, rfl, -, -, hb1⟩
      have HB1 := Hidden.mk hb1
      clear hb1 HC
      go_wp2_with fail
      refine (HPL.out w1 HB1.out).mono ?_
      rintro e w2 ⟨rfl, hb2⟩
      have HB2 := Hidden.mk (HB1.out.trans (hb2.mono HB1.out.size))
      clear hb2 HPL HB1
      go_wp2_with fail
      refine (HPR.out w2 HB2.out).mono ?_
      rintro e w3 ⟨rfl, F', hm⟩
      have HF := Hidden.mk ((HP.out.same HB2.out).trans hm)
      clear hm HPR HB2
      go_wp2_with fail
      go_ret
      exact ⟨rfl, F', HF.out⟩
end
end Go.Proofs.YtbnobjlphmkgeaaGreatDoor
