/- The contract of extent.Holes. -/
import Derived.Test.YtibogmoemohngaaExt1
import Derived.Test.YtibogmoemohngaaSortP
import Derived.Test.YtibogmoemohngaaLayX
import Derived.Shelf.SlSortCmp.NoneTotal
namespace Go.Proofs.Ytibogmoemohngaa
open Go.RowKit Go.Sort Go.Shelf Go.Lib

def cmpX (x y : Ext) : Int := Lib.compareInt x.1 y.1
theorem ltX (x y : Ext) : ltOf cmpX x y = decide (x.1 < y.1) := by
  unfold ltOf cmpX Lib.compareInt
  by_cases h1 : x.1 < y.1
  · simp [h1]
  · by_cases h2 : y.1 < x.1 <;> simp [h1, h2]
theorem swoX : SWO (ltOf cmpX) where
  irrefl x := by rw [ltX]; simp
  trans x y z h1 h2 := by rw [ltX] at *; simp at *; omega
  ntrans x y z h1 h2 := by rw [ltX] at *; simp at *; omega
/-- extents by where they begin -/
def sortE (l : List Ext) : List Ext := pdqL cmpX l
theorem sortE_perm (l : List Ext) : (sortE l).Perm l := (pdqL_perm cmpX swoX l).1
theorem sortE_sorted (l : List Ext) : (sortE l).Pairwise (fun a b => a.1 ≤ b.1) := (pdqL_perm cmpX swoX l).2.imp fun {a b} h => by
  rw [ltX] at h; simp at h; omega
/-- runs between -/
def holesGo : Int → List Ext → List Ext
  | _, [] => []
  | at_, e :: r => (if at_ < e.1 then [(at_, e.1 - at_)] else []) ++ holesGo (e.1 + e.2) r
def holesX (n : Int) (l : List Ext) : List Ext := holesGo 0 (sortE l ++ [(n, 0)])

theorem compare_any (x y : Int) (w : World) : Calls Try.prog 85 #[.int .i64 x, .int .i64 y] w fun e w' => e = .returned (.int .i64 (Lib.compareInt x y)) ∧ w = w' := by
  have hn : ∀ z : Int, ∀ W, Calls Try.prog 114 #[.int .i64 z] W fun e w' => e = .returned (.bool false) ∧ W = w' := fun z W => by
    go_enter Try.func114, Try.ntmps114
    go_wp2
    go_ret
    exact ⟨by simp, rfl⟩
  have HN := Hidden.mk hn
  have HC : Hidden (Lib.compareInt x y = if x < y then -1 else if y < x then 1 else 0) := ⟨by unfold Lib.compareInt; rfl⟩
  clear hn
  by_cases h1 : x < y
  · have d1 : decide (x < y) = true := by simpa using h1
    have HV : Hidden (Lib.compareInt x y = -1) := ⟨by rw [HC.out, if_pos h1]⟩
    go_enter Try.func85, Try.ntmps85
    go_wp2_with (first | (go_at_call 114; refine (HN.out _ _).mono ?_; rintro e w' ⟨rfl, rfl⟩))
    go_ret
    exact ⟨ret_i64 HV.out.symm, rfl⟩
  have d1 : decide (x < y) = false := by simpa using h1
  by_cases h2 : y < x
  · have d2 : decide (y < x) = true := by simpa using h2
    have HV : Hidden (Lib.compareInt x y = 1) := ⟨by rw [HC.out, if_neg h1, if_pos h2]⟩
    go_enter Try.func85, Try.ntmps85
    go_wp2_with (first | (go_at_call 114; refine (HN.out _ _).mono ?_; rintro e w' ⟨rfl, rfl⟩))
    go_ret
    exact ⟨ret_i64 HV.out.symm, rfl⟩
  have d2 : decide (y < x) = false := by simpa using h2
  have HV : Hidden (Lib.compareInt x y = 0) := ⟨by rw [HC.out, if_neg h1, if_neg h2]⟩
  go_enter Try.func85, Try.ntmps85
  go_wp2_with (first | (go_at_call 114; refine (HN.out _ _).mono ?_; rintro e w' ⟨rfl, rfl⟩))
  go_ret
  exact ⟨ret_i64 HV.out.symm, rfl⟩
/-- the closure of Holes -/
theorem closeX (x y : Ext) (W : World) : Calls Try.prog 84 #[.agg #[.int .i64 x.1, .int .i64 x.2], .agg #[.int .i64 y.1, .int .i64 y.2]] W fun e w' => e = .returned (.int .i64 (cmpX x y)) ∧ ∃ q os', w' = grow (W.drewN q) os' := by
  have hcon := fun W' => compare_any x.1 y.1 W'
  have HC := Hidden.mk hcon
  have HX : Hidden (cmpX x y = Lib.compareInt x.1 y.1) := ⟨rfl⟩
  clear hcon
  rw [HX.out]
  generalize Lib.compareInt x.1 y.1 = r at *
  go_enter Try.func84, Try.ntmps84
  go_wp2_with (go_at_call 85; refine (HC.out _).mono ?_; rintro e w' ⟨rfl, rfl⟩)
  go_ret
  exact ⟨rfl, 0, _, by rw [alloc_eq_grow, alloc_eq_grow, grow_grow]; rfl⟩
theorem sortX_any (w : World) (base n : Nat) (v : Value) (L : List Ext) (hn : L.length = n) (hl : n ≤ 1000) (hown : w.ownsRow base 38 2 v n (L.flatMap tcells)) :
    Calls Try.prog 83 #[v, .func (.func 84) #[] #[]] w fun e w' => e = .returned (.tuple #[]) ∧ w'.ownsRow base 38 2 v n ((sortE L).flatMap tcells) ∧ w.grownBy w' v.ownBlock := by
  rcases hown.2 with ⟨rfl, h0⟩ | ⟨g, cap, cur, rfl, hb, hh, _⟩
  · have hL : L = [] := List.eq_nil_of_length_eq_zero (by omega)
    subst hL h0
    have hs : sortE [] = [] := List.Perm.eq_nil (sortE_perm [])
    have hc := AnyF.slices_SortFunc_none layX none 0 (.func (.func 84) #[] #[]) w
    change Calls Try.prog 83 _ _ _ at hc
    refine hc.mono ?_
    rintro e w' ⟨rfl, rfl⟩
    exact ⟨rfl, by rw [hs]; exact hown, World.grownBy.refl _ _⟩
  · have eg : ∀ args w, (callFunc 84 args).run Try.prog w = .ok (.enter 84 args) w := enters_of Try.func84 (by kernel_rfl) rfl
    have hcon := AnyQ.slices_SortFunc_eq layX 2 Try.isAgg38 Try.sizeOf38 tcells tcells_len (fun x v hv => by simp [tcells] at hv; rcases hv with rfl | rfl <;> rfl) cmpX swoX 84 #[] g 0 cap L.toArray w eg
      (fun _ _ _ _ x y => closeX x y _) (holdsK_own tcells_len (by omega) hown) (Array.getElem?_eq_some_iff.1 hh).1 (by simp; omega)
    change Calls Try.prog 83 _ _ _ at hcon
    have hsz : L.toArray.size = n := by simpa using hn
    rw [hsz] at hcon
    refine hcon.mono ?_
    rintro e w' ⟨rfl, m, os, rfl⟩
    have hds : (pdq (ltOf cmpX) L.toArray 0 n (Lib.bitLen n) true true).size = n := by
      have := (sortE_perm L).length_eq
      unfold sortE pdqL at this
      rw [Array.length_toList, hn] at this
      exact this
    have h2 := own_sortedK (m := m) (os := os) tcells_len (by omega) hds hown
    refine ⟨rfl, ?_, h2.2⟩
    have he : sortE L = (pdq (ltOf cmpX) L.toArray 0 n (Lib.bitLen n) true true).toList := by unfold sortE pdqL; rw [hn]
    rw [he]
    exact h2.1
theorem Src.of_rdX {X : Type} {cells : X → List Value} {C : Nat} (hC : ∀ x, (cells x).length = C) (h0 : 0 < C) {w : World} {A : Option Addr} {n : Nat} {L : List X} (hn : L.length = n) (h : RdX cells C w A L) : Src w C A n (L.flatMap cells) := by
  have hlen : (L.flatMap cells).length = n * C := by
    rw [List.length_flatMap]
    have : L.map (fun x => (cells x).length) = List.replicate n C := by
      rw [List.eq_replicate_iff]
      exact ⟨by simpa using hn, fun b hb => by obtain ⟨x, _, rfl⟩ := List.mem_map.1 hb; exact hC x⟩
    rw [this]; simp
  refine ⟨hlen, fun j u hu => ?_⟩
  have hj : j < n * C := by rw [← hlen]; exact (List.getElem?_eq_some_iff.1 hu).1
  have h1 : j / C < L.length := by rw [hn, Nat.div_lt_iff_lt_mul h0]; exact hj
  obtain ⟨b, off, rfl, hc⟩ := h (j / C) h1
  have h2 := flat_at cells C hC L (j / C) h1 (j % C) (Nat.mod_lt _ h0)
  rw [Nat.div_add_mod' j C] at h2
  refine ⟨_, rfl, ?_⟩
  rw [Addr.add_lit]
  have := hc (j % C) u (h2.symm.trans hu)
  rwa [Nat.add_assoc, Nat.div_add_mod' j C] at this
theorem extent_info : (Try.prog.info? 38).map (fun i => (i.zero, i.size, i.bytes)) = some (some (.agg #[.int .i64 0, .int .i64 0]), 2, 16) := by kernel_rfl
theorem tcells_one (L : List Ext) : ∀ u ∈ L.flatMap tcells, u.oneCell' = true := by
  intro u hu
  obtain ⟨x, _, h⟩ := List.mem_flatMap.1 hu
  simp only [tcells, List.mem_cons, List.not_mem_nil, or_false] at h
  rcases h with rfl | rfl <;> rfl
theorem cloneX_any (A : Option Addr) (n c : Nat) (L : List Ext) (w : World) (hn : L.length = n) (hl : n ≤ 1000) (hr : RdX tcells 2 w A L) :
    Calls Try.prog 82 #[.slice A n c] w fun e w' => ∃ v, e = .returned v ∧ w'.ownsRow w.heap.size 38 2 v n (L.flatMap tcells) ∧ Below w.heap.size w w' := by
  have he := fun W => Lib.run_eql_slice_nil (P := Try.prog) W 34 38 A n c 0 0 Try.underlying34
  have hsrc := Src.of_rdX tcells_len (by omega) hn hr
  rcases A with _ | ad
  · have hL : L = [] := by
      cases L with
      | nil => rfl
      | cons x r => obtain ⟨b, off, h, _⟩ := hr 0 (by simp); cases h
    subst hL
    have h0 : n = 0 := by simpa using hn.symm
    subst h0
    clear hr hsrc hn
    go_enter Try.func82, Try.ntmps82
    go_wp2_with fail
    go_ret
    exact ⟨_, rfl, World.ownsRow_nil _ _ _ _, Below.refl _ _⟩
  · obtain ⟨i0, hi0, hz0, hz1, hz2⟩ := info_parts extent_info
    have hown := World.ownsRow_lit (base := w.heap.size) (e := 38) (size := 2) w #[] 0 (Nat.le_refl _) (by simp) rfl
    have HSRC := Hidden.mk (hsrc.below ((Below.refl _ _).alloc (Nat.le_refl _) (.cells #[] 38)))
    have HOW := Hidden.mk hown
    clear hsrc hown hn hr
    go_enter Try.func82, Try.ntmps82
    go_wp2_with (at_builtin; refine wpList_append_src _ rfl (.tmp 5) (.tmp 6) _ rfl w.heap.size 38 i0 _ 2 16 Try.underlying34 hi0 hz0 hz1 hz2 rfl (by decide) (.slice (some ⟨w.heap.size, 0, none⟩) 0 0) 0 [] rfl HOW.out (some ad) n c (L.flatMap tcells) rfl HSRC.out (tcells_one L) (by simp only [maxLen]; omega) (by omega) (by simp) ?_; intro v1 w1 hown1 hg1 hnn)
    have hB : Below w.heap.size w w1 := ((Below.refl _ _).alloc (Nat.le_refl _) _).grown hg1 (by simp) (fun k hk => by simp [Value.ownBlock] at hk; omega)
    have HO := Hidden.mk (And.intro hown1 hB)
    clear hown1 hB hg1 hnn
    go_ret
    exact ⟨v1, rfl, by simpa using HO.out.1, HO.out.2⟩
/-- what is right for Holes -/
def OkX (l : List Ext) : Prop := ∀ x ∈ l, 0 ≤ x.1 ∧ 0 ≤ x.2 ∧ x.1 + x.2 ≤ 6400
theorem own_mem {w : World} {base n : Nat} {e : TypeId} {v : Value} {xs : List Value} {C : Nat} (h : w.ownsRow base e C v n xs) (hn : 0 < n) : ∃ g cap, v = .slice (some ⟨g, 0, none⟩) n cap ∧ base ≤ g := by
  rcases h.2 with ⟨_, h0⟩ | ⟨g, cap, cur, rfl, hb, _⟩
  · omega
  · exact ⟨g, cap, rfl, hb⟩
set_option maxRecDepth 100000 in
theorem xholes_any (n : Int) (A : Option Addr) (m c : Nat) (l : List Ext) (w : World) (hn0 : 0 ≤ n) (hn1 : n ≤ 6400) (hl : l.length = m) (hm : m ≤ 200) (hr : RdX tcells 2 w A l) (hok : OkX l) :
    Calls Try.prog 41 #[.int .i64 n, .slice A m c] w fun e w' => ∃ v, e = .returned v ∧ w'.ownsRow w.heap.size 38 2 v (holesX n l).length ((holesX n l).flatMap tcells) ∧ Below w.heap.size w w' := by
  obtain ⟨i0, hi0, hz0, hz1, hz2⟩ := info_parts extent_info
  have HI := Hidden.mk (And.intro hi0 (And.intro hz0 (And.intro hz1 hz2)))
  have HC := Hidden.mk (cloneX_any A m c l w hl (by omega) hr)
  have HS : Hidden ((sortE l).length = m) := ⟨by rw [(sortE_perm l).length_eq]; exact hl⟩
  have HOK : Hidden (OkX (sortE l ++ [(n, 0)])) := ⟨fun x hx => by
    rcases List.mem_append.1 hx with h | h
    · exact hok x ((sortE_perm l).mem_iff.1 h)
    · rw [List.mem_singleton.1 h]; dsimp only; omega⟩
  have HH : Hidden (holesX n l = holesGo 0 (sortE l ++ [(n, 0)])) := ⟨rfl⟩
  have HSORT : Hidden (∀ W v, W.ownsRow w.heap.size 38 2 v m (l.flatMap tcells) → Calls Try.prog 83 #[v, .func (.func 84) #[] #[]] W fun e w' => e = .returned (.tuple #[]) ∧ w'.ownsRow w.heap.size 38 2 v m ((sortE l).flatMap tcells) ∧ W.grownBy w' v.ownBlock) := ⟨fun W v h => sortX_any W _ m v l hl (by omega) h⟩
  rw [HH.out]
  generalize sortE l = S at *
  obtain ⟨X, hX⟩ : ∃ X, X = holesGo 0 (S ++ [(n, 0)]) := ⟨_, rfl⟩
  rw [← hX]
  have HX := Hidden.mk hX
  clear hX HH
  clear hi0 hz0 hz1 hz2 hr hok hl
  go_enter Try.func41, Try.ntmps41
  go_wp2_with fail
  refine HC.out.mono ?_
  rintro e w1 ⟨v1, rfl, hown1, hb1⟩
  have HO1 := Hidden.mk (And.intro hown1 hb1)
  clear hown1 hb1 HC
  go_wp2_with fail
  refine (HSORT.out _ _ HO1.out.1).mono ?_
  rintro e w2 ⟨rfl, hown2, hg2⟩
  have hb2 : Below w.heap.size w w2 := HO1.out.2.grown hg2 HO1.out.2.size (fun q hq => (HO1.out.1.lt q hq).1)
  have HO2 := Hidden.mk (And.intro hown2 hb2)
  clear hown2 hb2 hg2 HO1 HSORT
  obtain ⟨hi0, hz0, hz1, hz2⟩ := HI.out
  go_wp2_with (at_builtin; refine wpList_append_lies _ rfl (.tmp 12) (.tmp 15) _ rfl w.heap.size 38 i0 _ 2 16 Try.underlying34 hi0 hz0 hz1 hz2 rfl (by decide) v1 m (S.flatMap tcells) rfl (own_below HO2.out.1 ((Below.refl _ _).alloc (Nat.le_refl _) _)) ⟨(w2).heap.size, 0, none⟩ 1 1 [.int .i64 n, .int .i64 0] rfl rfl (World.news_of_block (cs := #[.int .i64 n, .int .i64 0]) (t := 38) (fr := (0, 0)) (heap_alloc_new (w2) _)) (by simp [Value.oneCell']) (by omega) (by simp only [maxLen]; omega) (by omega) (by have := HO2.out.2.size; simp at this ⊢; omega) ((w2).heap.size + 1) (by simp) ?_; intro g3 cap3 w3 hown3 hg3 hat3 hlt3)
  clear hi0 hz0 hz1 hz2
  have hgW := grown_trans' ((Below.refl w2.heap.size w2).alloc (Nat.le_refl _) _) hg3
  have hB3 : Below w.heap.size w w3 := HO2.out.2.grown hgW HO2.out.2.size (fun q hq => (HO2.out.1.lt q hq).1)
  have hown3' : w3.ownsRow w.heap.size 38 2 (.slice (some ⟨g3, 0, none⟩) (m + 1) cap3) (m + 1) ((S ++ [(n, 0)]).flatMap tcells) := by simpa [tcells] using hown3
  have HSL : Hidden ((S ++ [(n, 0)]).length = m + 1) := ⟨by simp [HS.out]⟩
  generalize S ++ [(n, 0)] = T at *
  have H3 : Hidden (Below w.heap.size w w3 ∧ w3.ownsRow w.heap.size 38 2 (.slice (some ⟨g3, 0, none⟩) (m + 1) cap3) (m + 1) (T.flatMap tcells)) := ⟨hB3, hown3'⟩
  clear hgW hB3 hown3 hown3' hg3 hat3 hlt3 HO2 HS
  go_wp2_with fail
  go_loopg [4, 5, 18] (m + 1) (fun q v at_ i wr => ∃ (k : Nat) (H : List Ext) (a : Int), k ≤ m + 1 ∧ q = m + 1 - k ∧ i = .int .i64 (k : Int) ∧ at_ = .int .i64 a ∧ 0 ≤ a ∧ a ≤ 6400 ∧ H.length ≤ k ∧ Hidden (X = H ++ holesGo a (T.drop k) ∧ Below w.heap.size w wr ∧ wr.ownsRow w.heap.size 38 2 (.slice (some ⟨g3, 0, none⟩) (m + 1) cap3) (m + 1) (T.flatMap tcells) ∧ wr.ownsRow w.heap.size 38 2 v H.length (H.flatMap tcells) ∧ v.ownBlock ≠ some g3))
  case atStart => exact ⟨0, [], 0, by omega, rfl, rfl, rfl, by omega, by omega, by simp, ⟨by rw [HX.out]; simp, H3.out.1, H3.out.2, World.ownsRow_nil _ _ _ _, by simp [Value.ownBlock]⟩⟩
  case round =>
    obtain ⟨k, H, a, hk, rfl, rfl, rfl, ha0, ha1, hHk, hst⟩ := hrel
    by_cases hlt : k < m + 1
    · have hkT : k < T.length := by have := HSL.out; omega
      obtain ⟨g, off, hA, hgb, hgl, hcx⟩ := own_at tcells_len hst.out.2.2.1 k hkT (by omega)
      injection hA with hA
      injection hA with hA1 hA2
      subst hA1 hA2
      have c0 := hcx 0 _ rfl
      have c1 := hcx 1 _ rfl
      simp only [Nat.zero_add, Nat.add_zero] at c0 c1
      have hb := HOK.out T[k] (List.getElem_mem hkT)
      have HD : Hidden (T.drop k = T[k] :: T.drop (k + 1)) := ⟨(List.drop_eq_getElem_cons hkT)⟩
      have HG : Hidden (holesGo a (T.drop k) = (if a < T[k].1 then [(a, T[k].1 - a)] else []) ++ holesGo (T[k].1 + T[k].2) (T.drop (k + 1))) := ⟨by rw [HD.out]; rfl⟩
      have k0 : (0 : Int) ≤ k := by omega
      have k1 : (k : Int) < ((m + 1 : Nat) : Int) := by omega
      have k2 : k < m + 1 := hlt
      have k3 : (k : Int) < (m : Int) + 1 := by omega
      generalize T[k] = e at *
      obtain ⟨e1, e2⟩ := e
      dsimp only at c0 c1 hb HG
      obtain ⟨hb0, hb1, hb2⟩ := hb
      have hal : Below wr.heap.size wr (wr.alloc (.cells #[.int .i64 e1, .int .i64 e2] 38)) := (Below.refl _ _).alloc (Nat.le_refl _) _
      have s1 : IntKind.i64.wrap (e1 + e2) = e1 + e2 := IntWalk.i64_in _ (by omega)
      have s2 : IntKind.i64.wrap (e1 - a) = e1 - a := IntWalk.i64_in _ (by omega)
      have s3 : IntKind.i64.wrap ((k : Int) + 1) = (k : Int) + 1 := IntWalk.i64_in _ (by omega)
      have HAL := Hidden.mk hal
      clear hcx HD hal
      by_cases hlt2 : a < e1
      · have d1 : decide (a < e1) = true := by simpa using hlt2
        have HG2 : Hidden (holesGo a (T.drop k) = (a, e1 - a) :: holesGo (e1 + e2) (T.drop (k + 1))) := ⟨by rw [HG.out, if_pos hlt2]; rfl⟩
        have HBW : Hidden (Below w.heap.size w (wr.alloc (.cells #[.int .i64 e1, .int .i64 e2] 38))) := ⟨hst.out.2.1.trans (HAL.out.mono hst.out.2.1.size)⟩
        have hbk : (wr.alloc (.cells #[.int .i64 e1, .int .i64 e2] 38)).heap[wr.heap.size]? = some (.cells #[.int .i64 e1, .int .i64 e2] 38 (0, 0)) := heap_alloc_new wr _
        have HBK := Hidden.mk hbk
        have HAL2 : Hidden (Below wr.heap.size wr ((wr.alloc (.cells #[.int .i64 e1, .int .i64 e2] 38)).alloc (.cells #[.int .i64 a, .int .i64 (e1 - a)] 38))) := ⟨HAL.out.alloc HAL.out.size _⟩
        have HCELL : Hidden (∀ W, ((wr.alloc (.cells #[.int .i64 e1, .int .i64 e2] 38)).alloc (.cells #[.int .i64 a, .int .i64 (e1 - a)] 38)).grownBy W u4.ownBlock → W.cell? ⟨wr.heap.size, 0, none⟩ = some (.int .i64 e1) ∧ W.cell? ⟨wr.heap.size, 1, none⟩ = some (.int .i64 e2)) := ⟨fun W hW => by
          have hq := (hW.block wr.heap.size (by simp; omega) (fun e => by have := (hst.out.2.2.2.1.lt _ e.symm).2; omega)).trans ((Below.heap_alloc _ _ _ (by simp)).trans hbk)
          exact ⟨by simp [World.cell?, hq], by simp [World.cell?, hq]⟩⟩
        obtain ⟨hi0, hz0, hz1, hz2⟩ := HI.out
        clear hbk HG
        go_wp2_with (at_builtin; refine wpList_append_lies _ rfl (.tmp 26) (.tmp 33) _ rfl w.heap.size 38 i0 _ 2 16 Try.underlying34 hi0 hz0 hz1 hz2 rfl (by decide) u4 H.length (H.flatMap tcells) rfl (own_below (own_below hst.out.2.2.2.1 HAL.out) ((Below.refl _ _).alloc (Nat.le_refl _) _)) ⟨wr.heap.size + 1, 0, none⟩ 1 1 [.int .i64 a, .int .i64 (e1 - a)] rfl rfl (World.news_of_block (cs := #[.int .i64 a, .int .i64 (e1 - a)]) (t := 38) (fr := (0, 0)) (by have hq_ := heap_alloc_new (wr.alloc (.cells #[.int .i64 e1, .int .i64 e2] 38)) (.cells #[.int .i64 a, .int .i64 (e1 - a)] 38); rwa [World.size_alloc] at hq_)) (by simp [Value.oneCell']) (by omega) (by simp only [maxLen]; omega) (by omega) (by have := HBW.out.size; simp at this ⊢; omega) (wr.heap.size + 1 + 1) (by simp) ?_; intro g7 cap7 w7 hown7 hg7 hat7 hlt7; have hgW := grown_trans' (HAL2.out) hg7; obtain ⟨z0, z1⟩ := HCELL.out w7 hg7)
        clear hi0 hz0 hz1 hz2
        have hB7 : Below w.heap.size w w7 := hst.out.2.1.grown hgW hst.out.2.1.size (fun q hq => (hst.out.2.2.2.1.lt q hq).1)
        have hg3n : some g3 ≠ u4.ownBlock := fun e => hst.out.2.2.2.2 e.symm
        have hT7 := hst.out.2.2.1.kept hgW (.inr (by simpa [Value.ownBlock] using hg3n))
        have hg37 : g7 ≠ g3 := fun e => by
          rcases hat7 with h | h
          · exact hst.out.2.2.2.2 (by rw [h, e])
          · omega
        have HN : Hidden (X = (H ++ [(a, e1 - a)]) ++ holesGo (e1 + e2) (T.drop (k + 1)) ∧ Below w.heap.size w w7 ∧ w7.ownsRow w.heap.size 38 2 (.slice (some ⟨g3, 0, none⟩) (m + 1) cap3) (m + 1) (T.flatMap tcells) ∧ w7.ownsRow w.heap.size 38 2 (.slice (some ⟨g7, 0, none⟩) (H.length + 1) cap7) (H ++ [(a, e1 - a)]).length ((H ++ [(a, e1 - a)]).flatMap tcells) ∧ (Value.slice (some ⟨g7, 0, none⟩) (H.length + 1) cap7).ownBlock ≠ some g3) :=
          ⟨by rw [hst.out.1, HG2.out]; simp, hB7, hT7, by simpa [tcells] using hown7, by simpa [Value.ownBlock] using hg37⟩
        clear hB7 hg3n hT7 hg37 hown7 hg7 hat7 hlt7 hgW hst HBW HBK HAL2 HCELL HG2
        go_wp2_with fail
        go_roundg (m + 1 - (k + 1))
        case measure => omega
        case rel => exact ⟨k + 1, H ++ [(a, e1 - a)], e1 + e2, by omega, rfl, by go_num, rfl, by omega, by omega, by simp; omega, HN⟩
      · have d1 : decide (a < e1) = false := by simpa using hlt2
        have HG2 : Hidden (holesGo a (T.drop k) = holesGo (e1 + e2) (T.drop (k + 1))) := ⟨by rw [HG.out, if_neg hlt2]; rfl⟩
        have HN : Hidden (X = H ++ holesGo (e1 + e2) (T.drop (k + 1)) ∧ Below w.heap.size w (wr.alloc (.cells #[.int .i64 e1, .int .i64 e2] 38)) ∧ (wr.alloc (.cells #[.int .i64 e1, .int .i64 e2] 38)).ownsRow w.heap.size 38 2 (.slice (some ⟨g3, 0, none⟩) (m + 1) cap3) (m + 1) (T.flatMap tcells) ∧ (wr.alloc (.cells #[.int .i64 e1, .int .i64 e2] 38)).ownsRow w.heap.size 38 2 u4 H.length (H.flatMap tcells) ∧ u4.ownBlock ≠ some g3) :=
          ⟨hst.out.1.trans (by rw [HG2.out]), hst.out.2.1.trans (HAL.out.mono hst.out.2.1.size), own_below hst.out.2.2.1 HAL.out, own_below hst.out.2.2.2.1 HAL.out, hst.out.2.2.2.2⟩
        clear HG HG2 hst
        go_wp2_with fail
        go_roundg (m + 1 - (k + 1))
        case measure => omega
        case rel => exact ⟨k + 1, H, e1 + e2, by omega, rfl, by go_num, rfl, by omega, by omega, by omega, HN⟩
    · obtain rfl : k = m + 1 := by omega
      have HF : Hidden (X = H) := ⟨by rw [hst.out.1, List.drop_of_length_le (by have := HSL.out; omega)]; simp [holesGo]⟩
      go_wp2_with fail
      go_ret
      exact ⟨_, rfl, by rw [HF.out]; exact hst.out.2.2.2.1, hst.out.2.1⟩
end Go.Proofs.Ytibogmoemohngaa
