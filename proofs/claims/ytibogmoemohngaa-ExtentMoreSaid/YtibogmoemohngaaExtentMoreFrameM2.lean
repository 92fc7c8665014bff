/- Contracts and plain laws, put together: LayX, Ext2, Keep, Ext3, Ext4, ExtP, ExtentMore1, Open4. -/
import Derived.Shelf.SlGeneric
import Derived.Shelf.SlSortCmp.WholeK
import Derived.Ground.SlsfProg
import Derived.Test.YtibogmoemohngaaExtentMoreFrameM1
import Derived.Shelf.SlSortCmp.NoneTotal
/- Laid: library functions whose contracts are proved over whatever program: the table of numbers, and a field a function or a type. -/
namespace Go.Proofs.Ytibogmoemohngaa
open Go.Shelf
def layX_ren : Go.Shelf.Ren := ⟨fun | 6 => 83 | 15 => 112 | 14 => 113 | 28 => 136 | 29 => 137 | 20 => 138 | 21 => 139 | 22 => 140 | 23 => 141 | 24 => 142 | 25 => 143 | 26 => 144 | 27 => 145 | 46 => 165 | 47 => 161 | 48 => 162 | 49 => 166 | 50 => 167 | 57 => 173 | n => n, fun | 22 => 34 | 24 => 38 | 25 => 137 | 3 => 3 | 39 => 167 | 0 => 0 | 53 => 189 | 55 => 191 | 4 => 4 | 46 => 181 | 45 => 180 | 50 => 186 | 5 => 5 | 9 => 9 | 66 => 207 | 70 => 211 | 76 => 218 | 77 => 219 | n => n, fun | n => n⟩
theorem layX : Go.Proofs.SlLaysF0.n6 Try.prog layX_ren := {
  mixed := by kernel_rfl
  f6 := ⟨Try.f83.name, by decide, Try.func83.trans (congrArg some (by kernel_rfl))⟩
  f14 := ⟨Try.f113.name, by decide, Try.func113.trans (congrArg some (by kernel_rfl))⟩
  f15 := Try.func112.trans (congrArg some (by kernel_rfl))
  f20 := ⟨Try.f138.name, by decide, Try.func138.trans (congrArg some (by kernel_rfl))⟩
  f21 := ⟨Try.f139.name, by decide, Try.func139.trans (congrArg some (by kernel_rfl))⟩
  f22 := ⟨Try.f140.name, by decide, Try.func140.trans (congrArg some (by kernel_rfl))⟩
  f23 := ⟨Try.f141.name, by decide, Try.func141.trans (congrArg some (by kernel_rfl))⟩
  f24 := ⟨Try.f142.name, by decide, Try.func142.trans (congrArg some (by kernel_rfl))⟩
  f25 := ⟨Try.f143.name, by decide, Try.func143.trans (congrArg some (by kernel_rfl))⟩
  f26 := ⟨Try.f144.name, by decide, Try.func144.trans (congrArg some (by kernel_rfl))⟩
  f27 := ⟨Try.f145.name, by decide, Try.func145.trans (congrArg some (by kernel_rfl))⟩
  f28 := Try.func136.trans (congrArg some (by kernel_rfl))
  f29 := Try.func137.trans (congrArg some (by kernel_rfl))
  f46 := ⟨Try.f165.name, by decide, Try.func165.trans (congrArg some (by kernel_rfl))⟩
  f47 := Try.func161.trans (congrArg some (by kernel_rfl))
  f48 := Try.func162.trans (congrArg some (by kernel_rfl))
  f49 := ⟨Try.f166.name, by decide, Try.func166.trans (congrArg some (by kernel_rfl))⟩
  f50 := ⟨Try.f167.name, by decide, Try.func167.trans (congrArg some (by kernel_rfl))⟩
  f57 := ⟨Try.f173.name, by decide, Try.func173.trans (congrArg some (by kernel_rfl))⟩
  t0 := Try.underlying0
  a0 := Try.isAgg0
  z0 := Try.sizeOf0
  v0 := Try.zeroValue0
  t3 := Try.underlying3
  a3 := Try.isAgg3
  z3 := Try.sizeOf3
  v3 := Try.zeroValue3
  t4 := Try.underlying4
  a4 := Try.isAgg4
  z4 := Try.sizeOf4
  v4 := Try.zeroValue4
  t5 := Try.underlying5
  a5 := Try.isAgg5
  z5 := Try.sizeOf5
  v5 := Try.zeroValue5
  t9 := Try.underlying9
  a9 := Try.isAgg9
  z9 := Try.sizeOf9
  v9 := Try.zeroValue9
  t22 := Try.underlying34
  a22 := Try.isAgg34
  z22 := Try.sizeOf34
  v22 := Try.zeroValue34
  t25 := Try.underlying137
  a25 := Try.isAgg137
  z25 := Try.sizeOf137
  v25 := Try.zeroValue137
  t39 := Try.underlying167
  a39 := Try.isAgg167
  z39 := Try.sizeOf167
  v39 := Try.zeroValue167
  t45 := Try.underlying180
  a45 := Try.isAgg180
  z45 := Try.sizeOf180
  v45 := Try.zeroValue180
  t46 := Try.underlying181
  a46 := Try.isAgg181
  z46 := Try.sizeOf181
  v46 := Try.zeroValue181
  t50 := Try.underlying186
  a50 := Try.isAgg186
  z50 := Try.sizeOf186
  v50 := Try.zeroValue186
  t53 := Try.underlying189
  a53 := Try.isAgg189
  z53 := Try.sizeOf189
  v53 := Try.zeroValue189
  t55 := Try.underlying191
  a55 := Try.isAgg191
  z55 := Try.sizeOf191
  v55 := Try.zeroValue191
  t66 := Try.underlying207
  a66 := Try.isAgg207
  z66 := Try.sizeOf207
  v66 := Try.zeroValue207
  t70 := Try.underlying211
  a70 := Try.isAgg211
  z70 := Try.sizeOf211
  v70 := Try.zeroValue211
  t76 := Try.underlying218
  a76 := Try.isAgg218
  z76 := Try.sizeOf218
  v76 := Try.zeroValue218
  t77 := Try.underlying219
  a77 := Try.isAgg219
  z77 := Try.sizeOf219
  v77 := Try.zeroValue219 }
end Go.Proofs.Ytibogmoemohngaa
/- The contract of extent.Holes. -/
namespace Go.Proofs.Ytibogmoemohngaa
open Go.RowKit Go.Sort Go.Shelf Go.Lib

def cmpX (x y : Ext) : Int := Lib.compareInt x.1 y.1
theorem ltX (x y : Ext) : ltOf cmpX x y = decide (x.1 < y.1) := by
  unfold ltOf cmpX Lib.compareInt
  by_cases h1 : x.1 < y.1
  · simp [h1]
  · by_cases h2 : y.1 < x.1 <;> simp [h1, h2]
theorem swoX : SWO (ltOf cmpX) where
  irrefl x := by rw [ltX]; simp
  trans x y z h1 h2 := by rw [ltX] at *; simp at *; omega
  ntrans x y z h1 h2 := by rw [ltX] at *; simp at *; omega
/-- extents by where they begin -/
def sortE (l : List Ext) : List Ext := pdqL cmpX l
theorem sortE_perm (l : List Ext) : (sortE l).Perm l := (pdqL_perm cmpX swoX l).1
theorem sortE_sorted (l : List Ext) : (sortE l).Pairwise (fun a b => a.1 ≤ b.1) := (pdqL_perm cmpX swoX l).2.imp fun {a b} h => by
  rw [ltX] at h; simp at h; omega
/-- runs between -/
def holesGo : Int → List Ext → List Ext
  | _, [] => []
  | at_, e :: r => (if at_ < e.1 then [(at_, e.1 - at_)] else []) ++ holesGo (e.1 + e.2) r
def holesX (n : Int) (l : List Ext) : List Ext := holesGo 0 (sortE l ++ [(n, 0)])

theorem compare_any (x y : Int) (w : World) : Calls Try.prog 85 #[.int .i64 x, .int .i64 y] w fun e w' => e = .returned (.int .i64 (Lib.compareInt x y)) ∧ w = w' := by
  have hn : ∀ z : Int, ∀ W, Calls Try.prog 114 #[.int .i64 z] W fun e w' => e = .returned (.bool false) ∧ W = w' := fun z W => by
    go_enter Try.func114, Try.ntmps114
    go_wp2
    go_ret
    exact ⟨by simp, rfl⟩
  have HN := Hidden.mk hn
  have HC : Hidden (Lib.compareInt x y = if x < y then -1 else if y < x then 1 else 0) := ⟨by unfold Lib.compareInt; rfl⟩
  clear hn
  by_cases h1 : x < y
  · have d1 : decide (x < y) = true := by simpa using h1
    have HV : Hidden (Lib.compareInt x y = -1) := ⟨by rw [HC.out, if_pos h1]⟩
    go_enter Try.func85, Try.ntmps85
    go_wp2_with (first | (go_at_call 114; refine (HN.out _ _).mono ?_; rintro e w' ⟨rfl, rfl⟩))
    go_ret
    exact ⟨ret_i64 HV.out.symm, rfl⟩
  have d1 : decide (x < y) = false := by simpa using h1
  by_cases h2 : y < x
  · have d2 : decide (y < x) = true := by simpa using h2
    have HV : Hidden (Lib.compareInt x y = 1) := ⟨by rw [HC.out, if_neg h1, if_pos h2]⟩
    go_enter Try.func85, Try.ntmps85
    go_wp2_with (first | (go_at_call 114; refine (HN.out _ _).mono ?_; rintro e w' ⟨rfl, rfl⟩))
    go_ret
    exact ⟨ret_i64 HV.out.symm, rfl⟩
  have d2 : decide (y < x) = false := by simpa using h2
  have HV : Hidden (Lib.compareInt x y = 0) := ⟨by rw [HC.out, if_neg h1, if_neg h2]⟩
  go_enter Try.func85, Try.ntmps85
  go_wp2_with (first | (go_at_call 114; refine (HN.out _ _).mono ?_; rintro e w' ⟨rfl, rfl⟩))
  go_ret
  exact ⟨ret_i64 HV.out.symm, rfl⟩
/-- the closure of Holes -/
theorem closeX (x y : Ext) (W : World) : Calls Try.prog 84 #[.agg #[.int .i64 x.1, .int .i64 x.2], .agg #[.int .i64 y.1, .int .i64 y.2]] W fun e w' => e = .returned (.int .i64 (cmpX x y)) ∧ ∃ q os', w' = grow (W.drewN q) os' := by
  have hcon := fun W' => compare_any x.1 y.1 W'
  have HC := Hidden.mk hcon
  have HX : Hidden (cmpX x y = Lib.compareInt x.1 y.1) := ⟨rfl⟩
  clear hcon
  rw [HX.out]
  generalize Lib.compareInt x.1 y.1 = r at *
  go_enter Try.func84, Try.ntmps84
  go_wp2_with (go_at_call 85; refine (HC.out _).mono ?_; rintro e w' ⟨rfl, rfl⟩)
  go_ret
  exact ⟨rfl, 0, _, by rw [alloc_eq_grow, alloc_eq_grow, grow_grow]; rfl⟩
theorem sortX_any (w : World) (base n : Nat) (v : Value) (L : List Ext) (hn : L.length = n) (hl : n ≤ 1000) (hown : w.ownsRow base 38 2 v n (L.flatMap tcells)) :
    Calls Try.prog 83 #[v, .func (.func 84) #[] #[]] w fun e w' => e = .returned (.tuple #[]) ∧ w'.ownsRow base 38 2 v n ((sortE L).flatMap tcells) ∧ w.grownBy w' v.ownBlock := by
  rcases hown.2 with ⟨rfl, h0⟩ | ⟨g, cap, cur, rfl, hb, hh, _⟩
  · have hL : L = [] := List.eq_nil_of_length_eq_zero (by omega)
    subst hL h0
    have hs : sortE [] = [] := List.Perm.eq_nil (sortE_perm [])
    have hc := AnyF.slices_SortFunc_none layX none 0 (.func (.func 84) #[] #[]) w
    change Calls Try.prog 83 _ _ _ at hc
    refine hc.mono ?_
    rintro e w' ⟨rfl, rfl⟩
    exact ⟨rfl, by rw [hs]; exact hown, World.grownBy.refl _ _⟩
  · have eg : ∀ args w, (callFunc 84 args).run Try.prog w = .ok (.enter 84 args) w := enters_of Try.func84 (by kernel_rfl) rfl
    have hcon := AnyQ.slices_SortFunc_eq layX 2 Try.isAgg38 Try.sizeOf38 tcells tcells_len (fun x v hv => by simp [tcells] at hv; rcases hv with rfl | rfl <;> rfl) cmpX swoX 84 #[] g 0 cap L.toArray w eg
      (fun _ _ _ _ x y => closeX x y _) (holdsK_own tcells_len (by omega) hown) (Array.getElem?_eq_some_iff.1 hh).1 (by simp; omega)
    change Calls Try.prog 83 _ _ _ at hcon
    have hsz : L.toArray.size = n := by simpa using hn
    rw [hsz] at hcon
    refine hcon.mono ?_
    rintro e w' ⟨rfl, m, os, rfl⟩
    have hds : (pdq (ltOf cmpX) L.toArray 0 n (Lib.bitLen n) true true).size = n := by
      have := (sortE_perm L).length_eq
      unfold sortE pdqL at this
      rw [Array.length_toList, hn] at this
      exact this
    have h2 := own_sortedK (m := m) (os := os) tcells_len (by omega) hds hown
    refine ⟨rfl, ?_, h2.2⟩
    have he : sortE L = (pdq (ltOf cmpX) L.toArray 0 n (Lib.bitLen n) true true).toList := by unfold sortE pdqL; rw [hn]
    rw [he]
    exact h2.1
theorem Src.of_rdX {X : Type} {cells : X → List Value} {C : Nat} (hC : ∀ x, (cells x).length = C) (h0 : 0 < C) {w : World} {A : Option Addr} {n : Nat} {L : List X} (hn : L.length = n) (h : RdX cells C w A L) : Src w C A n (L.flatMap cells) := by
  have hlen : (L.flatMap cells).length = n * C := by
    rw [List.length_flatMap]
    have : L.map (fun x => (cells x).length) = List.replicate n C := by
      rw [List.eq_replicate_iff]
      exact ⟨by simpa using hn, fun b hb => by obtain ⟨x, _, rfl⟩ := List.mem_map.1 hb; exact hC x⟩
    rw [this]; simp
  refine ⟨hlen, fun j u hu => ?_⟩
  have hj : j < n * C := by rw [← hlen]; exact (List.getElem?_eq_some_iff.1 hu).1
  have h1 : j / C < L.length := by rw [hn, Nat.div_lt_iff_lt_mul h0]; exact hj
  obtain ⟨b, off, rfl, hc⟩ := h (j / C) h1
  have h2 := flat_at cells C hC L (j / C) h1 (j % C) (Nat.mod_lt _ h0)
  rw [Nat.div_add_mod' j C] at h2
  refine ⟨_, rfl, ?_⟩
  rw [Addr.add_lit]
  have := hc (j % C) u (h2.symm.trans hu)
  rwa [Nat.add_assoc, Nat.div_add_mod' j C] at this
theorem extent_info : (Try.prog.info? 38).map (fun i => (i.zero, i.size, i.bytes)) = some (some (.agg #[.int .i64 0, .int .i64 0]), 2, 16) := by kernel_rfl
theorem tcells_one (L : List Ext) : ∀ u ∈ L.flatMap tcells, u.oneCell' = true := by
  intro u hu
  obtain ⟨x, _, h⟩ := List.mem_flatMap.1 hu
  simp only [tcells, List.mem_cons, List.not_mem_nil, or_false] at h
  rcases h with rfl | rfl <;> rfl
theorem cloneX_any (A : Option Addr) (n c : Nat) (L : List Ext) (w : World) (hn : L.length = n) (hl : n ≤ 1000) (hr : RdX tcells 2 w A L) :
    Calls Try.prog 82 #[.slice A n c] w fun e w' => ∃ v, e = .returned v ∧ w'.ownsRow w.heap.size 38 2 v n (L.flatMap tcells) ∧ Below w.heap.size w w' := by
  have he := fun W => Lib.run_eql_slice_nil (P := Try.prog) W 34 38 A n c 0 0 Try.underlying34
  have hsrc := Src.of_rdX tcells_len (by omega) hn hr
  rcases A with _ | ad
  · have hL : L = [] := by
      cases L with
      | nil => rfl
      | cons x r => obtain ⟨b, off, h, _⟩ := hr 0 (by simp); cases h
    subst hL
    have h0 : n = 0 := by simpa using hn.symm
    subst h0
    clear hr hsrc hn
    go_enter Try.func82, Try.ntmps82
    go_wp2_with fail
    go_ret
    exact ⟨_, rfl, World.ownsRow_nil _ _ _ _, Below.refl _ _⟩
  · obtain ⟨i0, hi0, hz0, hz1, hz2⟩ := info_parts extent_info
    have hown := World.ownsRow_lit (base := w.heap.size) (e := 38) (size := 2) w #[] 0 (Nat.le_refl _) (by simp) rfl
    have HSRC := Hidden.mk (hsrc.below ((Below.refl _ _).alloc (Nat.le_refl _) (.cells #[] 38)))
    have HOW := Hidden.mk hown
    clear hsrc hown hn hr
    go_enter Try.func82, Try.ntmps82
    go_wp2_with (at_builtin; refine wpList_append_src _ rfl (.tmp 5) (.tmp 6) _ rfl w.heap.size 38 i0 _ 2 16 Try.underlying34 hi0 hz0 hz1 hz2 rfl (by decide) (.slice (some ⟨w.heap.size, 0, none⟩) 0 0) 0 [] rfl HOW.out (some ad) n c (L.flatMap tcells) rfl HSRC.out (tcells_one L) (by simp only [maxLen]; omega) (by omega) (by simp) ?_; intro v1 w1 hown1 hg1 hnn)
    have hB : Below w.heap.size w w1 := ((Below.refl _ _).alloc (Nat.le_refl _) _).grown hg1 (by simp) (fun k hk => by simp [Value.ownBlock] at hk; omega)
    have HO := Hidden.mk (And.intro hown1 hB)
    clear hown1 hB hg1 hnn
    go_ret
    exact ⟨v1, rfl, by simpa using HO.out.1, HO.out.2⟩
/-- what is right for Holes -/
def OkX (l : List Ext) : Prop := ∀ x ∈ l, 0 ≤ x.1 ∧ 0 ≤ x.2 ∧ x.1 + x.2 ≤ 6400
theorem own_mem {w : World} {base n : Nat} {e : TypeId} {v : Value} {xs : List Value} {C : Nat} (h : w.ownsRow base e C v n xs) (hn : 0 < n) : ∃ g cap, v = .slice (some ⟨g, 0, none⟩) n cap ∧ base ≤ g := by
  rcases h.2 with ⟨_, h0⟩ | ⟨g, cap, cur, rfl, hb, _⟩
  · omega
  · exact ⟨g, cap, rfl, hb⟩
set_option maxRecDepth 100000 in
theorem xholes_any (n : Int) (A : Option Addr) (m c : Nat) (l : List Ext) (w : World) (hn0 : 0 ≤ n) (hn1 : n ≤ 6400) (hl : l.length = m) (hm : m ≤ 200) (hr : RdX tcells 2 w A l) (hok : OkX l) :
    Calls Try.prog 41 #[.int .i64 n, .slice A m c] w fun e w' => ∃ v, e = .returned v ∧ w'.ownsRow w.heap.size 38 2 v (holesX n l).length ((holesX n l).flatMap tcells) ∧ Below w.heap.size w w' := by
  obtain ⟨i0, hi0, hz0, hz1, hz2⟩ := info_parts extent_info
  have HI := Hidden.mk (And.intro hi0 (And.intro hz0 (And.intro hz1 hz2)))
  have HC := Hidden.mk (cloneX_any A m c l w hl (by omega) hr)
  have HS : Hidden ((sortE l).length = m) := ⟨by rw [(sortE_perm l).length_eq]; exact hl⟩
  have HOK : Hidden (OkX (sortE l ++ [(n, 0)])) := ⟨fun x hx => by
    rcases List.mem_append.1 hx with h | h
    · exact hok x ((sortE_perm l).mem_iff.1 h)
    · rw [List.mem_singleton.1 h]; dsimp only; omega⟩
  have HH : Hidden (holesX n l = holesGo 0 (sortE l ++ [(n, 0)])) := ⟨rfl⟩
  have HSORT : Hidden (∀ W v, W.ownsRow w.heap.size 38 2 v m (l.flatMap tcells) → Calls Try.prog 83 #[v, .func (.func 84) #[] #[]] W fun e w' => e = .returned (.tuple #[]) ∧ w'.ownsRow w.heap.size 38 2 v m ((sortE l).flatMap tcells) ∧ W.grownBy w' v.ownBlock) := ⟨fun W v h => sortX_any W _ m v l hl (by omega) h⟩
  rw [HH.out]
  generalize sortE l = S at *
  obtain ⟨X, hX⟩ : ∃ X, X = holesGo 0 (S ++ [(n, 0)]) := ⟨_, rfl⟩
  rw [← hX]
  have HX := Hidden.mk hX
  clear hX HH
  clear hi0 hz0 hz1 hz2 hr hok hl
  go_enter Try.func41, Try.ntmps41
  go_wp2_with fail
  refine HC.out.mono ?_
  rintro e w1 ⟨v1, rfl, hown1, hb1⟩
  have HO1 := Hidden.mk (And.intro hown1 hb1)
  clear hown1 hb1 HC
  go_wp2_with fail
  refine (HSORT.out _ _ HO1.out.1).mono ?_
  rintro e w2 ⟨rfl, hown2, hg2⟩
  have hb2 : Below w.heap.size w w2 := HO1.out.2.grown hg2 HO1.out.2.size (fun q hq => (HO1.out.1.lt q hq).1)
  have HO2 := Hidden.mk (And.intro hown2 hb2)
  clear hown2 hb2 hg2 HO1 HSORT
  obtain ⟨hi0, hz0, hz1, hz2⟩ := HI.out
  go_wp2_with (at_builtin; refine wpList_append_lies _ rfl (.tmp 12) (.tmp 15) _ rfl w.heap.size 38 i0 _ 2 16 Try.underlying34 hi0 hz0 hz1 hz2 rfl (by decide) v1 m (S.flatMap tcells) rfl (own_below HO2.out.1 ((Below.refl _ _).alloc (Nat.le_refl _) _)) ⟨(w2).heap.size, 0, none⟩ 1 1 [.int .i64 n, .int .i64 0] rfl rfl (World.news_of_block (cs := #[.int .i64 n, .int .i64 0]) (t := 38) (fr := (0, 0)) (heap_alloc_new (w2) _)) (by simp [Value.oneCell']) (by omega) (by simp only [maxLen]; omega) (by omega) (by have hz_ := HO2.out.2.size; rw [World.size_alloc]; omega) ((w2).heap.size + 1) (by simp) ?_; intro g3 cap3 w3 hown3 hg3 hat3 hlt3)
  clear hi0 hz0 hz1 hz2
  have hgW := grown_trans' ((Below.refl w2.heap.size w2).alloc (Nat.le_refl _) _) hg3
  have hB3 : Below w.heap.size w w3 := HO2.out.2.grown hgW HO2.out.2.size (fun q hq => (HO2.out.1.lt q hq).1)
  have hown3' : w3.ownsRow w.heap.size 38 2 (.slice (some ⟨g3, 0, none⟩) (m + 1) cap3) (m + 1) ((S ++ [(n, 0)]).flatMap tcells) := by simpa [tcells] using hown3
  have HSL : Hidden ((S ++ [(n, 0)]).length = m + 1) := ⟨by simp [HS.out]⟩
  generalize S ++ [(n, 0)] = T at *
  have H3 : Hidden (Below w.heap.size w w3 ∧ w3.ownsRow w.heap.size 38 2 (.slice (some ⟨g3, 0, none⟩) (m + 1) cap3) (m + 1) (T.flatMap tcells)) := ⟨hB3, hown3'⟩
  clear hgW hB3 hown3 hown3' hg3 hat3 hlt3 HO2 HS
  go_wp2_with fail
  go_loopg [4, 5, 18] (m + 1) (fun q v at_ i wr => ∃ (k : Nat) (H : List Ext) (a : Int), k ≤ m + 1 ∧ q = m + 1 - k ∧ i = .int .i64 (k : Int) ∧ at_ = .int .i64 a ∧ 0 ≤ a ∧ a ≤ 6400 ∧ H.length ≤ k ∧ Hidden (X = H ++ holesGo a (T.drop k) ∧ Below w.heap.size w wr ∧ wr.ownsRow w.heap.size 38 2 (.slice (some ⟨g3, 0, none⟩) (m + 1) cap3) (m + 1) (T.flatMap tcells) ∧ wr.ownsRow w.heap.size 38 2 v H.length (H.flatMap tcells) ∧ v.ownBlock ≠ some g3))
  case atStart => exact ⟨0, [], 0, by omega, rfl, rfl, rfl, by omega, by omega, by simp, ⟨by rw [HX.out]; simp, H3.out.1, H3.out.2, World.ownsRow_nil _ _ _ _, by simp [Value.ownBlock]⟩⟩
  case round =>
    obtain ⟨k, H, a, hk, rfl, rfl, rfl, ha0, ha1, hHk, hst⟩ := hrel
    by_cases hlt : k < m + 1
    · have hkT : k < T.length := by have := HSL.out; omega
      obtain ⟨g, off, hA, hgb, hgl, hcx⟩ := own_at tcells_len hst.out.2.2.1 k hkT (by omega)
      injection hA with hA
      injection hA with hA1 hA2
      subst hA1 hA2
      have c0 := hcx 0 _ rfl
      have c1 := hcx 1 _ rfl
      simp only [Nat.zero_add, Nat.add_zero] at c0 c1
      have hb := HOK.out T[k] (List.getElem_mem hkT)
      have HD : Hidden (T.drop k = T[k] :: T.drop (k + 1)) := ⟨(List.drop_eq_getElem_cons hkT)⟩
      have HG : Hidden (holesGo a (T.drop k) = (if a < T[k].1 then [(a, T[k].1 - a)] else []) ++ holesGo (T[k].1 + T[k].2) (T.drop (k + 1))) := ⟨by rw [HD.out]; rfl⟩
      have k0 : (0 : Int) ≤ k := by omega
      have k1 : (k : Int) < ((m + 1 : Nat) : Int) := by omega
      have k2 : k < m + 1 := hlt
      have k3 : (k : Int) < (m : Int) + 1 := by omega
      generalize T[k] = e at *
      obtain ⟨e1, e2⟩ := e
      dsimp only at c0 c1 hb HG
      obtain ⟨hb0, hb1, hb2⟩ := hb
      have hal : Below wr.heap.size wr (wr.alloc (.cells #[.int .i64 e1, .int .i64 e2] 38)) := (Below.refl _ _).alloc (Nat.le_refl _) _
      have s1 : IntKind.i64.wrap (e1 + e2) = e1 + e2 := IntWalk.i64_in _ (by omega)
      have s2 : IntKind.i64.wrap (e1 - a) = e1 - a := IntWalk.i64_in _ (by omega)
      have s3 : IntKind.i64.wrap ((k : Int) + 1) = (k : Int) + 1 := IntWalk.i64_in _ (by omega)
      have HAL := Hidden.mk hal
      clear hcx HD hal
      by_cases hlt2 : a < e1
      · have d1 : decide (a < e1) = true := by simpa using hlt2
        have HG2 : Hidden (holesGo a (T.drop k) = (a, e1 - a) :: holesGo (e1 + e2) (T.drop (k + 1))) := ⟨by rw [HG.out, if_pos hlt2]; rfl⟩
        have HBW : Hidden (Below w.heap.size w (wr.alloc (.cells #[.int .i64 e1, .int .i64 e2] 38))) := ⟨hst.out.2.1.trans (HAL.out.mono hst.out.2.1.size)⟩
        have hbk : (wr.alloc (.cells #[.int .i64 e1, .int .i64 e2] 38)).heap[wr.heap.size]? = some (.cells #[.int .i64 e1, .int .i64 e2] 38 (0, 0)) := heap_alloc_new wr _
        have HBK := Hidden.mk hbk
        have HAL2 : Hidden (Below wr.heap.size wr ((wr.alloc (.cells #[.int .i64 e1, .int .i64 e2] 38)).alloc (.cells #[.int .i64 a, .int .i64 (e1 - a)] 38))) := ⟨HAL.out.alloc HAL.out.size _⟩
        have HCELL : Hidden (∀ W, ((wr.alloc (.cells #[.int .i64 e1, .int .i64 e2] 38)).alloc (.cells #[.int .i64 a, .int .i64 (e1 - a)] 38)).grownBy W u4.ownBlock → W.cell? ⟨wr.heap.size, 0, none⟩ = some (.int .i64 e1) ∧ W.cell? ⟨wr.heap.size, 1, none⟩ = some (.int .i64 e2)) := ⟨fun W hW => by
          have hq := (hW.block wr.heap.size (by simp; omega) (fun e => by have := (hst.out.2.2.2.1.lt _ e.symm).2; omega)).trans ((Below.heap_alloc _ _ _ (by simp)).trans hbk)
          exact ⟨by simp [World.cell?, hq], by simp [World.cell?, hq]⟩⟩
        obtain ⟨hi0, hz0, hz1, hz2⟩ := HI.out
        clear hbk HG
        go_wp2_with (at_builtin; refine wpList_append_lies _ rfl (.tmp 26) (.tmp 33) _ rfl w.heap.size 38 i0 _ 2 16 Try.underlying34 hi0 hz0 hz1 hz2 rfl (by decide) u4 H.length (H.flatMap tcells) rfl (own_below (own_below hst.out.2.2.2.1 HAL.out) ((Below.refl _ _).alloc (Nat.le_refl _) _)) ⟨wr.heap.size + 1, 0, none⟩ 1 1 [.int .i64 a, .int .i64 (e1 - a)] rfl rfl (World.news_of_block (cs := #[.int .i64 a, .int .i64 (e1 - a)]) (t := 38) (fr := (0, 0)) (by have hq_ := heap_alloc_new (wr.alloc (.cells #[.int .i64 e1, .int .i64 e2] 38)) (.cells #[.int .i64 a, .int .i64 (e1 - a)] 38); rwa [World.size_alloc] at hq_)) (by simp [Value.oneCell']) (by omega) (by simp only [maxLen]; omega) (by omega) (by have hz_ := HBW.out.size; rw [World.size_alloc]; omega) (wr.heap.size + 1 + 1) (by simp) ?_; intro g7 cap7 w7 hown7 hg7 hat7 hlt7; have hgW := grown_trans' (HAL2.out) hg7; obtain ⟨z0, z1⟩ := HCELL.out w7 hg7)
        clear hi0 hz0 hz1 hz2
        have hB7 : Below w.heap.size w w7 := hst.out.2.1.grown hgW hst.out.2.1.size (fun q hq => (hst.out.2.2.2.1.lt q hq).1)
        have hg3n : some g3 ≠ u4.ownBlock := fun e => hst.out.2.2.2.2 e.symm
        have hT7 := hst.out.2.2.1.kept hgW (.inr (by simpa [Value.ownBlock] using hg3n))
        have hg37 : g7 ≠ g3 := fun e => by
          rcases hat7 with h | h
          · exact hst.out.2.2.2.2 (by rw [h, e])
          · omega
        have HN : Hidden (X = (H ++ [(a, e1 - a)]) ++ holesGo (e1 + e2) (T.drop (k + 1)) ∧ Below w.heap.size w w7 ∧ w7.ownsRow w.heap.size 38 2 (.slice (some ⟨g3, 0, none⟩) (m + 1) cap3) (m + 1) (T.flatMap tcells) ∧ w7.ownsRow w.heap.size 38 2 (.slice (some ⟨g7, 0, none⟩) (H.length + 1) cap7) (H ++ [(a, e1 - a)]).length ((H ++ [(a, e1 - a)]).flatMap tcells) ∧ (Value.slice (some ⟨g7, 0, none⟩) (H.length + 1) cap7).ownBlock ≠ some g3) :=
          ⟨by rw [hst.out.1, HG2.out]; simp, hB7, hT7, by simpa [tcells] using hown7, by simpa [Value.ownBlock] using hg37⟩
        clear hB7 hg3n hT7 hg37 hown7 hg7 hat7 hlt7 hgW hst HBW HBK HAL2 HCELL HG2
        go_wp2_with fail
        go_roundg (m + 1 - (k + 1))
        case measure => omega
        case rel => exact ⟨k + 1, H ++ [(a, e1 - a)], e1 + e2, by omega, rfl, by go_num, rfl, by omega, by omega, by simp; omega, HN⟩
      · have d1 : decide (a < e1) = false := by simpa using hlt2
        have HG2 : Hidden (holesGo a (T.drop k) = holesGo (e1 + e2) (T.drop (k + 1))) := ⟨by rw [HG.out, if_neg hlt2]; rfl⟩
        have HN : Hidden (X = H ++ holesGo (e1 + e2) (T.drop (k + 1)) ∧ Below w.heap.size w (wr.alloc (.cells #[.int .i64 e1, .int .i64 e2] 38)) ∧ (wr.alloc (.cells #[.int .i64 e1, .int .i64 e2] 38)).ownsRow w.heap.size 38 2 (.slice (some ⟨g3, 0, none⟩) (m + 1) cap3) (m + 1) (T.flatMap tcells) ∧ (wr.alloc (.cells #[.int .i64 e1, .int .i64 e2] 38)).ownsRow w.heap.size 38 2 u4 H.length (H.flatMap tcells) ∧ u4.ownBlock ≠ some g3) :=
          ⟨hst.out.1.trans (by rw [HG2.out]), hst.out.2.1.trans (HAL.out.mono hst.out.2.1.size), own_below hst.out.2.2.1 HAL.out, own_below hst.out.2.2.2.1 HAL.out, hst.out.2.2.2.2⟩
        clear HG HG2 hst
        go_wp2_with fail
        go_roundg (m + 1 - (k + 1))
        case measure => omega
        case rel => exact ⟨k + 1, H, e1 + e2, by omega, rfl, by go_num, rfl, by omega, by omega, by omega, HN⟩
    · obtain rfl : k = m + 1 := by omega
      have HF : Hidden (X = H) := ⟨by rw [hst.out.1, List.drop_of_length_le (by have := HSL.out; omega)]; simp [holesGo]⟩
      go_wp2_with fail
      go_ret
      exact ⟨_, rfl, by rw [HF.out]; exact hst.out.2.2.2.1, hst.out.2.1⟩
end Go.Proofs.Ytibogmoemohngaa
/- What stays: all but the blocks of a set. No program in sight. -/
namespace Go.Proofs.Ytibogmoemohngaa
open Go.RowKit

/-- all that is not in F is as it was; F: the blocks that a device takes -/
structure Keep (F : Nat → Prop) (w w' : World) : Prop where
  os : w'.os = w.os
  tape : w'.tape = w.tape
  output : w'.output = w.output
  size : w.heap.size ≤ w'.heap.size
  block : ∀ k, k < w.heap.size → ¬ F k → w'.heap[k]? = w.heap[k]?
theorem Keep.refl (F : Nat → Prop) (w : World) : Keep F w w := ⟨rfl, rfl, rfl, Nat.le_refl _, fun _ _ _ => rfl⟩
theorem Keep.trans {F F' : Nat → Prop} {a b c : World} (h : Keep F a b) (k : Keep F' b c) (hF : ∀ x, F' x → F x ∨ a.heap.size ≤ x) : Keep F a c :=
  ⟨k.os.trans h.os, k.tape.trans h.tape, k.output.trans h.output, Nat.le_trans h.size k.size, fun x hx hn =>
    (k.block x (Nat.lt_of_lt_of_le hx h.size) (fun hf => by rcases hF x hf with h' | h'; exact hn h'; omega)).trans (h.block x hx hn)⟩
theorem Keep.of_below {F : Nat → Prop} {w w' : World} (h : Below w.heap.size w w') : Keep F w w' := ⟨h.os, h.tape, h.output, h.size, fun k hk _ => h.block k hk⟩
theorem Keep.below {F : Nat → Prop} {B : Nat} {w w' : World} (h : Keep F w w') (hB : B ≤ w.heap.size) (hF : ∀ k, F k → B ≤ k) : Below B w w' :=
  ⟨h.os, h.tape, h.output, h.size, fun k hk => h.block k (by omega) (fun hf => by have := hF k hf; omega)⟩
theorem Keep.rd {F : Nat → Prop} {w w' : World} {A : Option Addr} {l : Bytes} (h : Keep F w w') (hr : Rd w A l) (hA : ∀ ad, A = some ad → ¬ F ad.block) : Rd w' A l := fun j hj => by
  obtain ⟨b, off, rfl, hc⟩ := hr j hj
  exact ⟨b, off, rfl, (World.cell?_of_block (w := w) (h.block b (block_lt_of_cell hc) (hA _ rfl))).trans hc⟩
theorem Keep.row {F : Nat → Prop} {w w' : World} {e g cap : Nat} {l : Bytes} (h : Keep F w w') (hr : Row w e g cap l) (hg : ¬ F g) : Row w' e g cap l := by
  obtain ⟨cur, h0, h1⟩ := hr
  exact ⟨cur, (h.block g (Array.getElem?_eq_some_iff.1 h0).1 hg).trans h0, h1⟩
theorem Keep.drewN {F : Nat → Prop} {w w' : World} (h : Keep F w w') (n : Nat) : Keep F w (w'.drewN n) := ⟨h.os, h.tape, h.output, h.size, h.block⟩

section
variable {w w' : World}
theorem ownsRow_block {base : Nat} {e : TypeId} {size : Nat} {v : Value} {n : Nat} {xs : List Value} (h : w.ownsRow base e size v n xs) (hb : ∀ q, v.ownBlock = some q → w'.heap[q]? = w.heap[q]?) : w'.ownsRow base e size v n xs := by
  refine ⟨h.1, ?_⟩
  rcases h.2 with hn | ⟨g, cap, cur, rfl, hb0, hgg, rest⟩
  · exact .inl hn
  · exact .inr ⟨g, cap, cur, rfl, hb0, (hb g rfl).trans hgg, rest⟩
theorem Row.block {e g cap : Nat} {l : Bytes} (h : Row w e g cap l) (hb : w'.heap[g]? = w.heap[g]?) : Row w' e g cap l := by
  obtain ⟨cur, h0, h1⟩ := h
  exact ⟨cur, hb.trans h0, h1⟩
theorem ne_cells {g : Nat} {cur cur' : Array Value} {t t' : TypeId} (h1 : w.heap[g]? = some (.cells cur t (0, 0))) {g' : Nat} (h2 : w.heap[g']? = some (.cells cur' t' (0, 0))) (hne : t ≠ t') : g ≠ g' := fun e => by
  rw [e, h2] at h1
  injection h1 with h1
  injection h1 with _ h1
  exact hne h1.symm
theorem ne_row {g : Nat} {cur : Array Value} {t : TypeId} (h1 : w.heap[g]? = some (.cells cur t (0, 0))) {e g' cap : Nat} {l : Bytes} (h2 : Row w e g' cap l) (hne : t ≠ e) : g ≠ g' := by
  obtain ⟨cur', h0, _⟩ := h2
  exact ne_cells h1 h0 hne
end
theorem heap_setK {w : World} {d k : Nat} {cur : Array Value} {t : TypeId} (h : w.heap[d]? = some (.cells cur t (0, 0))) (v : Value) : (w.setCell ⟨d, k, none⟩ v).heap[d]? = some (.cells (cur.setIfInBounds k v) t (0, 0)) := by
  rw [setCell_eq_setRow w d k cur t _ _ h]
  exact setRow_heap w d cur _ t _ h
end Go.Proofs.Ytibogmoemohngaa
/- The contracts of extent.Frees and Fit. -/
namespace Go.Proofs.Ytibogmoemohngaa
open Go.RowKit

theorem chkX_ok {n : Int} {l : List Ext} (h : chkX n l = 0) : 0 ≤ n ∧ n ≤ 6400 ∧ l.length ≤ 200 ∧ OkX l ∧ (∀ j (hj : j < l.length), badX n l[j] = false ∧ (l.take j).any (hitX l[j]) = false) := by
  unfold chkX at h
  split at h
  · cases h
  · rename_i h1
    split at h
    · cases h
    · rename_i h2
      have h3 : ∀ j (hj : j < l.length), badX n l[j] = false ∧ (l.take j).any (hitX l[j]) = false := fun j hj => by
        have := faultX_zero (loopX_zero n l l.length h j hj)
        simpa [hj] using this
      refine ⟨by omega, by omega, by omega, fun x hx => ?_, h3⟩
      obtain ⟨j, hj, rfl⟩ := List.getElem_of_mem hx
      have := badX_false (h3 j hj).1
      omega
theorem holesGo_len : ∀ (a : Int) (S : List Ext), (holesGo a S).length ≤ S.length
  | _, [] => Nat.le_refl _
  | a, e :: r => by
    have := holesGo_len (e.1 + e.2) r
    rw [holesGo, List.length_append, List.length_cons]
    split <;> simp <;> omega
theorem holesX_len (n : Int) (l : List Ext) : (holesX n l).length ≤ l.length + 1 := by
  unfold holesX
  have := holesGo_len 0 (sortE l ++ [(n, 0)])
  rw [List.length_append, (sortE_perm l).length_eq] at this
  exact this
def freesL (n : Int) (l : List Ext) : List Ext := if chkX n l = 0 then holesX n l else []
set_option maxRecDepth 100000 in
theorem xfrees_any (n : Int) (A : Option Addr) (m c : Nat) (l : List Ext) (w : World) (hl : l.length = m) (hmc : m ≤ c) (hr : RdX tcells 2 w A l) :
    Calls Try.prog 13 #[.int .i64 n, .slice A m c] w fun e w' => ∃ v, e = .returned (.tuple #[v, errV (chkX n l)]) ∧ w'.ownsRow w.heap.size 38 2 v (freesL n l).length ((freesL n l).flatMap tcells) ∧ Below w.heap.size w w' := by
  have HC := Hidden.mk (xcheck_any n A m c l w hl hmc hr)
  have HF : Hidden (freesL n l = if chkX n l = 0 then holesX n l else []) := ⟨rfl⟩
  by_cases h0 : chkX n l = 0
  · obtain ⟨o0, o1, o2, o3, -⟩ := chkX_ok h0
    have HH : Hidden (∀ W, Below w.heap.size w W → Calls Try.prog 41 #[.int .i64 n, .slice A m c] W fun e w' => ∃ v, e = .returned v ∧ w'.ownsRow W.heap.size 38 2 v (holesX n l).length ((holesX n l).flatMap tcells) ∧ Below W.heap.size W w') := ⟨fun W hW => xholes_any n A m c l W o0 o1 hl (by omega) (hr.below hW) o3⟩
    rw [h0] at HC HF
    rw [show errV 0 = Value.nilIface from rfl] at HC
    rw [h0, HF.out]
    simp only [if_true]
    generalize holesX n l = X at *
    clear HF h0 hr hl o3
    go_enter Try.func13, Try.ntmps13
    go_wp2_with fail
    refine HC.out.mono ?_
    rintro e w1 ⟨rfl, hb1⟩
    have HB1 := Hidden.mk hb1
    clear hb1
    go_wp2_with fail
    refine (HH.out _ HB1.out).mono ?_
    rintro e w2 ⟨v, rfl, hown, hb2⟩
    have HR := Hidden.mk (And.intro hown (HB1.out.trans (hb2.mono HB1.out.size)))
    clear hown hb2
    go_wp2_with fail
    go_ret2
    exact ⟨v, rfl, ⟨HR.out.1.1, by
      rcases HR.out.1.2 with h | ⟨g, cap, cur, he, hb, rest⟩
      · exact .inl h
      · exact .inr ⟨g, cap, cur, he, Nat.le_trans HB1.out.size hb, rest⟩⟩, HR.out.2⟩
  · have hF : freesL n l = [] := by rw [HF.out, if_neg h0]
    rw [hF]
    have hev : errV (chkX n l) = .iface 78 (.int .i64 (chkX n l)) := by unfold errV; rw [if_neg h0]
    rw [hev] at HC ⊢
    generalize chkX n l = q at *
    clear h0 hev hF HF hr hl
    go_enter Try.func13, Try.ntmps13
    go_wp2_with fail
    refine HC.out.mono ?_
    rintro e w1 ⟨rfl, hb1⟩
    have HB1 := Hidden.mk hb1
    clear hb1
    go_wp2_with fail
    go_ret2
    exact ⟨_, rfl, World.ownsRow_nil _ _ _ _, HB1.out⟩
/-- the run that fits best -/
def bestX (size : Int) (H : List Ext) : Ext := H.foldl (fun b h => if size ≤ h.2 ∧ (b.2 = 0 ∨ h.2 < b.2) then h else b) (0, 0)
def fitE (n : Int) (l : List Ext) (size : Int) : Nat := if chkX n l = 0 then (if size < 1 ∨ 6400 < size then 1 else if (bestX size (holesX n l)).2 = 0 then 4 else 0) else chkX n l
def fitA (n : Int) (l : List Ext) (size : Int) : Int := if fitE n l size = 0 then (bestX size (holesX n l)).1 else 0
theorem bestX_succ (size : Int) (H : List Ext) (k : Nat) (hk : k < H.length) : bestX size (H.take (k + 1)) = if size ≤ H[k].2 ∧ ((bestX size (H.take k)).2 = 0 ∨ H[k].2 < (bestX size (H.take k)).2) then H[k] else bestX size (H.take k) := by
  unfold bestX
  rw [List.take_succ_eq_append_getElem hk, List.foldl_append]; rfl
theorem own_base {w : World} {b b' : Nat} {e : TypeId} {size n : Nat} {v : Value} {xs : List Value} (h : w.ownsRow b e size v n xs) (hb : b' ≤ b) : w.ownsRow b' e size v n xs := by
  refine ⟨h.1, ?_⟩
  rcases h.2 with h2 | ⟨g, cap, cur, he, hb2, rest⟩
  · exact .inl h2
  · exact .inr ⟨g, cap, cur, he, Nat.le_trans hb hb2, rest⟩
set_option maxRecDepth 100000 in
theorem xfit_any (n : Int) (A : Option Addr) (m c : Nat) (l : List Ext) (size : Int) (w : World) (hl : l.length = m) (hmc : m ≤ c) (hr : RdX tcells 2 w A l) :
    Calls Try.prog 12 #[.int .i64 n, .slice A m c, .int .i64 size] w fun e w' => e = .returned (.tuple #[.int .i64 (fitA n l size), errV (fitE n l size)]) ∧ Below w.heap.size w w' := by
  have HC := Hidden.mk (xcheck_any n A m c l w hl hmc hr)
  have HE : Hidden (fitE n l size = if chkX n l = 0 then (if size < 1 ∨ 6400 < size then 1 else if (bestX size (holesX n l)).2 = 0 then 4 else 0) else chkX n l) := ⟨rfl⟩
  have HA : Hidden (fitA n l size = if fitE n l size = 0 then (bestX size (holesX n l)).1 else 0) := ⟨rfl⟩
  generalize fitE n l size = fe at *
  generalize fitA n l size = fa at *
  by_cases h0 : chkX n l = 0
  · obtain ⟨o0, o1, o2, o3, -⟩ := chkX_ok h0
    have HH : Hidden (∀ W, Below w.heap.size w W → Calls Try.prog 41 #[.int .i64 n, .slice A m c] W fun e w' => ∃ v, e = .returned v ∧ w'.ownsRow W.heap.size 38 2 v (holesX n l).length ((holesX n l).flatMap tcells) ∧ Below W.heap.size W w') := ⟨fun W hW => xholes_any n A m c l W o0 o1 hl (by omega) (hr.below hW) o3⟩
    rw [h0] at HC
    rw [show errV 0 = Value.nilIface from rfl] at HC
    have hE := HE.out
    rw [if_pos h0] at hE
    have HE := Hidden.mk hE
    clear hE h0 hr hl o3
    by_cases h1 : size < 1
    · have hfe : fe = 1 := by rw [HE.out, if_pos (.inl h1)]
      have hfa : fa = 0 := by rw [HA.out, hfe]; rfl
      subst hfe hfa
      have d1 : decide (size < 1) = true := by simpa using h1
      clear HE HA HH
      go_enter Try.func12, Try.ntmps12
      go_wp2_with fail
      refine HC.out.mono ?_
      rintro e w1 ⟨rfl, hb1⟩
      have HB1 := Hidden.mk hb1
      clear hb1
      go_wp2_with fail
      go_ret2
      exact ⟨rfl, HB1.out⟩
    have d1 : decide (size < 1) = false := by simpa using h1
    by_cases h2 : 6400 < size
    · have hfe : fe = 1 := by rw [HE.out, if_pos (.inr h2)]
      have hfa : fa = 0 := by rw [HA.out, hfe]; rfl
      subst hfe hfa
      have d2 : decide (6400 < size) = true := by simpa using h2
      clear HE HA HH
      go_enter Try.func12, Try.ntmps12
      go_wp2_with fail
      refine HC.out.mono ?_
      rintro e w1 ⟨rfl, hb1⟩
      have HB1 := Hidden.mk hb1
      clear hb1
      go_wp2_with fail
      go_ret2
      exact ⟨rfl, HB1.out⟩
    have d2 : decide (6400 < size) = false := by simpa using h2
    have hE := HE.out
    rw [if_neg (by omega)] at hE
    have HE := Hidden.mk hE
    clear hE
    have hHl := holesX_len n l
    generalize holesX n l = H at *
    go_enter Try.func12, Try.ntmps12
    go_wp2_with fail
    refine HC.out.mono ?_
    rintro e w1 ⟨rfl, hb1⟩
    have hal : Below w1.heap.size w1 (w1.alloc (.cells #[.int .i64 0, .int .i64 0] 38)) := (Below.refl _ _).alloc (Nat.le_refl _) _
    have HB2 : Hidden (Below w.heap.size w (w1.alloc (.cells #[.int .i64 0, .int .i64 0] 38))) := ⟨hb1.trans (hal.mono hb1.size)⟩
    have HBK : Hidden ((w1.alloc (.cells #[.int .i64 0, .int .i64 0] 38)).heap[w1.heap.size]? = some (.cells #[.int .i64 0, .int .i64 0] 38 (0, 0))) := ⟨heap_alloc_new w1 _⟩
    have HB1 := Hidden.mk hb1.size
    clear hb1 hal
    go_wp2_with fail
    generalize w1.alloc (.cells #[.int .i64 0, .int .i64 0] 38) = w2 at *
    generalize w1.heap.size = bb at *
    refine (HH.out _ HB2.out).mono ?_
    rintro e w3 ⟨v, rfl, hown, hb3⟩
    have hbb : bb < w2.heap.size := (Array.getElem?_eq_some_iff.1 HBK.out).1
    have H3 : Hidden (Below w.heap.size w w3 ∧ w3.heap[bb]? = some (.cells #[.int .i64 0, .int .i64 0] 38 (0, 0)) ∧ w3.ownsRow w2.heap.size 38 2 v H.length (H.flatMap tcells)) := ⟨HB2.out.trans (hb3.mono HB2.out.size), (hb3.block _ hbb).trans HBK.out, hown⟩
    obtain ⟨A3, c3, rfl, hc3, -⟩ := own_split hown
    clear hown hb3 HBK HB2 HH
    generalize hhl : H.length = hl at *
    have HHL := Hidden.mk hhl
    clear hhl
    go_wp2_with fail
    go_loopg [30] hl (fun q i wr => ∃ (k : Nat) (b1 b2 : Int), k ≤ hl ∧ q = hl - k ∧ i = .int .i64 (k : Int) ∧ Hidden (bestX size (H.take k) = (b1, b2) ∧ Below w.heap.size w wr ∧ wr.heap[bb]? = some (.cells #[.int .i64 b1, .int .i64 b2] 38 (0, 0)) ∧ wr.ownsRow w2.heap.size 38 2 (.slice A3 hl c3) hl (H.flatMap tcells)))
    case atStart => exact ⟨0, 0, 0, by omega, rfl, rfl, ⟨rfl, H3.out.1, H3.out.2.1, H3.out.2.2⟩⟩
    case round =>
      obtain ⟨k, b1, b2, hk, rfl, rfl, hst⟩ := hrel
      by_cases hlt : k < hl
      · have hkH : k < H.length := by have := HHL.out; omega
        obtain ⟨g, off, rfl, hgb, hgl, hcx⟩ := own_at tcells_len hst.out.2.2.2 k hkH (by omega)
        have c0 := hcx 0 _ rfl
        have c1 := hcx 1 _ rfl
        simp only [Nat.add_zero] at c0
        have HS := Hidden.mk (bestX_succ size H k hkH)
        rw [hst.out.1] at HS
        generalize H[k] = e at *
        obtain ⟨e1, e2⟩ := e
        dsimp only at c0 c1 HS
        have hal : Below wr.heap.size wr (wr.alloc (.cells #[.int .i64 e1, .int .i64 e2] 38)) := (Below.refl _ _).alloc (Nat.le_refl _) _
        have HBK : Hidden ((wr.alloc (.cells #[.int .i64 e1, .int .i64 e2] 38)).heap[bb]? = some (.cells #[.int .i64 b1, .int .i64 b2] 38 (0, 0))) := ⟨(hal.block _ (Array.getElem?_eq_some_iff.1 hst.out.2.2.1).1).trans hst.out.2.2.1⟩
        have HN : Hidden (Below w.heap.size w (wr.alloc (.cells #[.int .i64 e1, .int .i64 e2] 38)) ∧ (wr.alloc (.cells #[.int .i64 e1, .int .i64 e2] 38)).ownsRow w2.heap.size 38 2 (.slice (some ⟨g, off, none⟩) hl c3) hl (H.flatMap tcells)) := ⟨hst.out.2.1.trans (hal.mono hst.out.2.1.size), own_below hst.out.2.2.2 hal⟩
        have hwb : w.heap.size ≤ bb := HB1.out
        have y0 : (wr.alloc (.cells #[.int .i64 e1, .int .i64 e2] 38)).cell? ⟨bb, 0, none⟩ = some (.int .i64 b1) := by simp [World.cell?, HBK.out]
        have y1 : (wr.alloc (.cells #[.int .i64 e1, .int .i64 e2] 38)).cell? ⟨bb, 1, none⟩ = some (.int .i64 b2) := by simp [World.cell?, HBK.out]
        have hfz : ∀ q, (wr.alloc (.cells #[.int .i64 e1, .int .i64 e2] 38)).frozen? ⟨bb, q, none⟩ = false := fun q => frozen_of_row _ bb q _ _ HBK.out
        have hne : wr.heap.size ≠ bb := by have := (Array.getElem?_eq_some_iff.1 hst.out.2.2.1).1; omega
        have s3 : IntKind.i64.wrap ((k : Int) + 1) = (k : Int) + 1 := IntWalk.i64_in _ (by omega)
        have k1 : (k : Int) < hl := by omega
        clear hcx hal
        by_cases q1 : size ≤ e2
        · have t1 : decide (size ≤ e2) = true := by simpa using q1
          by_cases q2 : b2 = 0 ∨ e2 < b2
          · have HS2 : Hidden (bestX size (H.take (k + 1)) = (e1, e2)) := ⟨by rw [HS.out, if_pos ⟨q1, q2⟩]⟩
            have HBK2 := Hidden.mk (heap_setK (k := 1) (heap_setK (k := 0) HBK.out (.int .i64 e1)) (.int .i64 e2))
            have HN2 : Hidden (Below w.heap.size w (((wr.alloc (.cells #[.int .i64 e1, .int .i64 e2] 38)).setCell ⟨bb, 0, none⟩ (.int .i64 e1)).setCell ⟨bb, 1, none⟩ (.int .i64 e2)) ∧ (((wr.alloc (.cells #[.int .i64 e1, .int .i64 e2] 38)).setCell ⟨bb, 0, none⟩ (.int .i64 e1)).setCell ⟨bb, 1, none⟩ (.int .i64 e2)).ownsRow w2.heap.size 38 2 (.slice (some ⟨g, off, none⟩) hl c3) hl (H.flatMap tcells)) :=
              ⟨(HN.out.1.setCell (p := ⟨bb, 0, none⟩) hwb _).setCell (p := ⟨bb, 1, none⟩) hwb _, ownsRow_block HN.out.2 fun q hq => (Below.heap_setCell _ _ _ _ (fun e => by have := (HN.out.2.lt q hq).1; simp at e; omega)).trans (Below.heap_setCell _ _ _ _ (fun e => by have := (HN.out.2.lt q hq).1; simp at e; omega))⟩
            by_cases q3 : b2 = 0
            · subst q3
              clear HS hst
              go_wp2_with fail
              go_roundg (hl - (k + 1))
              case measure => omega
              case rel => exact ⟨k + 1, e1, e2, by omega, rfl, by go_num, ⟨HS2.out, HN2.out.1, HBK2.out, HN2.out.2⟩⟩
            · have t3 : (b2 == 0) = false := by simpa using q3
              have t4 : decide (e2 < b2) = true := by simp; omega
              clear HS hst
              go_wp2_with fail
              go_roundg (hl - (k + 1))
              case measure => omega
              case rel => exact ⟨k + 1, e1, e2, by omega, rfl, by go_num, ⟨HS2.out, HN2.out.1, HBK2.out, HN2.out.2⟩⟩
          · have HS2 : Hidden (bestX size (H.take (k + 1)) = (b1, b2)) := ⟨by rw [HS.out, if_neg (fun h => q2 h.2)]⟩
            have t3 : (b2 == 0) = false := by simp; omega
            have t4 : decide (e2 < b2) = false := by simp; omega
            clear HS hst
            go_wp2_with fail
            go_roundg (hl - (k + 1))
            case measure => omega
            case rel => exact ⟨k + 1, b1, b2, by omega, rfl, by go_num, ⟨HS2.out, HN.out.1, HBK.out, HN.out.2⟩⟩
        · have t1 : decide (size ≤ e2) = false := by simpa using q1
          have HS2 : Hidden (bestX size (H.take (k + 1)) = (b1, b2)) := ⟨by rw [HS.out, if_neg (fun h => q1 h.1)]⟩
          clear HS hst
          go_wp2_with fail
          go_roundg (hl - (k + 1))
          case measure => omega
          case rel => exact ⟨k + 1, b1, b2, by omega, rfl, by go_num, ⟨HS2.out, HN.out.1, HBK.out, HN.out.2⟩⟩
      · obtain rfl : k = hl := by omega
        have hbe := hst.out.1
        rw [List.take_of_length_le (by have := HHL.out; omega)] at hbe
        have hE := HE.out
        rw [hbe] at hE HA
        dsimp only at hE HA
        have hbk := hst.out.2.2.1
        have y0 : wr.cell? ⟨bb, 0, none⟩ = some (.int .i64 b1) := by simp [World.cell?, hbk]
        have y1 : wr.cell? ⟨bb, 1, none⟩ = some (.int .i64 b2) := by simp [World.cell?, hbk]
        clear hbe hbk
        by_cases hz : b2 = 0
        · have hfe : fe = 4 := by rw [hE, if_pos hz]
          have hfa : fa = 0 := by rw [HA.out, hfe]; rfl
          subst hfe hfa hz
          clear hE HE HA
          go_wp2_with fail
          go_ret2
          exact ⟨rfl, hst.out.2.1⟩
        · have hfe : fe = 0 := by rw [hE, if_neg hz]
          have hfa : fa = b1 := by rw [HA.out, hfe]; rfl
          have t1 : (b2 == 0) = false := by simpa using hz
          subst hfe hfa
          clear hE HE HA
          go_wp2_with fail
          go_ret2
          exact ⟨rfl, hst.out.2.1⟩
  · have hfe : fe = chkX n l := by rw [HE.out, if_neg h0]
    have hfa : fa = 0 := by rw [HA.out, if_neg (by rw [hfe]; exact h0)]
    have hev : errV (chkX n l) = .iface 78 (.int .i64 (chkX n l)) := by unfold errV; rw [if_neg h0]
    rw [hfe, hfa, hev]
    rw [hev] at HC
    generalize chkX n l = q at *
    clear h0 hev HE HA hr hl hfe hfa
    go_enter Try.func12, Try.ntmps12
    go_wp2_with fail
    refine HC.out.mono ?_
    rintro e w1 ⟨rfl, hb1⟩
    have HB1 := Hidden.mk hb1
    clear hb1
    go_wp2_with fail
    go_ret2
    exact ⟨rfl, HB1.out⟩
end Go.Proofs.Ytibogmoemohngaa
/- The contract of extent.Stat. -/
namespace Go.Proofs.Ytibogmoemohngaa
open Go.RowKit

def statV (o u f m r : Int) : Value := .agg #[.int .i64 o, .int .i64 u, .int .i64 f, .int .i64 m, .int .i64 r]
def sumX (l : List Ext) : Int := l.foldl (fun s e => s + e.2) 0
def mostX (H : List Ext) : Int := H.foldl (fun s e => max s e.2) 0
theorem sumX_succ (l : List Ext) (k : Nat) (hk : k < l.length) : sumX (l.take (k + 1)) = sumX (l.take k) + l[k].2 := by
  unfold sumX; rw [List.take_succ_eq_append_getElem hk, List.foldl_append]; rfl
theorem mostX_succ (l : List Ext) (k : Nat) (hk : k < l.length) : mostX (l.take (k + 1)) = max (mostX (l.take k)) l[k].2 := by
  unfold mostX; rw [List.take_succ_eq_append_getElem hk, List.foldl_append]; rfl
theorem sumX_bd (l : List Ext) (h : OkX l) : ∀ k, k ≤ l.length → 0 ≤ sumX (l.take k) ∧ sumX (l.take k) ≤ 6400 * k
  | 0, _ => by simp [sumX]
  | k + 1, hk => by
    have ih := sumX_bd l h k (by omega)
    have := h l[k] (List.getElem_mem (by omega))
    rw [sumX_succ l k (by omega)]
    omega
/-- what Stat says -/
def statX (n : Int) (l : List Ext) : Value := if chkX n l = 0 then statV l.length (sumX l) (n - sumX l) (mostX (holesX n l)) (holesX n l).length else statV 0 0 0 0 0
set_option maxRecDepth 100000 in
theorem xstat_any (n : Int) (A : Option Addr) (m c : Nat) (l : List Ext) (w : World) (hl : l.length = m) (hmc : m ≤ c) (hr : RdX tcells 2 w A l) :
    Calls Try.prog 15 #[.int .i64 n, .slice A m c] w fun e w' => e = .returned (.tuple #[statX n l, errV (chkX n l)]) ∧ Below w.heap.size w w' := by
  have HC : Hidden (∀ W, Below w.heap.size w W → Calls Try.prog 14 #[.int .i64 n, .slice A m c] W fun e w' => e = .returned (errV (chkX n l)) ∧ Below W.heap.size W w') := ⟨fun W hW => xcheck_any n A m c l W hl hmc (hr.below hW)⟩
  have HB0 : Hidden (Below w.heap.size w (w.alloc (.cells #[.int .i64 0, .int .i64 0, .int .i64 0, .int .i64 0, .int .i64 0] 44))) := ⟨(Below.refl _ _).alloc (Nat.le_refl _) _⟩
  have HBK0 : Hidden ((w.alloc (.cells #[.int .i64 0, .int .i64 0, .int .i64 0, .int .i64 0, .int .i64 0] 44)).heap[w.heap.size]? = some (.cells #[.int .i64 0, .int .i64 0, .int .i64 0, .int .i64 0, .int .i64 0] 44 (0, 0))) := ⟨heap_alloc_new w _⟩
  have HSX : Hidden (statX n l = if chkX n l = 0 then statV l.length (sumX l) (n - sumX l) (mostX (holesX n l)) (holesX n l).length else statV 0 0 0 0 0) := ⟨rfl⟩
  by_cases h0 : chkX n l = 0
  · obtain ⟨o0, o1, o2, o3, -⟩ := chkX_ok h0
    have HH : Hidden (∀ W, Below w.heap.size w W → Calls Try.prog 41 #[.int .i64 n, .slice A m c] W fun e w' => ∃ v, e = .returned v ∧ w'.ownsRow W.heap.size 38 2 v (holesX n l).length ((holesX n l).flatMap tcells) ∧ Below W.heap.size W w') := ⟨fun W hW => xholes_any n A m c l W o0 o1 hl (by omega) (hr.below hW) o3⟩
    have hHl := holesX_len n l
    rw [h0] at HC
    rw [show errV 0 = Value.nilIface from rfl] at HC
    have hsx := HSX.out
    rw [if_pos h0] at hsx
    rw [hsx, h0, show errV 0 = Value.nilIface from rfl]
    have HR := Hidden.mk hr
    have HO := Hidden.mk o3
    have HL := Hidden.mk hl
    have hm200 : m ≤ 200 := by omega
    generalize holesX n l = H at *
    clear HSX hsx h0 hr o3 hl
    unfold statV
    go_enter Try.func15, Try.ntmps15
    go_wp2_with fail
    generalize w.alloc (.cells #[.int .i64 0, .int .i64 0, .int .i64 0, .int .i64 0, .int .i64 0] 44) = w0 at *
    refine (HC.out _ HB0.out).mono ?_
    rintro e w1 ⟨rfl, hb1⟩
    have hlt : w.heap.size < w0.heap.size := (Array.getElem?_eq_some_iff.1 HBK0.out).1
    have hal : Below w1.heap.size w1 (w1.alloc (.cells #[.int .i64 m, .int .i64 0, .int .i64 0, .int .i64 0, .int .i64 0] 44)) := (Below.refl _ _).alloc (Nat.le_refl _) _
    have hB1 := HB0.out.trans (hb1.mono HB0.out.size)
    have hlt1 : w.heap.size < w1.heap.size := Nat.lt_of_lt_of_le hlt hb1.size
    have HST : Hidden (Below w.heap.size w (w1.alloc (.cells #[.int .i64 m, .int .i64 0, .int .i64 0, .int .i64 0, .int .i64 0] 44)) ∧ (w1.alloc (.cells #[.int .i64 m, .int .i64 0, .int .i64 0, .int .i64 0, .int .i64 0] 44)).heap[w.heap.size]? = some (.cells #[.int .i64 0, .int .i64 0, .int .i64 0, .int .i64 0, .int .i64 0] 44 (0, 0)) ∧ (w1.alloc (.cells #[.int .i64 m, .int .i64 0, .int .i64 0, .int .i64 0, .int .i64 0] 44)).heap[w1.heap.size]? = some (.cells #[.int .i64 m, .int .i64 0, .int .i64 0, .int .i64 0, .int .i64 0] 44 (0, 0))) :=
      ⟨hB1.trans (hal.mono hB1.size), (hal.block _ hlt1).trans ((hb1.block _ hlt).trans HBK0.out), heap_alloc_new w1 _⟩
    clear hb1 hal hB1 hlt
    go_wp2_with fail
    generalize w1.alloc (.cells #[.int .i64 m, .int .i64 0, .int .i64 0, .int .i64 0, .int .i64 0] 44) = w2 at *
    generalize w1.heap.size = sb at *
    go_loopg [24] m (fun q i wr => ∃ (k : Nat) (u : Int), k ≤ m ∧ q = m - k ∧ i = .int .i64 (k : Int) ∧ 0 ≤ u ∧ u ≤ 6400 * k ∧ Hidden (sumX (l.take k) = u ∧ Below w.heap.size w wr ∧ wr.heap[w.heap.size]? = some (.cells #[.int .i64 0, .int .i64 0, .int .i64 0, .int .i64 0, .int .i64 0] 44 (0, 0)) ∧ wr.heap[sb]? = some (.cells #[.int .i64 m, .int .i64 u, .int .i64 0, .int .i64 0, .int .i64 0] 44 (0, 0))))
    case atStart => exact ⟨0, 0, by omega, rfl, rfl, by omega, by omega, ⟨rfl, HST.out⟩⟩
    case round =>
      obtain ⟨k, u, hk, rfl, rfl, hu0, hu1, hst⟩ := hrel
      by_cases hlt : k < m
      · have hkl : k < l.length := by have := HL.out; omega
        obtain ⟨p, off, rfl, hcx⟩ := (HR.out.below hst.out.2.1) k hkl
        have c0 := hcx 0 _ rfl
        have c1 := hcx 1 _ rfl
        rw [Nat.add_zero] at c0
        have HS := Hidden.mk (sumX_succ l k hkl)
        rw [hst.out.1] at HS
        have hb := HO.out l[k] (List.getElem_mem hkl)
        generalize l[k] = e at *
        obtain ⟨e1, e2⟩ := e
        dsimp only at c0 c1 HS hb
        obtain ⟨b0, b1, b2⟩ := hb
        have hal : Below wr.heap.size wr (wr.alloc (.cells #[.int .i64 e1, .int .i64 e2] 38)) := (Below.refl _ _).alloc (Nat.le_refl _) _
        have HN : Hidden (Below w.heap.size w (wr.alloc (.cells #[.int .i64 e1, .int .i64 e2] 38)) ∧ (wr.alloc (.cells #[.int .i64 e1, .int .i64 e2] 38)).heap[w.heap.size]? = some (.cells #[.int .i64 0, .int .i64 0, .int .i64 0, .int .i64 0, .int .i64 0] 44 (0, 0)) ∧ (wr.alloc (.cells #[.int .i64 e1, .int .i64 e2] 38)).heap[sb]? = some (.cells #[.int .i64 m, .int .i64 u, .int .i64 0, .int .i64 0, .int .i64 0] 44 (0, 0))) :=
          ⟨hst.out.2.1.trans (hal.mono hst.out.2.1.size), (hal.block _ (Array.getElem?_eq_some_iff.1 hst.out.2.2.1).1).trans hst.out.2.2.1, (hal.block _ (Array.getElem?_eq_some_iff.1 hst.out.2.2.2).1).trans hst.out.2.2.2⟩
        have hbk := HN.out.2.2
        have z1 : (wr.alloc (.cells #[.int .i64 e1, .int .i64 e2] 38)).cell? ⟨sb, 1, none⟩ = some (.int .i64 u) := by simp [World.cell?, hbk]
        have hfz : ∀ q, (wr.alloc (.cells #[.int .i64 e1, .int .i64 e2] 38)).frozen? ⟨sb, q, none⟩ = false := fun q => frozen_of_row _ sb q _ _ hbk
        have HNE : Hidden (w.heap.size ≠ sb) := ⟨by omega⟩
        have HN2 : Hidden (Below w.heap.size w ((wr.alloc (.cells #[.int .i64 e1, .int .i64 e2] 38)).setCell ⟨sb, 1, none⟩ (.int .i64 (u + e2))) ∧ ((wr.alloc (.cells #[.int .i64 e1, .int .i64 e2] 38)).setCell ⟨sb, 1, none⟩ (.int .i64 (u + e2))).heap[w.heap.size]? = some (.cells #[.int .i64 0, .int .i64 0, .int .i64 0, .int .i64 0, .int .i64 0] 44 (0, 0)) ∧ ((wr.alloc (.cells #[.int .i64 e1, .int .i64 e2] 38)).setCell ⟨sb, 1, none⟩ (.int .i64 (u + e2))).heap[sb]? = some (.cells #[.int .i64 m, .int .i64 (u + e2), .int .i64 0, .int .i64 0, .int .i64 0] 44 (0, 0))) :=
          ⟨HN.out.1.setCell (p := ⟨sb, 1, none⟩) (by simp; omega) _, (Below.heap_setCell _ _ _ _ HNE.out).trans HN.out.2.1, heap_setK HN.out.2.2 _⟩
        have s1 : IntKind.i64.wrap (u + e2) = u + e2 := IntWalk.i64_in _ (by omega)
        have s3 : IntKind.i64.wrap ((k : Int) + 1) = (k : Int) + 1 := IntWalk.i64_in _ (by omega)
        have hne : wr.heap.size ≠ sb := by have := (Array.getElem?_eq_some_iff.1 hst.out.2.2.2).1; omega
        have k0 : (0 : Int) ≤ k := by omega
        have k1 : (k : Int) < m := by omega
        clear hcx hal hbk HN hst
        go_wp2_with fail
        go_roundg (m - (k + 1))
        case measure => omega
        case rel => exact ⟨k + 1, u + e2, by omega, rfl, by go_num, by omega, by omega, ⟨HS.out, HN2.out⟩⟩
      · obtain rfl : k = m := by omega
        have hsu := hst.out.1
        rw [List.take_of_length_le (by have := HL.out; omega)] at hsu
        have HSU := Hidden.mk hsu
        have hbk := hst.out.2.2.2
        have z1 : wr.cell? ⟨sb, 1, none⟩ = some (.int .i64 u) := by simp [World.cell?, hbk]
        have z2 : wr.cell? ⟨sb, 2, none⟩ = some (.int .i64 0) := by simp [World.cell?, hbk]
        have hfz : ∀ q, wr.frozen? ⟨sb, q, none⟩ = false := fun q => frozen_of_row _ sb q _ _ hbk
        have s1 : IntKind.i64.wrap (n - u) = n - u := IntWalk.i64_in _ (by omega)
        have HNE : Hidden (w.heap.size ≠ sb) := ⟨by omega⟩
        have H2 : Hidden (Below w.heap.size w (wr.setCell ⟨sb, 2, none⟩ (.int .i64 (n - u))) ∧ (wr.setCell ⟨sb, 2, none⟩ (.int .i64 (n - u))).heap[w.heap.size]? = some (.cells #[.int .i64 0, .int .i64 0, .int .i64 0, .int .i64 0, .int .i64 0] 44 (0, 0)) ∧ (wr.setCell ⟨sb, 2, none⟩ (.int .i64 (n - u))).heap[sb]? = some (.cells #[.int .i64 k, .int .i64 u, .int .i64 (n - u), .int .i64 0, .int .i64 0] 44 (0, 0))) :=
          ⟨hst.out.2.1.setCell (p := ⟨sb, 2, none⟩) (by simp; omega) _, (Below.heap_setCell _ _ _ _ HNE.out).trans hst.out.2.2.1, heap_setK hbk _⟩
        clear hsu hbk hst HST
        go_wp2_with fail
        generalize wr.setCell ⟨sb, 2, none⟩ (.int .i64 (n - u)) = w5 at *
        refine (HH.out _ H2.out.1).mono ?_
        rintro e w6 ⟨v, rfl, hown, hb6⟩
        have H6 : Hidden (Below w.heap.size w w6 ∧ w6.heap[w.heap.size]? = some (.cells #[.int .i64 0, .int .i64 0, .int .i64 0, .int .i64 0, .int .i64 0] 44 (0, 0)) ∧ w6.heap[sb]? = some (.cells #[.int .i64 k, .int .i64 u, .int .i64 (n - u), .int .i64 0, .int .i64 0] 44 (0, 0)) ∧ w6.ownsRow w5.heap.size 38 2 v H.length (H.flatMap tcells) ∧ sb < w5.heap.size ∧ w.heap.size < w5.heap.size) :=
          ⟨H2.out.1.trans (hb6.mono H2.out.1.size), (hb6.block _ (Array.getElem?_eq_some_iff.1 H2.out.2.1).1).trans H2.out.2.1, (hb6.block _ (Array.getElem?_eq_some_iff.1 H2.out.2.2).1).trans H2.out.2.2, hown, (Array.getElem?_eq_some_iff.1 H2.out.2.2).1, (Array.getElem?_eq_some_iff.1 H2.out.2.1).1⟩
        obtain ⟨A3, c3, rfl, hc3, -⟩ := own_split hown
        clear hown hb6 H2 HH HC z1 z2 hfz HR
        generalize hhl : H.length = hl at *
        have HHL := Hidden.mk hhl
        clear hhl
        go_wp2_with fail
        go_loopg [44] hl (fun q i wr => ∃ (j : Nat) (x : Int), j ≤ hl ∧ q = hl - j ∧ i = .int .i64 (j : Int) ∧ Hidden (mostX (H.take j) = x ∧ Below w.heap.size w wr ∧ wr.heap[w.heap.size]? = some (.cells #[.int .i64 0, .int .i64 0, .int .i64 0, .int .i64 0, .int .i64 0] 44 (0, 0)) ∧ wr.heap[sb]? = some (.cells #[.int .i64 k, .int .i64 u, .int .i64 (n - u), .int .i64 x, .int .i64 j] 44 (0, 0)) ∧ wr.ownsRow w5.heap.size 38 2 (.slice A3 hl c3) hl (H.flatMap tcells)))
        case atStart => exact ⟨0, 0, by omega, rfl, rfl, ⟨rfl, H6.out.1, H6.out.2.1, H6.out.2.2.1, H6.out.2.2.2.1⟩⟩
        case round =>
          obtain ⟨j, x, hj, rfl, rfl, hst⟩ := hrel
          by_cases hlt2 : j < hl
          · have hjH : j < H.length := by have := HHL.out; omega
            obtain ⟨g, off, rfl, hgb, hgl, hcx⟩ := own_at tcells_len hst.out.2.2.2.2 j hjH (by omega)
            have c0 := hcx 0 _ rfl
            have c1 := hcx 1 _ rfl
            simp only [Nat.add_zero] at c0
            have HS := Hidden.mk (mostX_succ H j hjH)
            rw [hst.out.1] at HS
            generalize H[j] = e at *
            obtain ⟨e1, e2⟩ := e
            dsimp only at c0 c1 HS
            have hal : Below wr.heap.size wr (wr.alloc (.cells #[.int .i64 e1, .int .i64 e2] 38)) := (Below.refl _ _).alloc (Nat.le_refl _) _
            have hsbl := (Array.getElem?_eq_some_iff.1 hst.out.2.2.2.1).1
            have hbk := (hal.block _ hsbl).trans hst.out.2.2.2.1
            have HWE : Hidden ((wr.alloc (.cells #[.int .i64 e1, .int .i64 e2] 38)).heap[w.heap.size]? = some (.cells #[.int .i64 0, .int .i64 0, .int .i64 0, .int .i64 0, .int .i64 0] 44 (0, 0)) ∧ Below w.heap.size w (wr.alloc (.cells #[.int .i64 e1, .int .i64 e2] 38)) ∧ (wr.alloc (.cells #[.int .i64 e1, .int .i64 e2] 38)).ownsRow w5.heap.size 38 2 (.slice (some ⟨g, off, none⟩) hl c3) hl (H.flatMap tcells)) := ⟨(hal.block _ (Array.getElem?_eq_some_iff.1 hst.out.2.2.1).1).trans hst.out.2.2.1, hst.out.2.1.trans (hal.mono hst.out.2.1.size), own_below hst.out.2.2.2.2 hal⟩
            have z3 : (wr.alloc (.cells #[.int .i64 e1, .int .i64 e2] 38)).cell? ⟨sb, 3, none⟩ = some (.int .i64 x) := by simp [World.cell?, hbk]
            have z4 : (wr.alloc (.cells #[.int .i64 e1, .int .i64 e2] 38)).cell? ⟨sb, 4, none⟩ = some (.int .i64 (j : Int)) := by simp [World.cell?, hbk]
            have hfz : ∀ q, (wr.alloc (.cells #[.int .i64 e1, .int .i64 e2] 38)).frozen? ⟨sb, q, none⟩ = false := fun q => frozen_of_row _ sb q _ _ hbk
            have s3 : IntKind.i64.wrap ((j : Int) + 1) = (j : Int) + 1 := IntWalk.i64_in _ (by omega)
            have HBK := Hidden.mk hbk
            have hne : wr.heap.size ≠ sb := by omega
            have k0 : (0 : Int) ≤ j := by omega
            have k1 : (j : Int) < hl := by omega
            have HSB : Hidden (w.heap.size ≤ sb ∧ sb < w5.heap.size) := ⟨by omega, H6.out.2.2.2.2.1⟩
            clear hcx hal hbk hst H6 hsbl
            have HN3 : Hidden ((((wr.alloc (.cells #[.int .i64 e1, .int .i64 e2] 38)).setCell ⟨sb, 3, none⟩ (.int .i64 (max x e2))).heap[sb]? = some (.cells #[.int .i64 k, .int .i64 u, .int .i64 (n - u), .int .i64 (max x e2), .int .i64 j] 44 (0, 0)))) := ⟨heap_setK HBK.out _⟩
            have z4' : ((wr.alloc (.cells #[.int .i64 e1, .int .i64 e2] 38)).setCell ⟨sb, 3, none⟩ (.int .i64 (max x e2))).cell? ⟨sb, 4, none⟩ = some (.int .i64 (j : Int)) := by simp only [World.cell?, HN3.out]; rfl
            have HN4 : Hidden (Below w.heap.size w (((wr.alloc (.cells #[.int .i64 e1, .int .i64 e2] 38)).setCell ⟨sb, 3, none⟩ (.int .i64 (max x e2))).setCell ⟨sb, 4, none⟩ (.int .i64 ((j : Int) + 1))) ∧ (((wr.alloc (.cells #[.int .i64 e1, .int .i64 e2] 38)).setCell ⟨sb, 3, none⟩ (.int .i64 (max x e2))).setCell ⟨sb, 4, none⟩ (.int .i64 ((j : Int) + 1))).heap[w.heap.size]? = some (.cells #[.int .i64 0, .int .i64 0, .int .i64 0, .int .i64 0, .int .i64 0] 44 (0, 0)) ∧ (((wr.alloc (.cells #[.int .i64 e1, .int .i64 e2] 38)).setCell ⟨sb, 3, none⟩ (.int .i64 (max x e2))).setCell ⟨sb, 4, none⟩ (.int .i64 ((j : Int) + 1))).heap[sb]? = some (.cells #[.int .i64 k, .int .i64 u, .int .i64 (n - u), .int .i64 (max x e2), .int .i64 ((j : Int) + 1)] 44 (0, 0)) ∧ (((wr.alloc (.cells #[.int .i64 e1, .int .i64 e2] 38)).setCell ⟨sb, 3, none⟩ (.int .i64 (max x e2))).setCell ⟨sb, 4, none⟩ (.int .i64 ((j : Int) + 1))).ownsRow w5.heap.size 38 2 (.slice (some ⟨g, off, none⟩) hl c3) hl (H.flatMap tcells)) :=
              ⟨(HWE.out.2.1.setCell (p := ⟨sb, 3, none⟩) HSB.out.1 _).setCell (p := ⟨sb, 4, none⟩) HSB.out.1 _, (Below.heap_setCell _ _ _ _ HNE.out).trans ((Below.heap_setCell _ _ _ _ HNE.out).trans HWE.out.1), heap_setK HN3.out _,
                ownsRow_block HWE.out.2.2 fun q hq => (Below.heap_setCell _ _ _ _ (fun e => by have := (HWE.out.2.2.lt q hq).1; have := HSB.out.2; simp at e; omega)).trans (Below.heap_setCell _ _ _ _ (fun e => by have := (HWE.out.2.2.lt q hq).1; have := HSB.out.2; simp at e; omega))⟩
            clear HN3 HWE HBK
            go_wp2_with fail
            go_roundg (hl - (j + 1))
            case measure => omega
            case rel => exact ⟨j + 1, max x e2, by omega, rfl, by go_num, ⟨HS.out, HN4.out.1, HN4.out.2.1, HN4.out.2.2.1, HN4.out.2.2.2⟩⟩
          · obtain rfl : j = hl := by omega
            have hmx := hst.out.1
            rw [List.take_of_length_le (by have := HHL.out; omega)] at hmx
            have HMX := Hidden.mk hmx
            have hbk := hst.out.2.2.2.1
            have hrk := hst.out.2.2.1
            have y0 : ∀ q, wr.frozen? ⟨w.heap.size, q, none⟩ = false := fun q => frozen_of_row _ _ q _ _ hrk
            have z0 : wr.cell? ⟨sb, 0, none⟩ = some (.int .i64 k) := by simp [World.cell?, hbk]
            have z1 : wr.cell? ⟨sb, 1, none⟩ = some (.int .i64 u) := by simp [World.cell?, hbk]
            have z2 : wr.cell? ⟨sb, 2, none⟩ = some (.int .i64 (n - u)) := by simp [World.cell?, hbk]
            have z3 : wr.cell? ⟨sb, 3, none⟩ = some (.int .i64 x) := by simp [World.cell?, hbk]
            have z4 : wr.cell? ⟨sb, 4, none⟩ = some (.int .i64 (j : Int)) := by simp [World.cell?, hbk]
            have r0 : wr.cell? ⟨w.heap.size, 0, none⟩ = some (.int .i64 0) := by simp [World.cell?, hrk]
            have r1 : wr.cell? ⟨w.heap.size, 1, none⟩ = some (.int .i64 0) := by simp [World.cell?, hrk]
            have r2 : wr.cell? ⟨w.heap.size, 2, none⟩ = some (.int .i64 0) := by simp [World.cell?, hrk]
            have r3 : wr.cell? ⟨w.heap.size, 3, none⟩ = some (.int .i64 0) := by simp [World.cell?, hrk]
            have r4 : wr.cell? ⟨w.heap.size, 4, none⟩ = some (.int .i64 0) := by simp [World.cell?, hrk]
            have HB := Hidden.mk hst.out.2.1
            have HF : Hidden ((l.length : Int) = k ∧ sumX l = u ∧ mostX H = x ∧ (H.length : Int) = j) := ⟨by rw [HL.out], HSU.out, HMX.out, by rw [HHL.out]⟩
            clear hmx hbk hrk hst H6
            go_wp2_with fail
            refine bodyPost_ret (v := .tuple #[.agg #[.int .i64 k, .int .i64 u, .int .i64 (n - u), .int .i64 x, .int .i64 (j : Int)], .nilIface]) ?_ rfl ?_
            · rw [results_cell_tmp rfl]
              go_simp
            · refine ⟨by rw [HF.out.1, HF.out.2.1, HF.out.2.2.1, HF.out.2.2.2], ((((HB.out.setCell (p := ⟨w.heap.size, 0, none⟩) (Nat.le_refl _) _).setCell (p := ⟨w.heap.size, 1, none⟩) (Nat.le_refl _) _).setCell (p := ⟨w.heap.size, 2, none⟩) (Nat.le_refl _) _).setCell (p := ⟨w.heap.size, 3, none⟩) (Nat.le_refl _) _).setCell (p := ⟨w.heap.size, 4, none⟩) (Nat.le_refl _) _⟩
  · have hsx := HSX.out
    rw [if_neg h0] at hsx
    rw [hsx]
    have hev : errV (chkX n l) = .iface 78 (.int .i64 (chkX n l)) := by unfold errV; rw [if_neg h0]
    rw [hev] at HC ⊢
    unfold statV
    generalize chkX n l = q at *
    clear h0 hev HSX hsx hr hl
    go_enter Try.func15, Try.ntmps15
    go_wp2_with fail
    generalize w.alloc (.cells #[.int .i64 0, .int .i64 0, .int .i64 0, .int .i64 0, .int .i64 0] 44) = w0 at *
    refine (HC.out _ HB0.out).mono ?_
    rintro e w1 ⟨rfl, hb1⟩
    have hlt : w.heap.size < w0.heap.size := (Array.getElem?_eq_some_iff.1 HBK0.out).1
    have hbk := (hb1.block _ hlt).trans HBK0.out
    have HB1 := Hidden.mk (HB0.out.trans (hb1.mono HB0.out.size))
    have y0 : ∀ q, w1.frozen? ⟨w.heap.size, q, none⟩ = false := fun q => frozen_of_row _ _ q _ _ hbk
    have z0 : w1.cell? ⟨w.heap.size, 0, none⟩ = some (.int .i64 0) := by simp [World.cell?, hbk]
    have z1 : w1.cell? ⟨w.heap.size, 1, none⟩ = some (.int .i64 0) := by simp [World.cell?, hbk]
    have z2 : w1.cell? ⟨w.heap.size, 2, none⟩ = some (.int .i64 0) := by simp [World.cell?, hbk]
    have z3 : w1.cell? ⟨w.heap.size, 3, none⟩ = some (.int .i64 0) := by simp [World.cell?, hbk]
    have z4 : w1.cell? ⟨w.heap.size, 4, none⟩ = some (.int .i64 0) := by simp [World.cell?, hbk]
    clear hb1 hlt hbk
    go_wp2_with fail
    refine bodyPost_ret (v := .tuple #[.agg #[.int .i64 0, .int .i64 0, .int .i64 0, .int .i64 0, .int .i64 0], .iface 78 (.int .i64 q)]) ?_ rfl ?_
    · rw [results_cell_tmp rfl]
      go_simp
    · exact ⟨rfl, ((((HB1.out.setCell (p := ⟨w.heap.size, 0, none⟩) (Nat.le_refl _) _).setCell (p := ⟨w.heap.size, 1, none⟩) (Nat.le_refl _) _).setCell (p := ⟨w.heap.size, 2, none⟩) (Nat.le_refl _) _).setCell (p := ⟨w.heap.size, 3, none⟩) (Nat.le_refl _) _).setCell (p := ⟨w.heap.size, 4, none⟩) (Nat.le_refl _) _⟩
end Go.Proofs.Ytibogmoemohngaa
/- Extents, the plain law: what is free between extents that are right. No walk here. -/
namespace Go.Proofs.Ytibogmoemohngaa
open Go.RowKit

/-- behind each other, from a to n -/
def Tidy : Int → List Ext → Int → Prop
  | a, [], n => a ≤ n
  | a, e :: r, n => a ≤ e.1 ∧ 1 ≤ e.2 ∧ Tidy (e.1 + e.2) r n
theorem hitX_symm (e o : Ext) : hitX e o = hitX o e := by unfold hitX; rw [Bool.and_comm]
theorem chkX_pair {n : Int} {l : List Ext} (h : chkX n l = 0) : l.Pairwise (fun a b => hitX a b = false) := by
  obtain ⟨_, _, _, _, h5⟩ := chkX_ok h
  rw [List.pairwise_iff_getElem]
  intro i j hi hj hij
  have h2 := (h5 j hj).2
  rw [List.any_eq_false] at h2
  have hm : l[i] ∈ l.take j := by
    rw [List.mem_take_iff_getElem]
    exact ⟨i, by omega, rfl⟩
  have := h2 _ hm
  rw [hitX_symm]
  simpa using this
theorem loopX_of (n : Int) (l : List Ext) : ∀ k, k ≤ l.length → (∀ j (hj : j < l.length), j < k → badX n l[j] = false ∧ (l.take j).any (hitX l[j]) = false) → loopX n l k = 0
  | 0, _, _ => rfl
  | k + 1, hk, h => by
    have h0 := loopX_of n l k (by omega) (fun j hj hjk => h j hj (by omega))
    obtain ⟨h1, h2⟩ := h k (by omega) (by omega)
    rw [loopX, if_pos h0]
    have hg : l.getD k (0, 0) = l[k] := by simp [show k < l.length by omega]
    rw [hg]
    unfold faultX
    rw [h1, h2]; rfl
theorem chkX_of {n : Int} {l : List Ext} (h0 : 0 ≤ n) (h1 : n ≤ 6400) (h2 : l.length ≤ 200) (hb : ∀ e ∈ l, badX n e = false) (hp : l.Pairwise (fun a b => hitX a b = false)) : chkX n l = 0 := by
  unfold chkX
  rw [if_neg (by omega), if_neg (by omega)]
  refine loopX_of n l _ (Nat.le_refl _) fun j hj _ => ⟨hb _ (List.getElem_mem hj), ?_⟩
  rw [List.any_eq_false]
  intro x hx
  rw [List.mem_take_iff_getElem] at hx
  obtain ⟨i, hi, rfl⟩ := hx
  rw [List.pairwise_iff_getElem] at hp
  have := hp i j (by omega) hj (by omega)
  rw [hitX_symm]
  simpa using this
theorem badX_of {n : Int} {e : Ext} (h : 1 ≤ e.2 ∧ 0 ≤ e.1 ∧ e.1 + e.2 ≤ n) : badX n e = false := by
  unfold badX
  simp only [Bool.or_eq_false_iff, decide_eq_false_iff_not]
  omega
theorem hitX_false {e o : Ext} : hitX e o = false ↔ (o.1 + o.2 ≤ e.1 ∨ e.1 + e.2 ≤ o.1) := by
  unfold hitX
  simp only [Bool.and_eq_false_iff, decide_eq_false_iff_not]
  omega
theorem tidy_mk (n : Int) : ∀ (S : List Ext) (a : Int), (∀ e ∈ S, a ≤ e.1 ∧ 1 ≤ e.2 ∧ e.1 + e.2 ≤ n) → S.Pairwise (fun x y => x.1 + x.2 ≤ y.1) → a ≤ n → Tidy a S n
  | [], _, _, _, h => h
  | e :: r, a, hb, hp, _ => by
    obtain ⟨h1, h2, h3⟩ := hb e (List.mem_cons_self ..)
    rw [List.pairwise_cons] at hp
    exact ⟨h1, h2, tidy_mk n r _ (fun x hx => by have := hb x (List.mem_cons_of_mem _ hx); have := hp.1 x hx; omega) hp.2 (by omega)⟩
theorem tidy_of {n : Int} {l : List Ext} (h : chkX n l = 0) : Tidy 0 (sortE l) n := by
  obtain ⟨h0, h1, h2, _, h5⟩ := chkX_ok h
  have hbad : ∀ e ∈ sortE l, badX n e = false := fun e he => by
    obtain ⟨j, hj, rfl⟩ := List.getElem_of_mem ((sortE_perm l).mem_iff.1 he)
    exact (h5 j hj).1
  refine tidy_mk n _ 0 (fun e he => by have := badX_false (hbad e he); omega) ?_ h0
  have hp : (sortE l).Pairwise (fun a b => hitX a b = false) := ((sortE_perm l).pairwise_iff (fun {x y} h => by rw [hitX_symm]; exact h)).2 (chkX_pair h)
  rw [List.pairwise_iff_getElem] at hp ⊢
  have hs := sortE_sorted l
  rw [List.pairwise_iff_getElem] at hs
  intro i j hi hj hij
  have a1 := hitX_false.1 (hp i j hi hj hij)
  have a2 := hs i j hi hj hij
  have a3 := badX_false (hbad _ (List.getElem_mem hi))
  have a4 := badX_false (hbad _ (List.getElem_mem hj))
  omega
theorem tidy_le : ∀ {S : List Ext} {a n : Int}, Tidy a S n → a ≤ n
  | [], _, _, h => h
  | e :: r, a, n, ⟨h1, h2, h3⟩ => by have := tidy_le h3; omega
theorem tidy_mem : ∀ {S : List Ext} {a n : Int}, Tidy a S n → ∀ e ∈ S, a ≤ e.1 ∧ 1 ≤ e.2 ∧ e.1 + e.2 ≤ n
  | e :: r, a, n, ⟨h1, h2, h3⟩, x, hx => by
    rcases List.mem_cons.1 hx with rfl | hx
    · exact ⟨h1, h2, tidy_le h3⟩
    · have := tidy_mem h3 x hx; omega
theorem tidy_strict : ∀ {S : List Ext} {a n : Int}, Tidy a S n → S.Pairwise (fun x y => x.1 < y.1)
  | [], _, _, _ => List.Pairwise.nil
  | e :: r, a, n, ⟨h1, h2, h3⟩ => List.Pairwise.cons (fun x hx => by have := tidy_mem h3 x hx; omega) (tidy_strict h3)
/-- holes of a tidy list, with its end -/
def runsX (a : Int) (S : List Ext) (n : Int) : List Ext := holesGo a (S ++ [(n, 0)])
theorem runsX_nil (a n : Int) : runsX a [] n = if a < n then [(a, n - a)] else [] := by
  unfold runsX
  simp [holesGo]
theorem runsX_cons (a : Int) (e : Ext) (r : List Ext) (n : Int) : runsX a (e :: r) n = (if a < e.1 then [(a, e.1 - a)] else []) ++ runsX (e.1 + e.2) r n := rfl
theorem runs_mem : ∀ {S : List Ext} {a n : Int}, Tidy a S n → ∀ h ∈ runsX a S n, a ≤ h.1 ∧ 1 ≤ h.2 ∧ h.1 + h.2 ≤ n ∧ ∀ e ∈ S, h.1 + h.2 ≤ e.1 ∨ e.1 + e.2 ≤ h.1
  | [], a, n, ht, h, hh => by
    rw [runsX_nil] at hh
    split at hh
    · rw [List.mem_singleton.1 hh]
      dsimp only
      exact ⟨by omega, by omega, by omega, fun e he => by cases he⟩
    · cases hh
  | e :: r, a, n, ⟨h1, h2, h3⟩, h, hh => by
    rw [runsX_cons] at hh
    rcases List.mem_append.1 hh with hh | hh
    · split at hh
      · rw [List.mem_singleton.1 hh]
        have := tidy_le h3
        dsimp only
        refine ⟨by omega, by omega, by omega, fun x hx => .inl ?_⟩
        rcases List.mem_cons.1 hx with rfl | hx
        · omega
        · have := tidy_mem h3 x hx; omega
      · cases hh
    · obtain ⟨i1, i2, i3, i4⟩ := runs_mem h3 h hh
      refine ⟨by omega, i2, i3, fun x hx => ?_⟩
      rcases List.mem_cons.1 hx with rfl | hx
      · right; omega
      · exact i4 x hx
theorem runs_pair : ∀ {S : List Ext} {a n : Int}, Tidy a S n → (runsX a S n).Pairwise (fun x y => x.1 + x.2 ≤ y.1)
  | [], a, n, _ => by
    rw [runsX_nil]; split <;> simp
  | e :: r, a, n, ⟨h1, h2, h3⟩ => by
    rw [runsX_cons]
    have ih := runs_pair h3
    split
    · refine List.Pairwise.cons (fun x hx => ?_) ih
      have := runs_mem h3 x hx
      dsimp only
      omega
    · exact ih
theorem foldl_sum (l : List Ext) : ∀ s : Int, l.foldl (fun s e => s + e.2) s = s + l.foldl (fun s e => s + e.2) 0 := by
  induction l with
  | nil => intro s; simp
  | cons x l ih => intro s; rw [List.foldl_cons, ih, List.foldl_cons, ih (0 + x.2)]; omega
theorem sumX_cons (e : Ext) (l : List Ext) : sumX (e :: l) = e.2 + sumX l := by
  unfold sumX; rw [List.foldl_cons, foldl_sum]; omega
theorem sumX_append (l m : List Ext) : sumX (l ++ m) = sumX l + sumX m := by
  induction l with
  | nil => simp [sumX]
  | cons x l ih => rw [List.cons_append, sumX_cons, sumX_cons, ih]; omega
theorem sumX_perm {l m : List Ext} (h : l.Perm m) : sumX l = sumX m := by
  induction h with
  | nil => rfl
  | cons x _ ih => rw [sumX_cons, sumX_cons, ih]
  | swap x y l => rw [sumX_cons, sumX_cons, sumX_cons, sumX_cons]; omega
  | trans _ _ h1 h2 => rw [h1, h2]
theorem runs_sum : ∀ {S : List Ext} {a n : Int}, Tidy a S n → sumX S + sumX (runsX a S n) = n - a
  | [], a, n, h => by
    have : a ≤ n := h
    rw [runsX_nil]; split
    · rw [sumX_cons]; simp [sumX]
    · simp [sumX]; omega
  | e :: r, a, n, ⟨h1, h2, h3⟩ => by
    rw [runsX_cons, sumX_cons, sumX_append]
    have ih := runs_sum h3
    split
    · rw [sumX_cons]
      have : sumX [] = 0 := rfl
      dsimp only
      omega
    · have : sumX [] = 0 := rfl
      omega
/-- one more, where it fits -/
theorem runs_insert : ∀ {S : List Ext} {a n at_ L size : Int}, Tidy a S n → (at_, L) ∈ runsX a S n → 1 ≤ size → size ≤ L →
    ∃ S', S'.Perm ((at_, size) :: S) ∧ Tidy a S' n ∧ (runsX a S' n).length ≤ (runsX a S n).length ∧ ∀ h ∈ runsX a S' n, ∃ h' ∈ runsX a S n, h.2 ≤ h'.2
  | [], a, n, at_, L, size, ht, hm, h1, h2 => by
    rw [runsX_nil] at hm
    split at hm
    · rename_i hlt
      have he := List.mem_singleton.1 hm
      injection he with e1 e2
      subst e1 e2
      refine ⟨[(at_, size)], List.Perm.refl _, ⟨Int.le_refl _, h1, (by omega : at_ + size ≤ n)⟩, ?_, ?_⟩
      · rw [runsX_cons, runsX_nil, runsX_nil, if_neg (by dsimp only; omega), if_pos hlt]
        dsimp only
        split <;> simp
      · intro h hh
        rw [runsX_cons, runsX_nil, if_neg (by dsimp only; omega)] at hh
        dsimp only at hh
        split at hh
        · have hm' : h = (at_ + size, n - (at_ + size)) := by simpa using hh
          rw [hm', runsX_nil, if_pos hlt]
          exact ⟨_, List.mem_singleton.2 rfl, by dsimp only; omega⟩
        · simp at hh
    · cases hm
  | e :: r, a, n, at_, L, size, ⟨t1, t2, t3⟩, hm, h1, h2 => by
    rw [runsX_cons] at hm
    rcases List.mem_append.1 hm with hm | hm
    · split at hm
      · rename_i hlt
        have he := List.mem_singleton.1 hm
        injection he with e1 e2
        subst e1 e2
        refine ⟨(at_, size) :: e :: r, List.Perm.refl _, ⟨Int.le_refl _, h1, (by dsimp only; omega), t2, t3⟩, ?_, ?_⟩
        · rw [runsX_cons, runsX_cons, runsX_cons, if_neg (by dsimp only; omega), if_pos hlt]
          dsimp only
          split <;> simp
        · intro h hh
          rw [runsX_cons, runsX_cons, if_neg (by dsimp only; omega)] at hh
          dsimp only at hh
          rw [runsX_cons, if_pos hlt]
          rw [List.nil_append] at hh
          rcases List.mem_append.1 hh with hh | hh
          · split at hh
            · rw [List.mem_singleton.1 hh]
              exact ⟨_, List.mem_cons_self .., by dsimp only; omega⟩
            · cases hh
          · exact ⟨h, List.mem_cons_of_mem _ hh, Int.le_refl _⟩
      · cases hm
    · obtain ⟨S', p1, p2, p3, p4⟩ := runs_insert t3 hm h1 h2
      refine ⟨e :: S', (List.Perm.cons e p1).trans (List.Perm.swap _ _ _), ⟨t1, t2, p2⟩, ?_, ?_⟩
      · rw [runsX_cons, runsX_cons, List.length_append, List.length_append]; omega
      · intro h hh
        rw [runsX_cons] at hh ⊢
        rcases List.mem_append.1 hh with hh | hh
        · exact ⟨h, List.mem_append_left _ hh, Int.le_refl _⟩
        · obtain ⟨h', m1, m2⟩ := p4 h hh
          exact ⟨h', List.mem_append_right _ m1, m2⟩
theorem sortE_unique {l S : List Ext} {a n : Int} (hp : S.Perm l) (ht : Tidy a S n) : sortE l = S := by
  have h1 : (sortE l).Perm S := (sortE_perm l).trans hp.symm
  have hs := tidy_strict ht
  refine List.Perm.eq_of_pairwise (le := fun x y : Ext => x.1 ≤ y.1) (fun x y hx hy h h' => ?_) (sortE_sorted l) (hs.imp fun h => Int.le_of_lt h) h1
  have hx' : x ∈ S := h1.mem_iff.1 hx
  obtain ⟨i, hi, rfl⟩ := List.getElem_of_mem hx'
  obtain ⟨j, hj, rfl⟩ := List.getElem_of_mem hy
  rw [List.pairwise_iff_getElem] at hs
  rcases Nat.lt_trichotomy i j with hij | rfl | hij
  · have := hs i j hi hj hij; omega
  · rfl
  · have := hs j i hj hi hij; omega
theorem bestX_snoc (size : Int) (H : List Ext) (x : Ext) : bestX size (H ++ [x]) = if size ≤ x.2 ∧ ((bestX size H).2 = 0 ∨ x.2 < (bestX size H).2) then x else bestX size H := by
  unfold bestX; rw [List.foldl_append]; rfl
theorem snocE {p : List Ext → Prop} (h0 : p []) (h1 : ∀ L x, p L → p (L ++ [x])) (L : List Ext) : p L := by
  rw [← List.reverse_reverse L]
  induction L.reverse with
  | nil => exact h0
  | cons x L ih => rw [List.reverse_cons]; exact h1 _ _ ih
theorem best_inv (size : Int) (h1 : 1 ≤ size) (H : List Ext) : (bestX size H = (0, 0) ∧ ∀ h ∈ H, h.2 < size) ∨ (bestX size H ∈ H ∧ size ≤ (bestX size H).2 ∧ ∀ h ∈ H, size ≤ h.2 → (bestX size H).2 ≤ h.2) := by
  induction H using snocE with
  | h0 => exact .inl ⟨rfl, fun h hh => by cases hh⟩
  | h1 L x ih =>
    rw [bestX_snoc]
    rcases ih with ⟨e, hall⟩ | ⟨hm, hs, hall⟩
    · rw [e]
      by_cases hx : size ≤ x.2
      · rw [if_pos ⟨hx, .inl rfl⟩]
        refine .inr ⟨by simp, hx, fun h hh hsz => ?_⟩
        rcases List.mem_append.1 hh with hh | hh
        · have := hall h hh; omega
        · rw [List.mem_singleton.1 hh]; exact Int.le_refl _
      · rw [if_neg (fun h => hx h.1)]
        refine .inl ⟨rfl, fun h hh => ?_⟩
        rcases List.mem_append.1 hh with hh | hh
        · exact hall h hh
        · rw [List.mem_singleton.1 hh]; omega
    · by_cases hx : size ≤ x.2 ∧ ((bestX size L).2 = 0 ∨ x.2 < (bestX size L).2)
      · rw [if_pos hx]
        refine .inr ⟨by simp, hx.1, fun h hh hsz => ?_⟩
        rcases List.mem_append.1 hh with hh | hh
        · have := hall h hh hsz; omega
        · rw [List.mem_singleton.1 hh]; exact Int.le_refl _
      · rw [if_neg hx]
        refine .inr ⟨List.mem_append_left _ hm, hs, fun h hh hsz => ?_⟩
        rcases List.mem_append.1 hh with hh | hh
        · exact hall h hh hsz
        · rw [List.mem_singleton.1 hh] at hsz ⊢; omega
section
variable {n : Int} {l : List Ext}
theorem holes_runs (n : Int) (l : List Ext) : holesX n l = runsX 0 (sortE l) n := rfl
theorem holes_mem (h : chkX n l = 0) : ∀ x ∈ holesX n l, 0 ≤ x.1 ∧ 1 ≤ x.2 ∧ x.1 + x.2 ≤ n ∧ ∀ e ∈ l, x.1 + x.2 ≤ e.1 ∨ e.1 + e.2 ≤ x.1 := fun x hx => by
  obtain ⟨i1, i2, i3, i4⟩ := runs_mem (tidy_of h) x hx
  exact ⟨i1, i2, i3, fun e he => i4 e ((sortE_perm l).mem_iff.2 he)⟩
theorem holds_sum (h : chkX n l = 0) : sumX l + sumX (holesX n l) = n := by
  have h1 := runs_sum (tidy_of h)
  rw [sumX_perm (sortE_perm l)] at h1
  rw [holes_runs]; omega
theorem holds_bad (h : chkX n l = 0) : ∀ e ∈ l, badX n e = false := fun e he => by
  obtain ⟨_, _, _, _, h5⟩ := chkX_ok h
  obtain ⟨j, hj, rfl⟩ := List.getElem_of_mem he
  exact (h5 j hj).1
theorem holds_chk (h : chkX n l = 0) (hl : (l ++ holesX n l).length ≤ 200) : chkX n (l ++ holesX n l) = 0 := by
  obtain ⟨h0, h1, _, _, _⟩ := chkX_ok h
  have hm := holes_mem h
  refine chkX_of h0 h1 hl (fun e he => ?_) ?_
  · rcases List.mem_append.1 he with he | he
    · exact holds_bad h e he
    · have := hm e he; exact badX_of (by omega)
  · rw [List.pairwise_append]
    refine ⟨chkX_pair h, (runs_pair (tidy_of h)).imp fun hxy => hitX_false.2 (.inr hxy), fun e he x hx => ?_⟩
    have := (hm x hx).2.2.2 e he
    exact hitX_false.2 (by omega)
theorem more_chk (h : chkX n l = 0) {at_ L size : Int} (hm : (at_, L) ∈ holesX n l) (h1 : 1 ≤ size) (h2 : size ≤ L) (hl : l.length + 1 ≤ 200) : chkX n (l ++ [(at_, size)]) = 0 ∧ chkX n ((at_, size) :: l) = 0 := by
  obtain ⟨o0, o1, _, _, _⟩ := chkX_ok h
  obtain ⟨m1, m2, m3, m4⟩ := holes_mem h _ hm
  dsimp only at m1 m2 m3 m4
  have hb : ∀ e ∈ (at_, size) :: l, badX n e = false := fun e he => by
    rcases List.mem_cons.1 he with rfl | he
    · exact badX_of (by dsimp only; omega)
    · exact holds_bad h e he
  have hx : ∀ e ∈ l, hitX (at_, size) e = false := fun e he => hitX_false.2 (by have := m4 e he; dsimp only; omega)
  constructor
  · refine chkX_of o0 o1 (by simp; omega) (fun e he => hb e (by simp at he ⊢; rcases he with h | h; exact .inr h; exact .inl h)) ?_
    rw [List.pairwise_append]
    refine ⟨chkX_pair h, by simp, fun e he x hx' => ?_⟩
    rw [List.mem_singleton.1 hx', hitX_symm]
    exact hx e he
  · refine chkX_of o0 o1 (by simp; omega) hb ?_
    exact List.Pairwise.cons hx (chkX_pair h)
theorem fit_none (h : chkX n l = 0) {size : Int} (hf : fitE n l size ≠ 0) : ∀ x ∈ holesX n l, 1 ≤ size → x.2 < size := fun x hx hs => by
  obtain ⟨o0, o1, _, _, _⟩ := chkX_ok h
  have hm := holes_mem h x hx
  unfold fitE at hf
  rw [if_pos h] at hf
  by_cases h1 : size < 1 ∨ 6400 < size
  · omega
  · rw [if_neg h1] at hf
    rcases best_inv size hs (holesX n l) with ⟨e, hall⟩ | ⟨_, h2, _⟩
    · exact hall x hx
    · rw [if_neg (by omega)] at hf; exact absurd rfl hf
theorem fit_some (h : chkX n l = 0) {size : Int} (hf : fitE n l size = 0) : ∃ L, (fitA n l size, L) ∈ holesX n l ∧ 1 ≤ size ∧ size ≤ L ∧ (∀ x ∈ holesX n l, size ≤ x.2 → L ≤ x.2) ∧ (∀ x ∈ holesX n l, x.1 = fitA n l size → x.2 = L) := by
  have hA : fitA n l size = (bestX size (holesX n l)).1 := by unfold fitA; rw [if_pos hf]
  unfold fitE at hf
  rw [if_pos h] at hf
  by_cases h1 : size < 1 ∨ 6400 < size
  · rw [if_pos h1] at hf; cases hf
  · rw [if_neg h1] at hf
    have hs : 1 ≤ size := by omega
    rcases best_inv size hs (holesX n l) with ⟨e, _⟩ | ⟨hm, h2, h3⟩
    · rw [e] at hf; cases hf
    · refine ⟨(bestX size (holesX n l)).2, by rw [hA]; exact hm, hs, h2, h3, fun x hx hxa => ?_⟩
      rw [hA] at hxa
      have hp := runs_pair (tidy_of h)
      rw [← holes_runs, List.pairwise_iff_getElem] at hp
      obtain ⟨i, hi, rfl⟩ := List.getElem_of_mem hx
      obtain ⟨j, hj, hjb⟩ := List.getElem_of_mem hm
      rw [← hjb] at hxa ⊢
      have pi := holes_mem h _ (List.getElem_mem hi)
      have pj := holes_mem h _ (List.getElem_mem hj)
      rcases Nat.lt_trichotomy i j with hij | rfl | hij
      · have := hp i j hi hj hij; omega
      · rfl
      · have := hp j i hj hi hij; omega
theorem mostX_snoc (H : List Ext) (x : Ext) : mostX (H ++ [x]) = max (mostX H) x.2 := by
  unfold mostX; rw [List.foldl_append]; rfl
theorem mostX_mem (H : List Ext) : 0 ≤ mostX H ∧ (∀ x ∈ H, x.2 ≤ mostX H) ∧ ∀ M, 0 ≤ M → (∀ x ∈ H, x.2 ≤ M) → mostX H ≤ M := by
  induction H using snocE with
  | h0 => exact ⟨Int.le_refl _, fun x hx => (by cases hx), fun M hM _ => hM⟩
  | h1 L x ih =>
    obtain ⟨i0, i1, i2⟩ := ih
    rw [mostX_snoc]
    refine ⟨by omega, fun y hy => ?_, fun M hM hall => ?_⟩
    · rcases List.mem_append.1 hy with hy | hy
      · have := i1 y hy; omega
      · rw [List.mem_singleton.1 hy]; omega
    · have := i2 M hM (fun y hy => hall y (List.mem_append_left _ hy))
      have := hall x (by simp)
      omega
theorem sum_mem {H : List Ext} (hp : ∀ x ∈ H, 0 ≤ x.2) : 0 ≤ sumX H ∧ ∀ x ∈ H, x.2 ≤ sumX H := by
  induction H with
  | nil => exact ⟨Int.le_refl _, fun x hx => by cases hx⟩
  | cons y r ih =>
    obtain ⟨i0, i1⟩ := ih (fun x hx => hp x (List.mem_cons_of_mem _ hx))
    have := hp y (List.mem_cons_self ..)
    rw [sumX_cons]
    refine ⟨by omega, fun x hx => ?_⟩
    rcases List.mem_cons.1 hx with rfl | hx
    · omega
    · have := i1 x hx; omega
/-- what is most is free -/
theorem most_free (h : chkX n l = 0) : mostX (holesX n l) ≤ n - sumX l := by
  have hs := holds_sum h
  have hm := sum_mem (H := holesX n l) (fun x hx => by have := holes_mem h x hx; omega)
  exact (mostX_mem _).2.2 _ (by omega) (fun x hx => by have := hm.2 x hx; omega)
theorem fit_most (h : chkX n l = 0) {size : Int} (hf : fitE n l size ≠ 0) : size < 1 ∨ mostX (holesX n l) < size := by
  by_cases h1 : size < 1
  · exact .inl h1
  · right
    have := (mostX_mem (holesX n l)).2.2 (size - 1) (by omega) (fun x hx => by have := fit_none h hf x hx (by omega); omega)
    omega
theorem more_stat (h : chkX n l = 0) {at_ L size : Int} (hm : (at_, L) ∈ holesX n l) (h1 : 1 ≤ size) (h2 : size ≤ L) :
    mostX (holesX n ((at_, size) :: l)) ≤ mostX (holesX n l) ∧ (holesX n ((at_, size) :: l)).length ≤ (holesX n l).length ∧ sumX ((at_, size) :: l) = size + sumX l := by
  obtain ⟨S', p1, p2, p3, p4⟩ := runs_insert (tidy_of h) hm h1 h2
  have hu : sortE ((at_, size) :: l) = S' := sortE_unique (p1.trans (List.Perm.cons _ (sortE_perm l))) p2
  rw [holes_runs n (_ :: l), hu]
  refine ⟨(mostX_mem _).2.2 _ (mostX_mem _).1 (fun x hx => ?_), p3, sumX_cons _ _⟩
  obtain ⟨x', m1, m2⟩ := p4 x hx
  have := (mostX_mem (holesX n l)).2.1 x' m1
  omega
end
end Go.Proofs.Ytibogmoemohngaa
/- ExtentMore: the walk. -/
namespace Go.Proofs.Ytibogmoemohngaa
open Go.RowKit

/-- a block of five numbers -/
structure FiveAt (w : World) (p : Nat) (a b c d e : Int) : Prop where
  c0 : w.cell? ⟨p, 0, none⟩ = some (.int .i64 a)
  c1 : w.cell? ⟨p, 1, none⟩ = some (.int .i64 b)
  c2 : w.cell? ⟨p, 2, none⟩ = some (.int .i64 c)
  c3 : w.cell? ⟨p, 3, none⟩ = some (.int .i64 d)
  c4 : w.cell? ⟨p, 4, none⟩ = some (.int .i64 e)
theorem FiveAt.one (w : World) (a b c d e : Int) (t : TypeId) : FiveAt (w.alloc (.cells #[.int .i64 a, .int .i64 b, .int .i64 c, .int .i64 d, .int .i64 e] t)) w.heap.size a b c d e := by
  have h := heap_alloc_new w (.cells #[.int .i64 a, .int .i64 b, .int .i64 c, .int .i64 d, .int .i64 e] t)
  constructor
  all_goals
    simp only [World.cell?]
    rw [h]
    rfl
theorem FiveAt.below {w w' : World} {p : Nat} {a b c d e : Int} (h : FiveAt w p a b c d e) (hb : Below w.heap.size w w') : FiveAt w' p a b c d e := by
  have hlt : p < w.heap.size := block_lt_of_cell h.c0
  exact ⟨(hb.cell (p := ⟨p, 0, none⟩) hlt).trans h.c0, (hb.cell (p := ⟨p, 1, none⟩) hlt).trans h.c1, (hb.cell (p := ⟨p, 2, none⟩) hlt).trans h.c2, (hb.cell (p := ⟨p, 3, none⟩) hlt).trans h.c3, (hb.cell (p := ⟨p, 4, none⟩) hlt).trans h.c4⟩
set_option maxRecDepth 100000 in
set_option maxHeartbeats 2000000 in
theorem extentMore_walk (n : Int) (A : Option Addr) (m c : Nat) (l : List Ext) (size : Int) (w : World) (hl : l.length = m) (hmc : m ≤ c) (hr : RdX tcells 2 w A l) :
    Calls Try.prog 5 #[.int .i64 n, .slice A m c, .int .i64 size] w fun e w' => e = .returned (.bool true) ∧ Below w.heap.size w w' := by
  have B := Hidden.mk (Bel.mk (Below.refl w.heap.size w))
  have R := Hidden.mk hr
  have HL := Hidden.mk hl
  have C1 := Hidden.mk (fun W hW => xstat_any n A m c l W hl hmc hW)
  clear hr hl
  by_cases h0 : chkX n l = 0
  · obtain ⟨o0, o1, o2, o3, -⟩ := chkX_ok h0
    have hsum := holds_sum h0
    have hmf := most_free h0
    have hsm := sum_mem (H := holesX n l) (fun x hx => by have := holes_mem h0 x hx; omega)
    have hsl := sum_mem (H := l) (fun x hx => (o3 x hx).2.1)
    have hHl := holesX_len n l
    have HFM : Hidden (fitE n l size ≠ 0 → size < 1 ∨ mostX (holesX n l) < size) := ⟨fit_most h0⟩
    have HOK : Hidden (fitE n l size = 0 → l.length + 1 ≤ 200 → statX n ((fitA n l size, size) :: l) = statV ((l.length : Int) + 1) (sumX l + size) (n - sumX l - size) (mostX (holesX n ((fitA n l size, size) :: l))) (holesX n ((fitA n l size, size) :: l)).length ∧ chkX n ((fitA n l size, size) :: l) = 0 ∧ mostX (holesX n ((fitA n l size, size) :: l)) ≤ mostX (holesX n l) ∧ (holesX n ((fitA n l size, size) :: l)).length ≤ (holesX n l).length ∧ 1 ≤ size ∧ size ≤ n - sumX l) := ⟨fun hf hl200 => by
      obtain ⟨L, m1, m2, m3, m4, m5⟩ := fit_some h0 hf
      have hc := (more_chk h0 m1 m2 m3 hl200).2
      obtain ⟨s1, s2, s3⟩ := more_stat h0 m1 m2 m3
      have := hsm.2 _ m1
      dsimp only at this
      refine ⟨?_, hc, s1, s2, m2, by omega⟩
      unfold statX
      rw [if_pos hc, s3, List.length_cons]
      have e1 : n - (size + sumX l) = n - sumX l - size := by omega
      have e2 : size + sumX l = sumX l + size := by omega
      rw [e1, e2]; rfl⟩
    have C2 := Hidden.mk (fun W hW => xfit_any n A m c l size W HL.out hmc hW)
    have hst : statX n l = statV m (sumX l) (n - sumX l) (mostX (holesX n l)) (holesX n l).length := by unfold statX; rw [if_pos h0, HL.out]
    rw [h0, hst, show errV 0 = Value.nilIface from rfl] at C1
    unfold statV at C1
    have hu0 : 0 ≤ sumX l := hsl.1
    have hum : sumX l ≤ n := by omega
    have HU : Hidden (n - sumX l = n - sumX l) := ⟨rfl⟩
    have hm200 : m ≤ 200 := by have := HL.out; omega
    have hhl : (holesX n l).length ≤ 201 := by omega
    have HLM : Hidden (l.length = m) := HL
    generalize hH : mostX (holesX n l) = M at *
    generalize (holesX n l).length = K at *
    generalize fitE n l size = fe at *
    generalize fitA n l size = fa at *
    generalize hu : sumX l = u at *
    obtain ⟨fr, hfr⟩ : ∃ fr, fr = n - u := ⟨_, rfl⟩
    rw [← hfr] at C1 HOK hmf
    have HFR := Hidden.mk hfr
    have s1 : IntKind.i64.wrap (u + fr) = n := by rw [IntWalk.i64_in _ (by omega)]; omega
    have hfr0 : 0 ≤ fr ∧ fr ≤ 6400 := by omega
    have hun : u ≤ 6400 := by omega
    have hM0 := (mostX_mem (holesX n l)).1
    rw [hH] at hM0
    clear hsum hsm hsl hHl hst hu hfr hum hH h0
    have t1 : decide (fr < M) = false := by simp; omega
    clear hmf hm200 o2
    go_enter Try.func5, Try.ntmps5
    go_wp2_with fail
    refine (C1.out _ R.out).mono ?_
    rintro e w1 ⟨rfl, hb1⟩
    have hb_ := hb1
    replace B := Hidden.mk (B.out.below hb_)
    replace R := Hidden.mk (R.out.below hb_)
    clear hb_
    clear hb1 C1
    have hal := (Below.refl w1.heap.size w1).alloc (Nat.le_refl _) (.cells #[.int .i64 m, .int .i64 u, .int .i64 fr, .int .i64 M, .int .i64 K] 44)
    have X := FiveAt.one w1 m u fr M K 44
    have hb_ := hal
    replace B := Hidden.mk (B.out.below hb_)
    replace R := Hidden.mk (R.out.below hb_)
    clear hb_
    clear hal
    by_cases hm2 : 200 ≤ m
    · have d1 : decide (200 ≤ m) = true := by simpa using hm2
      have d2 : decide ((200 : Int) ≤ (m : Int)) = true := by simp; omega
      clear X hm2
      go_wp2_with fail
      go_ret
      exact ⟨rfl, B.out.out⟩
    have d1 : decide (200 ≤ m) = false := by simp; omega
    have d2 : decide ((200 : Int) ≤ (m : Int)) = false := by simp; omega
    have HXX := Hidden.mk X
    obtain ⟨x0, x1, x2, x3, x4⟩ := X
    go_wp2_with fail
    generalize w1.alloc (.cells #[.int .i64 m, .int .i64 u, .int .i64 fr, .int .i64 M, .int .i64 K] 44) = w2 at *
    clear x0 x1 x2 x3 x4
    have X := HXX
    clear HXX
    by_cases hfe : fe = 0
    · obtain ⟨y1, y2, y3, y4, y5, y6⟩ := HOK.out hfe (by have := HL.out; omega)
      have hl1 : ((fa, size) :: l).length = m + 1 := by rw [List.length_cons, HL.out]
      have CS := Hidden.mk (fun (B' : Option Addr) (c' : Nat) W (hc : m + 1 ≤ c') hW => xstat_any n B' (m + 1) c' ((fa, size) :: l) W hl1 hc hW)
      rw [y1, y2, show errV 0 = Value.nilIface from rfl, HL.out] at CS
      unfold statV at CS
      generalize mostX (holesX n ((fa, size) :: l)) = M2 at *
      generalize (holesX n ((fa, size) :: l)).length = K2 at *
      have e1 : decide (M2 ≤ M) = true := by simpa using y3
      have e2 : decide (K2 ≤ K) = true := by simpa using y4
      have e3 : decide ((K2 : Int) ≤ (K : Int)) = true := by simp; omega
      have s2 : IntKind.i64.wrap (fr - size) = fr - size := IntWalk.i64_in _ (by omega)
      have s3 : IntKind.i64.wrap (u + size) = u + size := IntWalk.i64_in _ (by omega)
      rw [hfe, show errV 0 = Value.nilIface from rfl] at C2
      obtain ⟨i0, hi0, hz0, hz1, hz2⟩ := info_parts extent_info
      clear hfe y1 y2 y3 y4 y5 y6 HOK HFM HU HFR hM0 hfr0 hun hu0 o0 o1 o3 hhl s1 t1 d1 d2
      go_wp2_with fail
      refine (C2.out _ R.out).mono ?_
      rintro e w_1 ⟨rfl, hb⟩
      replace B := Hidden.mk (B.out.below hb)
      replace R := Hidden.mk (R.out.below hb)
      replace X := Hidden.mk (X.out.below hb)
      clear hb
      clear C2
      go_wp2_with (first | (at_builtin; refine wpList_append_lies _ rfl (.tmp 70) (.tmp 74) _ rfl (w_1).heap.size 38 i0 _ 2 16 Try.underlying34 hi0 hz0 hz1 hz2 rfl (by decide) (.slice none 0 0) 0 [] rfl (own_below (World.ownsRow_nil (w_1) _ _ _) ((Below.refl _ _).alloc (Nat.le_refl _) _)) ⟨((w_1)).heap.size, 0, none⟩ 1 1 [.int .i64 fa, .int .i64 size] rfl rfl (World.news_of_block (cs := #[.int .i64 fa, .int .i64 size]) (t := 38) (fr := (0, 0)) (heap_alloc_new ((w_1)) _)) (by simp [Value.oneCell']) (by omega) (by simp only [maxLen]; omega) (by omega) (by have hz_ := (Below.refl (w_1).heap.size (w_1)).size; rw [World.size_alloc]; omega) (((w_1)).heap.size + 1) (by simp) ?_; intro g8 cap8 w8 hown8 hg8 hat8 hlt8; have hB8 := ((Below.refl (w_1).heap.size (w_1)).alloc (Nat.le_refl _) (.cells #[.int .i64 fa, .int .i64 size] 38)).grown hg8 (by simp) (fun k hk => by simp [Value.ownBlock] at hk)) | (at_builtin; refine wpList_append_src _ rfl (.tmp 76) (.tmp 77) _ rfl (w_1).heap.size 38 i0 _ 2 16 Try.underlying34 hi0 hz0 hz1 hz2 rfl (by decide) (.slice (some ⟨g8, 0, none⟩) 1 cap8) 1 [.int .i64 fa, .int .i64 size] rfl (by simpa using hown8) A m c (l.flatMap tcells) rfl (Src.of_rdX tcells_len (by omega) HL.out (R.out.below hB8)) (tcells_one l) (by simp only [maxLen]; omega) (by omega) hB8.size ?_; intro v9 w9 hown9 hg9 hat9; have hB9 := hB8.grown hg9 hB8.size (fun k hk => ((show w8.ownsRow _ _ _ (.slice (some ⟨g8, 0, none⟩) 1 cap8) 1 [.int .i64 fa, .int .i64 size] by simpa using hown8).lt k hk).1)))
      have hown9' : w9.ownsRow (w_1).heap.size 38 2 v9 (m + 1) (((fa, size) :: l).flatMap tcells) := by
        have e : 1 + m = m + 1 := by omega
        rw [e] at hown9
        exact hown9
      obtain ⟨A9, c9, rfl, hc9, -⟩ := own_split hown9'
      have HCS := Hidden.mk (CS.out A9 c9 w9 hc9 (own_rdX3 tcells_len hl1 hown9'))
      have hb_ := hB9
      replace B := Hidden.mk (B.out.below hb_)
      replace R := Hidden.mk (R.out.below hb_)
      replace X := Hidden.mk (X.out.below hb_)
      clear hb_
      clear hown8 hg8 hat8 hlt8 hB8 hown9 hg9 hat9 hB9 hown9' hc9 hl1 CS hi0 hz0 hz1 hz2
      refine HCS.out.mono ?_
      rintro e wa ⟨rfl, hb⟩
      have hb_ := hb
      replace B := Hidden.mk (B.out.below hb_)
      replace R := Hidden.mk (R.out.below hb_)
      replace X := Hidden.mk (X.out.below hb_)
      clear hb_
      clear hb HCS
      have hal := (Below.refl wa.heap.size wa).alloc (Nat.le_refl _) (.cells #[.int .i64 ((m : Int) + 1), .int .i64 (u + size), .int .i64 (fr - size), .int .i64 M2, .int .i64 K2] 44)
      have Y := FiveAt.one wa ((m : Int) + 1) (u + size) (fr - size) M2 K2 44
      have hb_ := hal
      replace B := Hidden.mk (B.out.below hb_)
      replace R := Hidden.mk (R.out.below hb_)
      replace X := Hidden.mk (X.out.below hb_)
      clear hb_
      clear hal
      obtain ⟨x0, x1, x2, x3, x4⟩ := X.out
      obtain ⟨y0, y1, y2, y3, y4⟩ := Y
      go_wp2_with fail
      go_ret
      exact ⟨rfl, B.out.out⟩
    · skip
      have hfm := HFM.out hfe
      have hev : errV fe = .iface 78 (.int .i64 fe) := by unfold errV; rw [if_neg hfe]
      rw [hev] at C2
      clear hev hfe HOK HFM
      go_wp2_with fail
      refine (C2.out _ R.out).mono ?_
      rintro e w_2 ⟨rfl, hb⟩
      replace B := Hidden.mk (B.out.below hb)
      replace R := Hidden.mk (R.out.below hb)
      replace X := Hidden.mk (X.out.below hb)
      clear hb
      clear C2
      obtain ⟨x0, x1, x2, x3, x4⟩ := X.out
      by_cases hs : size < 1
      · have e1 : decide (size < 1) = true := by simpa using hs
        clear hs hfm
        go_wp2_with fail
        go_ret
        exact ⟨rfl, B.out.out⟩
      · have e1 : decide (size < 1) = false := by simpa using hs
        have e2 : decide (M < size) = true := by simp; omega
        clear hs hfm
        go_wp2_with fail
        go_ret
        exact ⟨rfl, B.out.out⟩
  · skip
    have C2 := Hidden.mk (fun W hW => xcheck_any n A m c l W HL.out hmc hW)
    have hev : errV (chkX n l) = .iface 78 (.int .i64 (chkX n l)) := by unfold errV; rw [if_neg h0]
    have hst : statX n l = statV 0 0 0 0 0 := by unfold statX; rw [if_neg h0]
    rw [hev, hst] at C1
    rw [hev] at C2
    unfold statV at C1
    generalize chkX n l = q at *
    clear hev h0 hst
    go_enter Try.func5, Try.ntmps5
    go_wp2_with fail
    refine (C1.out _ R.out).mono ?_
    rintro e w1 ⟨rfl, hb1⟩
    have hb_ := hb1
    replace B := Hidden.mk (B.out.below hb_)
    replace R := Hidden.mk (R.out.below hb_)
    clear hb_
    clear hb1 C1
    have hal := (Below.refl w1.heap.size w1).alloc (Nat.le_refl _) (.cells #[.int .i64 0, .int .i64 0, .int .i64 0, .int .i64 0, .int .i64 0] 44)
    have hb_ := hal
    replace B := Hidden.mk (B.out.below hb_)
    replace R := Hidden.mk (R.out.below hb_)
    clear hb_
    clear hal
    go_wp2_with fail
    refine (C2.out _ R.out).mono ?_
    rintro e w2 ⟨rfl, hb2⟩
    have hb_ := hb2
    replace B := Hidden.mk (B.out.below hb_)
    replace R := Hidden.mk (R.out.below hb_)
    clear hb_
    clear hb2
    go_wp2_with fail
    go_ret
    exact ⟨rfl, B.out.out⟩
end Go.Proofs.Ytibogmoemohngaa
/- What comes in: slices of extents. -/
namespace Go.Proofs.Ytibogmoemohngaa
open Go.RowKit Go.ChangeShapes Go.WideShapes Go.ChangeAt

section
variable {H : Type} {enc : TypeId × Value → H} {w : World} {v : Value} {d : DataW H} {ps : List MemPlace} {base : Nat} {r : Reach}
set_option maxRecDepth 20000 in
theorem open_extents (hv : Value.okWide Try.prog w r base 34 v) (h : DataW.Trod enc Try.prog w 0 (fun _ => true) true 34 v d ps) (hz : (d.weights Try.prog 34).all (· ≤ reachBytes) = true) :
    ∃ (A : Option Addr) (c : Nat) (L : List Ext), v = .slice A L.length c ∧ L.length ≤ c ∧ c ≤ 140737488351232 ∧ (∀ x ∈ L, True) ∧ RdX tcells 2 w A L := by
  have hb : decide (1 ≤ Try.prog.bytesOf 38) = true := by kernel_rfl
  have hC : Try.prog.cellsOf 38 = 2 := by kernel_rfl
  refine open_seq (P := Try.prog) tcells 2 (fun _ _ => True) Try.underlying34 hC (by omega) (of_decide_eq_true hb) (fun n cs x hl ht hz => ?_) hv h hz
  obtain ⟨v0, v1, y0, y1, m, rfl, t0, t1, z0, z1⟩ := open_two Try.underlying38 ⟨rfl, by kernel_rfl⟩ ⟨rfl, by kernel_rfl⟩ hl ht hz
  obtain ⟨a, ha, -, wa⟩ := DataW.trod_int Try.underlying3 t0
  obtain ⟨b, hb', -, wb⟩ := DataW.trod_int Try.underlying3 t1
  simp only [List.cons.injEq, and_true] at ha hb'
  subst ha hb'
  exact ⟨(a, b), rfl, trivial⟩
end
end Go.Proofs.Ytibogmoemohngaa
