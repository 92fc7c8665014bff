/- The contract of check.Same. -/
import Derived.Test.YtmahnlkbbpbeoaaSame2
import Derived.Test.YtmahnlkbbpbeoaaDiffA1
namespace Go.Proofs.Ytmahnlkbbpbeoaa
open Go.RowKit Go.Maps Go.ChangeMaps

theorem right_stray {l : Bytes} (h : checkL l = []) (k : Nat) (hk : k < 40) (hE : hasE (rawE l k) = true) : strayE l.length (rawE l k) = false := by
  cases hs : strayE l.length (rawE l k) with
  | false => rfl
  | true =>
    have : (⟨1, k + 1⟩ : Flt) ∈ checkL l := mem_checkL.2 (.inl ⟨k, hk, by unfold kindH; rw [hE, hs]; simp, by unfold kindH; rw [hE, hs]; simp⟩)
    rw [h] at this; cases this
theorem obj_any (A : Option Addr) (n c : Nat) (l : Bytes) (k : Nat) (w : World) (hn : l.length = n) (hr : rightB n = true) (hnc : n ≤ c) (hrd : Rd w A l) (hk : k < 40) (h0 : checkL l = []) :
    Calls Try.prog 37 #[.slice A n c, .int .i64 ((k : Int) + 1)] w fun e w' => ∃ A' n' c', e = .returned (.slice A' n' c') ∧ (objL l k).length = n' ∧ n' ≤ 70000 ∧ Rd w' A' (objL l k) ∧ Below w.heap.size w w' := by
  unfold objL
  cases hE : hasE (rawE l k) with
  | false =>
    refine (obj_none A n c l k w hn hr hnc hrd hk hE).mono ?_
    rintro e w' ⟨rfl, hb⟩
    exact ⟨none, 0, 0, rfl, by simp, by omega, by simpa using Rd.nil_, hb⟩
  | true =>
    have hs := right_stray h0 k hk hE
    rw [hn] at hs
    refine (obj_some A n c l k w hn hr hnc hrd hk hE hs).mono ?_
    rintro e w' ⟨g, cap, rfl, hg, hrd', hb⟩
    have hst := strayE_false hs
    have hl : (objB l (rawE l k)).length = rLen (rawE l k) + 1 := by unfold objB; simp; omega
    exact ⟨_, _, _, rfl, by simpa using hl, by omega, by simpa using hrd', hb⟩

theorem same_e3 (A B : Option Addr) (n m c d : Nat) (w : World) (hr : rightB n = false ∨ rightB m = false) :
    Calls Try.prog 10 #[.slice A n c, .slice B m d] w fun e w' => e = .returned (.tuple #[.bool false, .iface 80 (.int .i64 3)]) ∧ Below w.heap.size w w' := by
  cases h1 : rightB n with
  | false =>
    clear hr
    go_enter Try.func10, Try.ntmps10
    go_wp2_with fail
    refine (right_any _ _).mono ?_
    rintro e w1 ⟨rfl, rfl⟩
    rw [h1]
    go_wp2_with fail
    go_ret2
    exact ⟨rfl, Below.refl _ _⟩
  | true =>
    have h2 : rightB m = false := by rcases hr with h | h; rw [h1] at h; cases h; exact h
    clear hr
    go_enter Try.func10, Try.ntmps10
    go_wp2_with fail
    refine (right_any _ _).mono ?_
    rintro e w1 ⟨rfl, rfl⟩
    rw [h1]
    go_wp2_with fail
    refine (right_any _ _).mono ?_
    rintro e w1 ⟨rfl, rfl⟩
    rw [h2]
    go_wp2_with fail
    go_ret2
    exact ⟨rfl, Below.refl _ _⟩
theorem str_sameKey (a b : Bytes) : (strL a).sameKey (strL b) = decide (a = b) := by
  by_cases h : a = b
  · subst h
    simp [WideAt.sameKey_self (show WideAt.IsKeyLit (strL a) from trivial)]
  · rw [decide_eq_false h]
    exact sameKey_ne (fun e => h (strL_inj _ _ e))
theorem zero_int (w : World) : (zeroValue 3).run Try.prog w = .ok (.int .i64 0) w := by kernel_rfl
set_option maxRecDepth 100000 in
theorem same_ok (A B : Option Addr) (n m c d : Nat) (a b : Bytes) (w : World) (hn : a.length = n) (hm : b.length = m) (hr : rightB n = true) (hrm : rightB m = true) (hnc : n ≤ c) (hmd : m ≤ d) (ra : Rd w A a) (rb : Rd w B b) (h0 : checkL a = []) (h1 : checkL b = []) :
    Calls Try.prog 10 #[.slice A n c, .slice B m d] w fun e w' => e = .returned (.tuple #[.bool (sameB a b), .nilIface]) ∧ Below w.heap.size w w' := by
  have C1 : Hidden (∀ W, Below w.heap.size w W → Calls Try.prog 35 #[.slice A n c] W fun e w' => e = .returned .nilIface ∧ Below W.heap.size W w') := ⟨fun W hW => fine_t A n c a W hn hr hnc (ra.below hW) h0⟩
  have C2 : Hidden (∀ W, Below w.heap.size w W → Calls Try.prog 35 #[.slice B m d] W fun e w' => e = .returned .nilIface ∧ Below W.heap.size W w') := ⟨fun W hW => fine_t B m d b W hm hrm hmd (rb.below hW) h1⟩
  have C3 : Hidden (∀ k : Nat, k < 40 → ∀ W, Below w.heap.size w W → Calls Try.prog 37 #[.slice A n c, .int .i64 ((k : Int) + 1)] W fun e w' => ∃ A' n' c', e = .returned (.slice A' n' c') ∧ (objL a k).length = n' ∧ n' ≤ 70000 ∧ Rd w' A' (objL a k) ∧ Below W.heap.size W w') := ⟨fun k hk W hW => obj_any A n c a k W hn hr hnc (ra.below hW) hk h0⟩
  have C4 : Hidden (∀ k : Nat, k < 40 → ∀ W, Below w.heap.size w W → Calls Try.prog 37 #[.slice B m d, .int .i64 ((k : Int) + 1)] W fun e w' => ∃ A' n' c', e = .returned (.slice A' n' c') ∧ (objL b k).length = n' ∧ n' ≤ 70000 ∧ Rd w' A' (objL b k) ∧ Below W.heap.size W w') := ⟨fun k hk W hW => obj_any B m d b k W hm hrm hmd (rb.below hW) hk h1⟩
  have C5 : Hidden (∀ W, Below w.heap.size w W → Calls Try.prog 38 #[.slice A n c] W fun e w' => ∃ b, e = .returned (.map (some b)) ∧ W.heap.size ≤ b ∧ IM Try.prog 9 strL w' b (leadF (rootsL a)) (leadC (rootsL a)) ∧ Below W.heap.size W w') := ⟨fun W hW => leads_ok A n c a W hn hr hnc (ra.below hW)⟩
  have C6 : Hidden (∀ W, Below w.heap.size w W → Calls Try.prog 38 #[.slice B m d] W fun e w' => ∃ q, e = .returned (.map (some q)) ∧ W.heap.size ≤ q ∧ IM Try.prog 9 strL w' q (leadF (rootsL b)) (leadC (rootsL b)) ∧ Below W.heap.size W w') := ⟨fun W hW => leads_ok B m d b W hm hrm hmd (rb.below hW)⟩
  have HR := Hidden.mk (And.intro hr hrm)
  clear ra rb h0 h1 hn hm hr hrm
  go_enter Try.func10, Try.ntmps10
  go_wp2_with fail
  refine (right_any _ _).mono ?_
  rintro e w1 ⟨rfl, rfl⟩
  rw [HR.out.1]
  go_wp2_with fail
  refine (right_any _ _).mono ?_
  rintro e w1 ⟨rfl, rfl⟩
  rw [HR.out.2]
  go_wp2_with fail
  have hal : Below w.heap.size w (w.alloc (.cells #[.slice A n c, .slice B m d] 22)) := (Below.refl _ _).alloc (Nat.le_refl _) _
  have hbk : (w.alloc (.cells #[.slice A n c, .slice B m d] 22)).heap[w.heap.size]? = some (.cells #[.slice A n c, .slice B m d] 22 (0, 0)) := heap_alloc_new w _
  generalize w.alloc (.cells #[.slice A n c, .slice B m d] 22) = w0 at *
  have H0 := Hidden.mk (And.intro hal hbk)
  clear hal hbk
  go_loopg [29] 2 (fun q i wr => ∃ k : Nat, k ≤ 2 ∧ q = 2 - k ∧ i = .int .i64 (k : Int) ∧ Hidden (Below w.heap.size w wr ∧ wr.heap[w.heap.size]? = some (.cells #[.slice A n c, .slice B m d] 22 (0, 0))))
  case atStart => exact ⟨0, by omega, rfl, rfl, H0⟩
  case round =>
    obtain ⟨k, hk, rfl, rfl, hst⟩ := hrel
    by_cases hlt : k < 2
    · have hbk := hst.out.2
      have y0 : wr.cell? ⟨w.heap.size, 0, none⟩ = some (.slice A n c) := by simp [World.cell?, hbk]
      have y1 : wr.cell? ⟨w.heap.size, 1, none⟩ = some (.slice B m d) := by simp [World.cell?, hbk]
      have hw0 : w.heap.size < wr.heap.size := (Array.getElem?_eq_some_iff.1 hbk).1
      clear hbk
      rcases (show k = 0 ∨ k = 1 by omega) with rfl | rfl
      · clear y1
        go_wp2_with fail
        refine (C1.out _ hst.out.1).mono ?_
        rintro e w2 ⟨rfl, hb⟩
        have hst2 := Hidden.mk (And.intro (hst.out.1.trans (hb.mono hst.out.1.size)) ((hb.block _ hw0).trans hst.out.2))
        clear hb hst y0 hw0
        go_wp2_with fail
        go_roundg 1
        case measure => omega
        case rel => exact ⟨1, by omega, rfl, by go_num, hst2⟩
      · clear y0
        go_wp2_with fail
        refine (C2.out _ hst.out.1).mono ?_
        rintro e w2 ⟨rfl, hb⟩
        have hst2 := Hidden.mk (And.intro (hst.out.1.trans (hb.mono hst.out.1.size)) ((hb.block _ hw0).trans hst.out.2))
        clear hb hst y1 hw0
        go_wp2_with fail
        go_roundg 0
        case measure => omega
        case rel => exact ⟨2, by omega, rfl, by go_num, hst2⟩
    · obtain rfl : k = 2 := by omega
      have HB := Hidden.mk hst.out.1
      clear hst H0 C1 C2
      go_wp2_with fail
      go_loopg [9] 40 (fun q i wr => ∃ k : Nat, k ≤ 40 ∧ q = 40 - k ∧ i = .int .i64 ((k : Int) + 1) ∧ Hidden (Below w.heap.size w wr ∧ ∀ j, j < k → objL a j = objL b j))
      case atStart => exact ⟨0, by omega, rfl, rfl, ⟨HB.out, fun j hj => by omega⟩⟩
      case round =>
        obtain ⟨k, hk, rfl, rfl, hst⟩ := hrel
        by_cases hlt : k < 40
        · have k0 : ((k : Int) + 1) ≤ 40 := by omega
          have s1 : IntKind.i64.wrap ((k : Int) + 1 + 1) = (k : Int) + 1 + 1 := IntWalk.i64_in _ (by omega)
          have G3 := Hidden.mk (C3.out k hlt _ hst.out.1)
          have G4 := Hidden.mk (C4.out k hlt)
          have HF : Hidden (objL a k ≠ objL b k → sameB a b = false) := ⟨objsB_false hlt⟩
          have HT : Hidden (objL a k = objL b k → ∀ j, j < k + 1 → objL a j = objL b j) := ⟨fun he j hj => by
            rcases Nat.lt_succ_iff_lt_or_eq.1 hj with h | h
            · exact hst.out.2 j h
            · rw [h]; exact he⟩
          generalize objL a k = oa at *
          generalize objL b k = ob at *
          clear C3 C4
          go_wp2_with fail
          refine G3.out.mono ?_
          rintro e w2 ⟨A2, n2, c2, rfl, hl2, hs2, hr2, hb2⟩
          have hB2 := hst.out.1.trans (hb2.mono hst.out.1.size)
          have K2 := Hidden.mk (And.intro hl2 (And.intro hr2 hB2))
          clear hl2 hr2 hB2 hb2
          go_wp2_with fail
          refine (G4.out _ K2.out.2.2).mono ?_
          rintro e w3 ⟨A3, n3, c3, rfl, hl3, hs3, hr3, hb3⟩
          have hB3 := K2.out.2.2.trans (hb3.mono K2.out.2.2.size)
          have K3 := Hidden.mk (And.intro hl3 (And.intro hr3 (And.intro (K2.out.2.1.below hb3) hB3)))
          clear hl3 hr3 hB3 hb3
          go_wp2_with fail
          refine (equal_any A2 A3 n2 n3 c2 c3 oa ob _ K2.out.1 K3.out.1 K3.out.2.2.1 K3.out.2.1).mono ?_
          rintro e w4 ⟨rfl, rfl⟩
          cases he : (oa == ob) with
          | true =>
            have hst2 := Hidden.mk (And.intro K3.out.2.2.2 (HT.out (by simpa using he)))
            clear he G3 G4 HF HT K2 K3 hst
            go_wp2_with fail
            go_roundg (40 - (k + 1))
            case measure => omega
            case rel => exact ⟨k + 1, by omega, rfl, by go_num, hst2⟩
          | false =>
            have HFF := Hidden.mk (HF.out (by simpa using he))
            clear he G3 G4 HF HT K2 hst
            go_wp2_with fail
            go_ret2
            exact ⟨by rw [HFF.out]; rfl, K3.out.2.2.2⟩
        · obtain rfl : k = 40 := by omega
          have HOB : Hidden (sameB a b = leadsB (rootsL a) (rootsL b)) := ⟨by unfold sameB; rw [objsB_true hst.out.2]; rfl⟩
          have HB := Hidden.mk hst.out.1
          clear hst C3 C4
          go_wp2_with fail
          refine (C5.out _ HB.out).mono ?_
          rintro e w2 ⟨q1, rfl, hq1, him1, hb2⟩
          have hB2 := HB.out.trans (hb2.mono HB.out.size)
          have H2 := Hidden.mk (And.intro him1 (And.intro hB2 hq1))
          clear him1 hB2 hb2 hq1
          go_wp2_with fail
          refine (C6.out _ H2.out.2.1).mono ?_
          rintro e w3 ⟨q2, rfl, hq2, him2, hb3⟩
          have hB3 := H2.out.2.1.trans (hb3.mono H2.out.2.1.size)
          have him1 := H2.out.1.block (hb3.block _ H2.out.1.lt)
          have hqn : q1 ≠ q2 := by have := H2.out.1.lt; omega
          have hq1l := H2.out.2.2
          have hq2l := him2.lt
          obtain ⟨Dm, hown, hms, hhas⟩ := him1
          have HI2 := Hidden.mk him2
          have HHAS := Hidden.mk hhas
          have HMS := Hidden.mk hms
          have HB3 := Hidden.mk hB3
          have HQ := Hidden.mk (And.intro hqn (And.intro hq1l hq2))
          have HC1 : Hidden (leadC (rootsL a) ≤ 8) := ⟨Nat.le_trans (leadC_le _) (rootsF_len _ _)⟩
          have HC2 : Hidden (leadC (rootsL b) ≤ 8) := ⟨Nat.le_trans (leadC_le _) (rootsF_len _ _)⟩
          have HN : Hidden (∀ x ∈ rootsL a, x.1.length ≤ 8) := ⟨fun x hx => rootP_len _ _ x hx⟩
          have HLB : Hidden (leadsB (rootsL a) (rootsL b) = (((rootsL a).all fun p => (leadN (rootsL b) p.1).getD 0 == (leadN (rootsL a) p.1).getD 0) && leadC (rootsL a) == leadC (rootsL b))) := ⟨rfl⟩
          generalize rootsL a = La at *
          generalize rootsL b = Lb at *
          generalize hc1 : leadC La = k1 at *
          generalize hc2 : leadC Lb = k2 at *
          have HK1 := Hidden.mk hc1
          have HK2 := Hidden.mk hc2
          clear hb3 H2 him2 hhas hms hB3 hqn hq1l hq2 hq2l hc1 hc2 C5 C6
          go_wp2_with (at_range; refine wpList_range_own _ rfl _ 85 rfl 9 3 str_keyed Try.underlying85 heldR q1 k1 Dm rfl hown ?_; intro w4 hrg4 hg4 hs4)
          go_frame
          generalize hr : w3.heap.size = r at *
          have hB4 : Below w.heap.size w w4 := HB3.out.grown hg4 HB3.out.size (fun q hq => by cases hq)
          have hI4 : IM Try.prog 9 strL w4 q2 (leadF Lb) k2 := HI2.out.block (hg4.block _ HI2.out.lt (by simp))
          have HR : Hidden (w3.heap.size = r ∧ q2 < w3.heap.size) := ⟨hr, HI2.out.lt⟩
          have HI4 := Hidden.mk (And.intro hB4 hI4)
          clear hB4 hI4 hr hown hg4 hs4
          go_loopg [] (Maps.size Dm) (fun m wr => ∃ left : Lit → Bool, wr.ranges Try.prog 9 heldR q1 r k1 Dm left m ∧ Hidden (Below w.heap.size w wr ∧ IM Try.prog 9 strL wr q2 (leadF Lb) k2 ∧ (∀ l, left l = true → Maps.has Dm l = true) ∧ ∀ s h, leadN La s = some h → left (strL s) = false → (leadN Lb s).getD 0 = h))
          case atStart =>
            refine ⟨_, hrg4, ⟨HI4.out.1, HI4.out.2, fun _ h => h, fun s h hs hl => ?_⟩⟩
            have := ((HHAS.out.1 s).2 (.int .i64 h) (by unfold leadF; rw [hs]; rfl)).1
            rw [this] at hl; cases hl
          case round =>
            obtain ⟨left, hrg, hst⟩ := hrel
            clear hrg4 HI4
            go_wp2_with (at_next; refine wpList_next_ranges _ rfl _ rfl 9 str_keyed heldR sv (fun v => v) (fun key kl hkey => (by obtain ⟨x, hx, _⟩ := Go.WideMaps.string_of_keyOf Try.underlying9 hkey; exact ⟨x.data.toList, by rw [hx]⟩)) (fun v y _ => ⟨v, rfl⟩) q1 r k1 Dm left _ rfl hrg ?_ ?_)
            · intro hc0 hl0
              have hall : (La.all fun p => (leadN Lb p.1).getD 0 == (leadN La p.1).getD 0) = true := by
                rw [List.all_eq_true]
                intro p hp
                obtain ⟨h, hh⟩ := Option.isSome_iff_exists.1 (leadN_has hp)
                rw [hst.out.2.2.2 p.1 h hh (hl0 _), hh]; simp
              have HF : Hidden (sameB a b = (k1 == k2)) := ⟨by rw [HOB.out, HLB.out, hall]; rfl⟩
              have h1 := IM.len_ (P := Try.prog) (K := 9) (T := 85) (E := 3) (kl := strL) (w := wr) (b := q1) (f := leadF La) (cnt := k1) ⟨Dm, hrg.owns, HMS.out, HHAS.out⟩ Try.underlying85
              have h2 := IM.len_ (T := 85) hst.out.2.1 Try.underlying85
              have HBQ : Hidden (((k1 : Int) == (k2 : Int)) = (k1 == k2)) := ⟨by rw [Bool.eq_iff_iff]; simp; omega⟩
              clear hrg hc0 hl0 hall
              go_wp2_with fail
              go_ret2
              exact ⟨by rw [HF.out, ← HBQ.out]; rfl, hst.out.1⟩
            · intro x c kl y y2 w5 cnt5 hkey hlk hy hat hrg5 hlt5 hg5 hs5 hen
              obtain ⟨s, rfl, hfk⟩ := HHAS.out.2 kl (hst.out.2.2.1 kl hlk)
              obtain ⟨s', es, el, _⟩ := Go.WideMaps.string_of_keyOf Try.underlying9 hkey
              have hxs : x = s := by
                unfold sv at es
                unfold strL at el
                injection es with es
                injection el with el
                rw [el, ← es]
              subst hxs
              rw [leadF_isSome] at hfk
              obtain ⟨h, hh⟩ := Option.isSome_iff_exists.1 hfk
              have hch : c = .int .i64 (h : Int) := by
                have ha := ((HHAS.out.1 x).2 _ (show leadF La x = some (.int .i64 (h : Int)) by unfold leadF; rw [hh]; rfl)).2 (.held c)
                rw [hat] at ha
                unfold heldR at hy
                rw [← (Prod.mk.inj (Option.some.inj hy)).1] at ha
                simpa using ha
              subst hch
              have hx8 : x.length ≤ 8 := HN.out _ (leadN_mem hh)
              have him5 := hst.out.2.1.block (hg5.block _ hst.out.2.1.lt (fun e => by obtain ⟨h1, h2⟩ := HR.out; have := Option.some.inj e; omega))
              have hlook : (Instr.lookup 85 (.map (some q2)) (sv x) false).run Try.prog w5 = .ok (.int .i64 (((leadN Lb x).getD 0 : Nat) : Int)) w5 := by
                cases hb : leadN Lb x with
                | none => exact (him5.look_none str_keyed (T := 85) Try.underlying85 (zero_int w5) (str_key (s := x) (by omega)) (by unfold leadF; rw [hb]; rfl)).2
                | some h' => exact (him5.look_some str_keyed (T := 85) Try.underlying85 (zero_int w5) (str_key (s := x) (by omega)) (by unfold leadF; rw [hb]; rfl)).2
              have hB5 : Below w.heap.size w w5 := hst.out.1.grown hg5 hst.out.1.size (fun q hq => by obtain ⟨h1, h2⟩ := HR.out; have := HB3.out.size; have := Option.some.inj hq; omega)
              have HNEXT : Hidden ((leadN Lb x).getD 0 = h → w5.ranges Try.prog 9 heldR q1 r k1 Dm (fun z => left z && !z.sameKey (strL x)) cnt5 ∧ Hidden (Below w.heap.size w w5 ∧ IM Try.prog 9 strL w5 q2 (leadF Lb) k2 ∧ (∀ l, (left l && !l.sameKey (strL x)) = true → Maps.has Dm l = true) ∧ ∀ s h, leadN La s = some h → (left (strL s) && !(strL s).sameKey (strL x)) = false → (leadN Lb s).getD 0 = h)) := ⟨fun he => ⟨hrg5, ⟨hB5, him5, fun l hl => hst.out.2.2.1 l (by simp only [Bool.and_eq_true] at hl; exact hl.1), fun s2 h2 hs2 hl2 => by
                rw [str_sameKey] at hl2
                by_cases hsx : s2 = x
                · subst hsx; rw [hs2] at hh; rw [Option.some.inj hh]; exact he
                · exact hst.out.2.2.2 s2 h2 hs2 (by simpa [hsx] using hl2)⟩⟩⟩
              have HBAD : Hidden ((leadN Lb x).getD 0 ≠ h → sameB a b = false) := ⟨fun he => by
                rw [HOB.out, HLB.out, Bool.and_eq_false_iff]
                left
                rw [List.all_eq_false]
                exact ⟨(x, h), leadN_mem hh, by rw [hh]; simpa using he⟩⟩
              have HB5 := Hidden.mk hB5
              have HLT := Hidden.mk hlt5
              generalize (leadN Lb x).getD 0 = g at *
              by_cases hgh : g = h
              · subst hgh
                have HN := Hidden.mk (HNEXT.out rfl)
                clear hrg hkey hlk hy hat hrg5 hlt5 hg5 hs5 hfk hh hx8 him5 hB5 HNEXT HBAD hst HHAS es el
                go_wp2_with fail
                go_roundg cnt5
                case measure => exact HLT.out
                case rel => exact ⟨_, HN.out⟩
              · have HF := Hidden.mk (HBAD.out hgh)
                have t1 : (((g : Nat) : Int) == (h : Int)) = false := by simp; omega
                have t2 : (((g : Nat) : Int) != (h : Int)) = true := by simp; omega
                clear hrg hkey hlk hy hat hrg5 hlt5 hg5 hs5 hfk hh hx8 him5 hB5 HNEXT HBAD hst HHAS es el
                go_wp2_with fail
                go_ret2
                exact ⟨by rw [HF.out]; rfl, HB5.out⟩
end Go.Proofs.Ytmahnlkbbpbeoaa
