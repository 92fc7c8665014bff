/- ExtentHolds: the walk. -/
import Derived.Test.YtibogmoemohngaaExtP
import Derived.Deep.DeepCutAuto
import Derived.Deep.CutBlock
namespace Go.Proofs.Ytibogmoemohngaa
open Go.RowKit

def longX (at_ : Int) (H : List Ext) : Int := H.foldl (fun s h => if h.1 = at_ then h.2 else s) 0
theorem longX_succ (at_ : Int) (H : List Ext) (k : Nat) (hk : k < H.length) : longX at_ (H.take (k + 1)) = if H[k].1 = at_ then H[k].2 else longX at_ (H.take k) := by
  unfold longX; rw [List.take_succ_eq_append_getElem hk, List.foldl_append]; rfl
theorem longX_eq (at_ L : Int) (H : List Ext) (hm : (at_, L) ∈ H) (hall : ∀ x ∈ H, x.1 = at_ → x.2 = L) : longX at_ H = L := by
  have h : ∀ (H : List Ext), (∀ x ∈ H, x.1 = at_ → x.2 = L) → (longX at_ H = L ∨ ∀ x ∈ H, x.1 ≠ at_) := fun H => by
    induction H using snocE with
    | h0 => intro _; exact .inr (fun x hx => by cases hx)
    | h1 T x ih =>
      intro hall
      have e : longX at_ (T ++ [x]) = if x.1 = at_ then x.2 else longX at_ T := by unfold longX; rw [List.foldl_append]; rfl
      rw [e]
      by_cases hx : x.1 = at_
      · rw [if_pos hx]; exact .inl (hall x (by simp) hx)
      · rw [if_neg hx]
        rcases ih (fun y hy => hall y (List.mem_append_left _ hy)) with h | h
        · exact .inl h
        · refine .inr (fun y hy => ?_)
          rcases List.mem_append.1 hy with hy | hy
          · exact h y hy
          · rw [List.mem_singleton.1 hy]; exact hx
  rcases h H hall with h | h
  · exact h
  · exact absurd rfl (h _ hm)
theorem factE : fitE 10 [(2, 3)] 2 = 0 := by kernel_rfl
theorem factA : fitA 10 [(2, 3)] 2 = 0 := by kernel_rfl
theorem rdX_one (w : World) (a b : Int) (t : TypeId) : RdX tcells 2 (w.alloc (.cells #[.int .i64 a, .int .i64 b] t)) (some ⟨w.heap.size, 0, none⟩) [(a, b)] := fun i hi => by
  have hi0 : i = 0 := by simpa using hi
  subst hi0
  refine ⟨w.heap.size, 0, rfl, fun q u hq => ?_⟩
  have e := heap_alloc_new w (.cells #[.int .i64 a, .int .i64 b] t)
  match q, hq with
  | 0, hq => simp only [World.cell?]; rw [e]; exact hq
  | 1, hq => simp only [World.cell?]; rw [e]; exact hq
set_option maxRecDepth 100000 in
set_option maxHeartbeats 2000000 in
theorem extentHolds_walk (n : Int) (A : Option Addr) (m c : Nat) (l : List Ext) (size : Int) (w : World) (hl : l.length = m) (hmc : m ≤ c) (hr : RdX tcells 2 w A l) :
    Calls Try.prog 4 #[.int .i64 n, .slice A m c, .int .i64 size] w fun e w' => e = .returned (.bool true) ∧ Below w.heap.size w w' := by
  have B := Hidden.mk (Bel.mk (Below.refl w.heap.size w))
  have R := Hidden.mk hr
  have HL := Hidden.mk hl
  clear hr hl
  go_enter Try.func4, Try.ntmps4
  go_wp2_with fail
  have HF := Hidden.mk (xfit_any 10 (some ⟨(w).heap.size, 0, none⟩) 1 1 [(2, 3)] 2 _ rfl (by omega) (rdX_one (w) 2 3 38))
  have hb_ := (Below.refl (w).heap.size (w)).alloc (Nat.le_refl _) (.cells #[.int .i64 2, .int .i64 3] 38)
  replace B := Hidden.mk (B.out.below hb_)
  replace R := Hidden.mk (R.out.below hb_)
  clear hb_
  rw [factE, factA, show errV 0 = Value.nilIface from rfl] at HF
  generalize (w).alloc (.cells #[.int .i64 2, .int .i64 3] 38) = w0 at *
  refine HF.out.mono ?_
  rintro e w1 ⟨rfl, hb⟩
  have hb_ := hb
  replace B := Hidden.mk (B.out.below hb_)
  replace R := Hidden.mk (R.out.below hb_)
  clear hb_
  clear hb HF
  have HIN := Hidden.mk extent_info
  by_cases h0 : chkX n l = 0
  · obtain ⟨o0, o1, o2, o3, -⟩ := chkX_ok h0
    have H0 := Hidden.mk h0
    have hHl := holesX_len n l
    have C1 := Hidden.mk (fun W hW => xfrees_any n A m c l W HL.out hmc hW)
    have C2 := Hidden.mk (fun W hW => xfit_any n A m c l size W HL.out hmc hW)
    have hfl : freesL n l = holesX n l := by unfold freesL; rw [if_pos h0]
    rw [h0, hfl, show errV 0 = Value.nilIface from rfl] at C1
    have HSUM := Hidden.mk (holds_sum h0)
    have HMEM := Hidden.mk (holes_mem h0)
    have HCHK := Hidden.mk (holds_chk h0)
    have HNONE : Hidden (fitE n l size ≠ 0 → ∀ x ∈ holesX n l, 1 ≤ size → x.2 < size) := ⟨fit_none h0⟩
    have HSOME : Hidden (fitE n l size = 0 → ∃ L, (fitA n l size, L) ∈ holesX n l ∧ 1 ≤ size ∧ size ≤ L ∧ (∀ x ∈ holesX n l, size ≤ x.2 → L ≤ x.2) ∧ (∀ x ∈ holesX n l, x.1 = fitA n l size → x.2 = L)) := ⟨fit_some h0⟩
    have HMORE : Hidden (∀ at_ L, (at_, L) ∈ holesX n l → 1 ≤ size → size ≤ L → l.length + 1 ≤ 200 → chkX n (l ++ [(at_, size)]) = 0) := ⟨fun at_ L hm h1 h2 h3 => (more_chk h0 hm h1 h2 h3).1⟩
    have HOK := Hidden.mk o3
    generalize holesX n l = H at *
    generalize fitE n l size = fe at *
    generalize fitA n l size = fa at *
    clear h0 hfl o3
    go_wp2_with fail
    refine (C1.out _ R.out).mono ?_
    rintro e w_1 ⟨v, rfl, hown, hb⟩
    replace B := Hidden.mk (B.out.below hb)
    replace R := Hidden.mk (R.out.below hb)
    clear hb
    obtain ⟨A2, c2, rfl, hc2, -⟩ := own_split hown
    have O := Hidden.mk (OwnR.mk hown)
    clear hown C1
    generalize hHL : H.length = hl at *
    have HHL := Hidden.mk hHL
    clear hHL
    have hml : m ≤ 200 := by have := HL.out; omega
    obtain ⟨i0, hi0, hz0, hz1, hz2⟩ := info_parts HIN.out
    go_wp2_with (first | (at_builtin; refine wpList_append_src _ rfl (.tmp 44) (.tmp 45) _ rfl (w_1).heap.size 38 i0 _ 2 16 Try.underlying34 hi0 hz0 hz1 hz2 rfl (by decide) (.slice none 0 0) 0 [] rfl (World.ownsRow_nil _ _ _ _) A m c (l.flatMap tcells) rfl (Src.of_rdX tcells_len (by omega) HL.out R.out) (tcells_one l) (by simp only [maxLen]; omega) (by omega) (Nat.le_refl _) ?_; intro v8 w8 hown8 hg8 hat8; have hB8 := (Below.refl _ _).grown hg8 (Nat.le_refl _) (fun k hk => by simp [Value.ownBlock] at hk)) | (at_builtin; refine wpList_append_src _ rfl (.tmp 47) (.tmp 48) _ rfl (w_1).heap.size 38 i0 _ 2 16 Try.underlying34 hi0 hz0 hz1 hz2 rfl (by decide) v8 m (l.flatMap tcells) rfl (by simpa using hown8) A2 hl c2 (H.flatMap tcells) rfl (Src.of_rdX tcells_len (by omega) HHL.out (own_rdX3 tcells_len HHL.out (O.out.below hB8).own)) (tcells_one H) (by simp only [maxLen]; omega) (by omega) hB8.size ?_; intro v9 w9 hown9 hg9 hat9; have hB9 := hB8.grown hg9 hB8.size (fun k hk => ((show w8.ownsRow _ _ _ v8 m (l.flatMap tcells) by simpa using hown8).lt k hk).1)))
    have hoA : w9.ownsRow w_1.heap.size 38 2 v9 (m + hl) ((l ++ H).flatMap tcells) := by simpa using hown9
    obtain ⟨A9, c9, rfl, hc9, -⟩ := own_split hoA
    have QA := Hidden.mk (OwnR.mk hoA)
    have HAL : Hidden ((l ++ H).length = m + hl) := ⟨by rw [List.length_append, HL.out, HHL.out]⟩
    have HAS : Hidden (sumX (l ++ H) = n) := ⟨by rw [sumX_append]; exact HSUM.out⟩
    have HAO : Hidden (OkX (l ++ H)) := ⟨fun x hx => by
      rcases List.mem_append.1 hx with h | h
      · exact HOK.out x h
      · have := HMEM.out x h; omega⟩
    have hb_ := hB9
    replace B := Hidden.mk (B.out.below hb_)
    replace R := Hidden.mk (R.out.below hb_)
    replace O := Hidden.mk (O.out.below hb_)
    clear hb_
    generalize l ++ H = T at *
    clear hown8 hg8 hat8 hB8 hown9 hg9 hat9 hB9 hoA hi0 hz0 hz1 hz2
    go_wp2_with fail
    go_loopg [12, 13] (m + hl) (fun q s i wr => ∃ (k : Nat) (u : Int), k ≤ m + hl ∧ q = m + hl - k ∧ i = .int .i64 (k : Int) ∧ s = .int .i64 u ∧ 0 ≤ u ∧ u ≤ 6400 * k ∧ w9 = wr ∧ Hidden (sumX (T.take k) = u))
    case atStart => exact ⟨0, 0, by omega, rfl, rfl, rfl, by omega, by omega, rfl, ⟨rfl⟩⟩
    case round =>
      obtain ⟨k, u, hk, rfl, rfl, rfl, hu0, hu1, rfl, hst⟩ := hrel
      by_cases hlt : k < m + hl
      · have hkT : k < T.length := by have := HAL.out; omega
        obtain ⟨g, off, hA, hgb, hgl, hcx⟩ := own_at tcells_len QA.out.own k hkT (by omega)
        subst hA
        have c1 := hcx 1 _ rfl
        have HS := Hidden.mk (sumX_succ T k hkT)
        rw [hst.out] at HS
        have hb := HAO.out T[k] (List.getElem_mem hkT)
        generalize T[k] = e at *
        obtain ⟨e1, e2⟩ := e
        dsimp only at c1 HS hb
        obtain ⟨b0, b1, b2⟩ := hb
        have s1 : IntKind.i64.wrap (u + e2) = u + e2 := IntWalk.i64_in _ (by omega)
        have s3 : IntKind.i64.wrap ((k : Int) + 1) = (k : Int) + 1 := IntWalk.i64_in _ (by omega)
        have k0 : (0 : Int) ≤ k := by omega
        have k1 : (k : Int) < ((m + hl : Nat) : Int) := by omega
        have k1' : (k : Int) < (m : Int) + hl := by omega
        have k2 : k < m + hl := hlt
        clear hcx hst
        go_wp2_with fail
        go_roundg (m + hl - (k + 1))
        case measure => omega
        case rel => exact ⟨k + 1, u + e2, by omega, rfl, by go_num, rfl, by omega, by omega, rfl, HS⟩
      · obtain rfl : k = m + hl := by omega
        have hsu := hst.out
        rw [List.take_of_length_le (by have := HAL.out; omega), HAS.out] at hsu
        subst hsu
        clear hst
        go_upto_region 15 with (fail)
        go_cut [76] (fun t wx => t = .bool false ∧ Hidden (Bel w wx ∧ RdX tcells 2 wx A l ∧ OwnR wx w1.heap.size 38 2 (.slice A2 hl c2) hl (H.flatMap tcells)))
        case first =>
          by_cases hq : m + hl ≤ 200
          · have HC0 : Hidden (chkX n T = 0) := ⟨HCHK.out (by rw [HAL.out]; exact hq)⟩
            have d1 : decide (m + hl ≤ 200) = true := by simpa using hq
            have d2 : decide ((m : Int) + hl ≤ 200) = true := by simp; omega
            have d3 : decide (((m + hl : Nat) : Int) ≤ 200) = true := by simp; omega
            have CK := Hidden.mk (xcheck_any n A9 (m + hl) c9 T w9 HAL.out hc9 (own_rdX3 tcells_len HAL.out QA.out.own))
            rw [HC0.out, show errV 0 = Value.nilIface from rfl] at CK
            clear hq
            go_wp2_with fail
            refine CK.out.mono ?_
            rintro e wx ⟨rfl, hb⟩
            have HN := Hidden.mk (And.intro (B.out.below hb) (And.intro (R.out.below hb) (O.out.below hb)))
            clear hb
            go_wp2_with fail
            go_meet
            exact ⟨rfl, HN⟩
          · have d1 : decide (m + hl ≤ 200) = false := by simpa using hq
            have d2 : decide ((m : Int) + hl ≤ 200) = false := by simp; omega
            have d3 : decide (((m + hl : Nat) : Int) ≤ 200) = false := by simp; omega
            have HN := Hidden.mk (And.intro B.out (And.intro R.out O.out))
            clear hq
            go_wp2_with fail
            go_meet
            exact ⟨rfl, HN⟩
        case rest =>
          obtain ⟨rfl, hst⟩ := hcut
          clear B R O
          have B := Hidden.mk hst.out.1
          have R := Hidden.mk hst.out.2.1
          have O := Hidden.mk hst.out.2.2
          clear hst QA HCHK HAL HAS HAO HSUM
          by_cases hfe : fe = 0
          · subst hfe
            obtain ⟨L, m1, m2, m3, m4, m5⟩ := HSOME.out rfl
            have HLONG := Hidden.mk (longX_eq fa L H m1 m5)
            have HM := Hidden.mk (HMORE.out fa L m1 m2 m3)
            have HM4 := Hidden.mk m4
            rw [show errV 0 = Value.nilIface from rfl] at C2
            clear m1 m4 m5 HSOME HNONE HMORE
            go_wp2_with fail
            refine (C2.out _ R.out).mono ?_
            rintro e w_2 ⟨rfl, hb⟩
            replace B := Hidden.mk (B.out.below hb)
            replace R := Hidden.mk (R.out.below hb)
            replace O := Hidden.mk (O.out.below hb)
            clear hb
            clear C2
            go_wp2_with fail
            go_loopg [16, 17] hl (fun q s i wr => ∃ (k : Nat) (x : Int), k ≤ hl ∧ q = hl - k ∧ i = .int .i64 (k : Int) ∧ s = .int .i64 x ∧ w_2 = wr ∧ Hidden (longX fa (H.take k) = x))
            case atStart => exact ⟨0, 0, by omega, rfl, rfl, rfl, rfl, ⟨rfl⟩⟩
            case round =>
              obtain ⟨k, x, hk, rfl, rfl, rfl, rfl, hst⟩ := hrel
              by_cases hlt : k < hl
              · have hkH : k < H.length := by have := HHL.out; omega
                obtain ⟨g, off, hA, hgb, hgl, hcx⟩ := own_at tcells_len O.out.own k hkH (by omega)
                subst hA
                have c0 := hcx 0 _ rfl
                have c1 := hcx 1 _ rfl
                simp only [Nat.add_zero] at c0
                have HS := Hidden.mk (longX_succ fa H k hkH)
                rw [hst.out] at HS
                generalize H[k] = e at *
                obtain ⟨e1, e2⟩ := e
                dsimp only at c0 c1 HS
                have s3 : IntKind.i64.wrap ((k : Int) + 1) = (k : Int) + 1 := IntWalk.i64_in _ (by omega)
                have k0 : (0 : Int) ≤ k := by omega
                have k1 : (k : Int) < hl := by omega
                by_cases hq : e1 = fa
                · rw [if_pos hq] at HS
                  have t1 : (e1 == fa) = true := by simpa using hq
                  clear hq hcx hst
                  go_wp2_with fail
                  go_roundg (hl - (k + 1))
                  case measure => omega
                  case rel => exact ⟨k + 1, e2, by omega, rfl, by go_num, rfl, rfl, HS⟩
                · rw [if_neg hq] at HS
                  have t1 : (e1 == fa) = false := by simpa using hq
                  clear hq hcx hst
                  go_wp2_with fail
                  go_roundg (hl - (k + 1))
                  case measure => omega
                  case rel => exact ⟨k + 1, x, by omega, rfl, by go_num, rfl, rfl, HS⟩
              · obtain rfl : hl = k := by omega
                have hx := hst.out
                rw [List.take_of_length_le (by have := HHL.out; omega), HLONG.out] at hx
                subst hx
                clear hst HLONG
                go_wp2_with fail
                go_loopg [18] hl (fun q i wr => ∃ k : Nat, k ≤ hl ∧ q = hl - k ∧ i = .int .i64 (k : Int) ∧ w_2 = wr)
                case atStart => exact ⟨0, by omega, rfl, rfl, rfl⟩
                case round =>
                  obtain ⟨k, hk, rfl, rfl, rfl⟩ := hrel
                  by_cases hlt : k < hl
                  · have hkH : k < H.length := by have := HHL.out; omega
                    obtain ⟨g, off, hA, hgb, hgl, hcx⟩ := own_at tcells_len O.out.own k hkH (by omega)
                    subst hA
                    have c1 := hcx 1 _ rfl
                    have hm := HM4.out H[k] (List.getElem_mem hkH)
                    generalize H[k] = e at *
                    obtain ⟨e1, e2⟩ := e
                    dsimp only at c1 hm
                    have s3 : IntKind.i64.wrap ((k : Int) + 1) = (k : Int) + 1 := IntWalk.i64_in _ (by omega)
                    have k0 : (0 : Int) ≤ k := by omega
                    have k1 : (k : Int) < hl := by omega
                    by_cases hq : size ≤ e2
                    · have t1 : decide (size ≤ e2) = true := by simpa using hq
                      have t2 : decide (e2 < L) = false := by have := hm hq; simp; omega
                      clear hq hcx hm
                      go_wp2_with fail
                      go_roundg (hl - (k + 1))
                      case measure => omega
                      case rel => exact ⟨k + 1, by omega, rfl, by go_num, rfl⟩
                    · have t1 : decide (size ≤ e2) = false := by simpa using hq
                      clear hq hcx hm
                      go_wp2_with fail
                      go_roundg (hl - (k + 1))
                      case measure => omega
                      case rel => exact ⟨k + 1, by omega, rfl, by go_num, rfl⟩
                  · obtain rfl : hl = k := by omega
                    have t1 : decide (size ≤ L) = true := by simpa using m3
                    obtain ⟨i0, hi0, hz0, hz1, hz2⟩ := info_parts HIN.out
                    go_wp2_with (first | (at_builtin; refine wpList_append_src _ rfl (.tmp 143) (.tmp 144) _ rfl (w_2).heap.size 38 i0 _ 2 16 Try.underlying34 hi0 hz0 hz1 hz2 rfl (by decide) (.slice none 0 0) 0 [] rfl (World.ownsRow_nil _ _ _ _) A m c (l.flatMap tcells) rfl (Src.of_rdX tcells_len (by omega) HL.out R.out) (tcells_one l) (by simp only [maxLen]; omega) (by omega) (Nat.le_refl _) ?_; intro v18 w18 hown18 hg18 hat18; have hB18 := (Below.refl _ _).grown hg18 (Nat.le_refl _) (fun k hk => by simp [Value.ownBlock] at hk)) | (at_builtin; refine wpList_append_lies _ rfl (.tmp 146) (.tmp 150) _ rfl (w_2).heap.size 38 i0 _ 2 16 Try.underlying34 hi0 hz0 hz1 hz2 rfl (by decide) v18 m (l.flatMap tcells) rfl (own_below (show w18.ownsRow _ _ _ v18 m (l.flatMap tcells) by simpa using hown18) ((Below.refl _ _).alloc (Nat.le_refl _) _)) ⟨(w18).heap.size, 0, none⟩ 1 1 [.int .i64 fa, .int .i64 size] rfl rfl (World.news_of_block (cs := #[.int .i64 fa, .int .i64 size]) (t := 38) (fr := (0, 0)) (heap_alloc_new (w18) _)) (by simp [Value.oneCell']) (by omega) (by simp only [maxLen]; omega) (by omega) (by have := hB18.size; simp at this ⊢; omega) ((w18).heap.size + 1) (by simp) ?_; intro g19 cap19 w19 hown19 hg19 hat19 hlt19))
                    all_goals
                      have hgW := grown_trans' ((Below.refl w18.heap.size w18).alloc (Nat.le_refl _) _) hg19
                      have hown18' : w18.ownsRow (w_2).heap.size 38 2 v18 m (l.flatMap tcells) := by simpa using hown18
                      have hB19 : Below (w_2).heap.size (w_2) w19 := hB18.grown hgW hB18.size (fun q hq => (hown18'.lt q hq).1)
                      have hown19' : w19.ownsRow (w_2).heap.size 38 2 (.slice (some ⟨g19, 0, none⟩) (m + 1) cap19) (m + 1) ((l ++ [(fa, size)]).flatMap tcells) := by simpa [tcells] using hown19
                      have hc19 : m + 1 ≤ cap19 := by
                        obtain ⟨A', c', he, h1, _⟩ := own_split hown19'
                        injection he with _ _ he
                        omega
                      have hlen19 : (l ++ [(fa, size)]).length = m + 1 := by simp [HL.out]
                      have CK := Hidden.mk (fun (h : m + 1 ≤ 200) => (HM.out (by rw [HL.out]; exact h)) ▸ xcheck_any n (some ⟨g19, 0, none⟩) (m + 1) cap19 (l ++ [(fa, size)]) w19 hlen19 hc19 (own_rdX3 tcells_len hlen19 hown19'))
                      have BN := Hidden.mk (B.out.below hB19)
                      clear hgW hown18 hown18' hB18 hB19 hown19 hown19' hg18 hg19 hat18 hat19 hlt19 hc19 hlen19
                    · have CK := Hidden.mk (CK.out (by omega))
                      rw [show errV 0 = Value.nilIface from rfl] at CK
                      refine CK.out.mono ?_
                      rintro e wx ⟨rfl, hb⟩
                      have BN := Hidden.mk (BN.out.below hb)
                      clear hb
                      go_wp2_with fail
                      go_ret
                      exact ⟨rfl, BN.out.out⟩
                    · go_ret
                      exact ⟨rfl, BN.out.out⟩
          · skip
            have HN := Hidden.mk (HNONE.out hfe)
            have hev : errV fe = .iface 78 (.int .i64 fe) := by unfold errV; rw [if_neg hfe]
            rw [hev] at C2
            clear hev hfe
            go_wp2_with fail
            refine (C2.out _ R.out).mono ?_
            rintro e w_3 ⟨rfl, hb⟩
            replace B := Hidden.mk (B.out.below hb)
            replace R := Hidden.mk (R.out.below hb)
            replace O := Hidden.mk (O.out.below hb)
            clear hb
            clear C2
            go_wp2_with fail
            go_loopg [15] hl (fun q i wr => ∃ k : Nat, k ≤ hl ∧ q = hl - k ∧ i = .int .i64 (k : Int) ∧ w_3 = wr)
            case atStart => exact ⟨0, by omega, rfl, rfl, rfl⟩
            case round =>
              obtain ⟨k, hk, rfl, rfl, rfl⟩ := hrel
              by_cases hlt : k < hl
              · have hkH : k < H.length := by have := HHL.out; omega
                obtain ⟨g, off, hA, hgb, hgl, hcx⟩ := own_at tcells_len O.out.own k hkH (by omega)
                subst hA
                have c1 := hcx 1 _ rfl
                have hm := HN.out H[k] (List.getElem_mem hkH)
                generalize H[k] = e at *
                obtain ⟨e1, e2⟩ := e
                dsimp only at c1 hm
                have s3 : IntKind.i64.wrap ((k : Int) + 1) = (k : Int) + 1 := IntWalk.i64_in _ (by omega)
                have k0 : (0 : Int) ≤ k := by omega
                have k1 : (k : Int) < hl := by omega
                by_cases hq : 1 ≤ size
                · have t1 : decide (1 ≤ size) = true := by simpa using hq
                  have t2 : decide (size ≤ e2) = false := by have := hm hq; simp; omega
                  clear hq hcx hm
                  go_wp2_with fail
                  go_roundg (hl - (k + 1))
                  case measure => omega
                  case rel => exact ⟨k + 1, by omega, rfl, by go_num, rfl⟩
                · have t1 : decide (1 ≤ size) = false := by simpa using hq
                  clear hq hcx hm
                  go_wp2_with fail
                  go_roundg (hl - (k + 1))
                  case measure => omega
                  case rel => exact ⟨k + 1, by omega, rfl, by go_num, rfl⟩
              · obtain rfl : hl = k := by omega
                go_wp2_with fail
                go_ret
                exact ⟨rfl, B.out.out⟩
  · have H0 := Hidden.mk h0
    have hev : errV (chkX n l) = .iface 78 (.int .i64 (chkX n l)) := by unfold errV; rw [if_neg h0]
    have C1 := Hidden.mk (fun W hW => xfrees_any n A m c l W HL.out hmc hW)
    have C2 := Hidden.mk (fun W hW => xcheck_any n A m c l W HL.out hmc hW)
    rw [hev] at C1 C2
    generalize chkX n l = q at *
    clear hev h0
    go_wp2_with fail
    refine (C1.out _ R.out).mono ?_
    rintro e w_4 ⟨v, rfl, hown, hb⟩
    replace B := Hidden.mk (B.out.below hb)
    replace R := Hidden.mk (R.out.below hb)
    clear hb
    clear hown
    go_wp2_with fail
    refine (C2.out _ R.out).mono ?_
    rintro e w_5 ⟨rfl, hb⟩
    replace B := Hidden.mk (B.out.below hb)
    replace R := Hidden.mk (R.out.below hb)
    clear hb
    go_wp2_with fail
    go_ret
    exact ⟨rfl, B.out.out⟩
end Go.Proofs.Ytibogmoemohngaa
