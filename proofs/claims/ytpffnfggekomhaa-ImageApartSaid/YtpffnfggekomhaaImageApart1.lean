/- ImageApart: the walk. -/
import Derived.Test.YtpffnfggekomhaaDiff2
import Derived.Test.YtpffnfggekomhaaImg3
import Derived.Test.YtpffnfggekomhaaImageApart0
import Derived.Deep.DeepCutAuto
namespace Go.Proofs.Ytpffnfggekomhaa
open Go.RowKit

/-- the world of the law behind its first lines: the root's block, and the empty image -/
structure ApartW (w0 w : World) (s : Bytes) (h : Int) (gb n : Nat) : Prop where
  bel : Below w0.heap.size w0 w
  c0 : w.cell? ⟨w0.heap.size + 1, 0, none⟩ = some (sv s)
  c1 : w.cell? ⟨w0.heap.size + 1, 1, none⟩ = some (.int .i64 h)
  row : Row w 5 gb n (List.replicate n 0)
theorem ApartW.below {w0 w w' : World} {s : Bytes} {h : Int} {gb n : Nat} (e : ApartW w0 w s h gb n) (hb : Below w.heap.size w w') : ApartW w0 w' s h gb n :=
  ⟨e.bel.trans (hb.mono e.bel.size), (hb.cell (block_lt_of_cell e.c0)).trans e.c0, (hb.cell (block_lt_of_cell e.c1)).trans e.c1, e.row.below hb e.row.lt⟩

set_option maxRecDepth 100000 in
set_option maxHeartbeats 2000000 in
theorem imageApart_walk (n eh ea el et i : Int) (s : Bytes) (h : Int) (w : World) (hs : s.length ≤ 140737488351232) :
    Calls Try.prog 9 #[.int .i64 n, entV eh ea el et, .int .i64 i, rootV s h] w fun e w' => e = .returned (.bool true) ∧ Below w.heap.size w w' := by
  have hB0 := ((Below.refl w.heap.size w).alloc (Nat.le_refl _) (.cells #[.int .i64 eh, .int .i64 ea, .int .i64 el, .int .i64 et] 58)).alloc (by simp) (.cells #[sv s, .int .i64 h] 60)
  by_cases hn : rightB n = true
  · have hnb := rightB_true.1 hn
    obtain ⟨m, rfl⟩ := Int.eq_ofNat_of_zero_le (show 0 ≤ n by omega)
    go_enter Try.func9, Try.ntmps9
    go_wp2_with fail
    refine (new_ok _ _ hn).mono ?_
    rintro e w1 ⟨gb, rfl, hgb, hrow, hb⟩
    rw [Int.toNat_natCast] at hrow ⊢
    have he1 : EntAt w1 w.heap.size eh ea el et := ((EntAt.new w eh ea el et 58).keep (Below.heap_alloc _ _ _ (by simp))).keep (hb.block w.heap.size (by simp; omega))
    have hA : ApartW w w1 s h gb m := ⟨hB0.trans (hb.mono hB0.size),
      (hb.cell (p := ⟨w.heap.size + 1, 0, none⟩) (by simp)).trans (by simp),
      (hb.cell (p := ⟨w.heap.size + 1, 1, none⟩) (by simp)).trans (by simp), hrow⟩
    obtain ⟨q0, q1, q2, q3⟩ := he1
    clear hrow hb hB0 hgb
    go_wp2_with fail
    refine (iput_any _ m m _ eh ea el et _ (by simp) (Nat.le_refl _) hA.row.rd).mono ?_
    rintro e w2 ⟨v, err, rfl, hb2, hans⟩
    have hA2 := hA.below hb2
    have e0 := (hb2.cell (p := ⟨w.heap.size, 0, none⟩) (block_lt_of_cell q0)).trans q0
    obtain ⟨b, ⟨hge, hgn, heq, hneq⟩, hb⟩ := hans.isNil
    have HAns := Hidden.mk hb
    clear q0 q1 q2 q3 hans hA hneq hgn hb
    go_upto_if 39 with (fail)
    go_cut [] (fun wx => ApartW w wx s h gb m)
    case first =>
      cases b with
      | false =>
        go_wp2_with fail
        go_meet
        exact hA2
      | true =>
        obtain ⟨hh, ht, hl, hw, g, cap, rfl, hg, hrow⟩ := HAns.out rfl
        have hhb := handleB_true.1 hh
        have htb := tagB_true.1 ht
        have hzl : (List.replicate m (0 : UInt8)).length = m := by simp
        have hpl : (putEnt (List.replicate m 0) eh ea el et).length = m := by rw [putEnt_len _ _ _ _ _ hhb.1 hhb.2 (by rw [hzl]; omega), hzl]
        have hfit : entO eh + (entB ea.toNat el.toNat et.toNat).length ≤ (List.replicate m (0 : UInt8)).length := by rw [entB_len, hzl]; unfold entO; omega
        have hcap := hrow.le
        have hmem : Hidden (∀ c ∈ diffL (List.replicate m 0) (putEnt (List.replicate m 0) eh ea el et), ∃ j r : Nat, c.at_ = j ∧ c.new.length = r ∧ entO eh ≤ j ∧ j + r ≤ entO eh + 5) := ⟨fun c hc => by
          have := diff_splice _ _ _ hfit c hc
          rwa [entB_len] at this⟩
        have hpos : 0 < (diffL (List.replicate m 0) (putEnt (List.replicate m 0) eh ea el et)).length := by
          rcases Nat.eq_zero_or_pos (diffL (List.replicate m 0) (putEnt (List.replicate m 0) eh ea el et)).length with h0 | h0
          · exfalso
            have := diffL_eq_nil _ _ (hzl.trans hpl.symm) (List.eq_nil_of_length_eq_zero h0)
            have h1 := splice_get (List.replicate m (0 : UInt8)) (entB ea.toNat el.toNat et.toNat) (entO eh) 0 hfit (by rw [entB_len]; omega)
            unfold putEnt at this
            rw [← this] at h1
            rw [Nat.add_zero, List.getElem?_replicate, if_pos (by rw [entB_len, hzl] at hfit; omega)] at h1
            simp only [entB, List.getElem?_cons_zero, Option.some.injEq] at h1
            have h2 := congrArg UInt8.toNat h1
            simp only [UInt8.toNat_ofNat'] at h2
            have h3 : (et.toNat + 1) % 2 ^ 8 = et.toNat + 1 := Nat.mod_eq_of_lt (by omega)
            rw [h3] at h2
            simp at h2
          · exact h0
        have hzrow := hA2.row
        clear hfit ht hl hw
        generalize putEnt (List.replicate m 0) eh ea el et = pl at *
        go_wp2_with fail
        refine (diff_ok _ _ m m cap (List.replicate m 0) pl _ hzl hpl (by omega) (Nat.le_refl _) (by omega) hzrow.rd hrow.rd).mono ?_
        rintro e w3 ⟨v3, rfl, hown, hb3⟩
        have hA3 := hA2.below hb3
        have e3 := (hb3.cell (p := ⟨w.heap.size, 0, none⟩) (block_lt_of_cell e0)).trans e0
        obtain ⟨A3, c3, rfl, hc3, hm3, hrd3⟩ := hown.rd
        generalize diffL (List.replicate m 0) pl = L at *
        clear hown hrow hzrow e0 hb3 hA2
        simp only [maxLen] at hm3
        go_wp2_with fail
        go_loopw [15] (fun kv wr => (∃ nq, wr = w3.drewN nq) ∧ ∃ k : Nat, k ≤ L.length ∧ kv = .int .i64 k) (fun kv _ => L.length - (intOf kv).toNat)
        case atStart => exact ⟨⟨0, rfl⟩, 0, Nat.zero_le _, rfl⟩
        case round =>
          obtain ⟨⟨nq, rfl⟩, k, hk, rfl⟩ := hrel
          by_cases hlt : k < L.length
          · obtain ⟨gl, offl, go, co, gn, cn, rfl, hcc⟩ := hrd3 k hlt
            obtain ⟨j, r, hj, hr, hlo, hhi⟩ := hmem.out L[k] (List.getElem_mem hlt)
            have f1 := hcc.at_
            have f2 := hcc.new
            rw [hj] at f1
            rw [hr] at f2
            have heo : (entO eh : Int) = 5 * (eh - 1) := by unfold entO; omega
            have t1 : decide ((j : Int) < 5 * (eh - 1)) = false := by simp; omega
            have t2 : decide ((5 * eh : Int) < (j : Int) + r) = false := by simp; omega
            have k0 : (0 : Int) ≤ k := by omega
            have k1 : (k : Int) < L.length := by omega
            have s1 : IntKind.i64.wrap (eh - 1) = eh - 1 := IntWalk.i64_in _ (by omega)
            have s2 : IntKind.i64.wrap (5 * (eh - 1)) = 5 * (eh - 1) := IntWalk.i64_in _ (by omega)
            have s3 : IntKind.i64.wrap ((j : Int) + r) = (j : Int) + r := IntWalk.i64_in _ (by omega)
            have s4 : IntKind.i64.wrap (5 * eh) = 5 * eh := IntWalk.i64_in _ (by omega)
            clear hcc hj hr heo hlo hhi
            go_wp2_with fail
            go_quiet (fail)
            clear s1 s2 s3 s4
            go_wp2_with fail
            go_roundw
            case rel => exact ⟨⟨_, rfl⟩, k + 1, by omega, by go_num⟩
            case measure => simp [intOf]; omega
          · go_wp2_with fail
            go_meet
            exact hA3.below (below_drewN (Below.refl _ _) nq)
    case rest =>
      have hzl : (List.replicate m (0 : UInt8)).length = m := by simp
      obtain ⟨hb4, c0, c1, zrow⟩ := hcut
      have hm4 := hb4.size
      clear hA2 e0 hge heq HAns hb2
      go_wp2_with fail
      refine (root_all _ m m (List.replicate m 0) i s h _ hs hzl (Nat.le_refl _) zrow.rd hn).mono ?_
      rintro e w5 (⟨x, rfl, hb5⟩ | ⟨g, cap, X, hi1, hi2, hX, rfl, hg, hrow, hb5⟩)
      · have hb6 := hb4.trans (hb5.mono hm4)
        clear hb4 hb5 c0 c1 zrow hm4
        go_wp2_with fail
        go_ret
        exact ⟨rfl, hb6⟩
      · have hb6 := hb4.trans (hb5.mono hm4)
        have zrow5 := zrow.below hb5 zrow.lt
        have d0 := (hb5.cell (p := ⟨w.heap.size + 1, 0, none⟩) (block_lt_of_cell c0)).trans c0
        clear hb4 hb5 c0 c1 zrow hm4 hg
        have ho : (rootO i : Int) = 200 + 11 * i := by unfold rootO; omega
        have hfit : rootO i + 11 ≤ m := by omega
        have hfx : rootO i + X.length ≤ (List.replicate m (0 : UInt8)).length := by rw [hX.len, hzl]; exact hfit
        have hpl : (splice (List.replicate m 0) (rootO i) X).length = m := by rw [splice_len _ _ _ hfx, hzl]
        have hcap := hrow.le
        have hmem : Hidden (∀ c ∈ diffL (List.replicate m 0) (splice (List.replicate m 0) (rootO i) X), ∃ j r : Nat, c.at_ = j ∧ c.new.length = r ∧ rootO i ≤ j ∧ j + r ≤ rootO i + 11) := ⟨fun c hc => by
          have := diff_splice _ _ _ hfx c hc
          rwa [hX.len] at this⟩
        have hemp := rootX_diff m (rootO i) s X hX hfit
        clear hfx hfit hX
        generalize splice (List.replicate m 0) (rootO i) X = pl at *
        go_wp2_with fail
        refine (diff_ok _ _ m m cap (List.replicate m 0) pl _ hzl hpl (by omega) (Nat.le_refl _) (by omega) zrow5.rd hrow.rd).mono ?_
        rintro e w6 ⟨v6, rfl, hown, hb7⟩
        have hb8 := hb6.trans (hb7.mono hb6.size)
        have d1 := (hb7.cell (p := ⟨w.heap.size + 1, 0, none⟩) (block_lt_of_cell d0)).trans d0
        obtain ⟨A6, c6, rfl, hc6, hm6, hrd6⟩ := hown.rd
        generalize diffL (List.replicate m 0) pl = L at *
        clear hown hrow zrow5 d0 hb6 hb7
        simp only [maxLen] at hm6
        have hcond : (s = [] ∧ L.length = 0) ∨ (s.isEmpty = false ∧ decide (0 < L.length) = true) := by
          by_cases hs0 : s = []
          · left; simp [hs0] at hemp; exact ⟨hs0, by simp [hemp]⟩
          · right; simp [hs0] at hemp; exact ⟨by cases s with | nil => exact absurd rfl hs0 | cons x xs => rfl, by simpa using hemp⟩
        clear hemp
        rcases hcond with ⟨rfl, hl0⟩ | ⟨hs0, hl0⟩
        · rw [hl0] at *
          go_wp2_with fail
          go_loopw [18] (fun kv wr => (∃ nq, wr = w6.drewN nq) ∧ kv = .int .i64 0) (fun _ _ => 0)
          case atStart => exact ⟨⟨0, rfl⟩, rfl⟩
          case round =>
            obtain ⟨⟨nq, rfl⟩, rfl⟩ := hrel
            go_wp2_with fail
            go_ret
            exact ⟨rfl, below_drewN hb8 nq⟩
        · go_wp2_with fail
          go_loopw [18] (fun kv wr => (∃ nq, wr = w6.drewN nq) ∧ ∃ k : Nat, k ≤ L.length ∧ kv = .int .i64 k) (fun kv _ => L.length - (intOf kv).toNat)
          case atStart => exact ⟨⟨0, rfl⟩, 0, Nat.zero_le _, rfl⟩
          case round =>
            obtain ⟨⟨nq, rfl⟩, k, hk, rfl⟩ := hrel
            by_cases hlt : k < L.length
            · obtain ⟨gl, offl, go, co, gn, cn, rfl, hcc⟩ := hrd6 k hlt
              obtain ⟨j, r, hj, hr, hlo, hhi⟩ := hmem.out L[k] (List.getElem_mem hlt)
              have f1 := hcc.at_
              have f2 := hcc.new
              rw [hj] at f1
              rw [hr] at f2
              have t1 : decide ((j : Int) < 200 + 11 * i) = false := by simp; omega
              have t2 : decide ((211 + 11 * i : Int) < (j : Int) + r) = false := by simp; omega
              have k0 : (0 : Int) ≤ k := by omega
              have k1 : (k : Int) < L.length := by omega
              have s1 : IntKind.i64.wrap (11 * i) = 11 * i := IntWalk.i64_in _ (by omega)
              have s2 : IntKind.i64.wrap (200 + 11 * i) = 200 + 11 * i := IntWalk.i64_in _ (by omega)
              have s3 : IntKind.i64.wrap ((j : Int) + r) = (j : Int) + r := IntWalk.i64_in _ (by omega)
              have s4 : IntKind.i64.wrap (211 + 11 * i) = 211 + 11 * i := IntWalk.i64_in _ (by omega)
              clear hcc hj hr hlo hhi
              go_wp2_with fail
              go_quiet (fail)
              clear s1 s2 s3 s4
              go_wp2_with fail
              go_roundw
              case rel => exact ⟨⟨_, rfl⟩, k + 1, by omega, by go_num⟩
              case measure => simp [intOf]; omega
            · go_wp2_with fail
              go_ret
              exact ⟨rfl, below_drewN hb8 nq⟩
  · have hn' : rightB n = false := by simpa using hn
    have hnb := rightB_false.1 hn'
    clear hn
    rcases hnb with hlt | hlt
    all_goals
      go_enter Try.func9, Try.ntmps9
      go_wp2_with fail
      refine (new_e1 _ _ hn').mono ?_
      rintro e w1 ⟨rfl, rfl⟩
      go_wp2_with fail
      go_ret
      exact ⟨rfl, hB0⟩
end Go.Proofs.Ytpffnfggekomhaa
