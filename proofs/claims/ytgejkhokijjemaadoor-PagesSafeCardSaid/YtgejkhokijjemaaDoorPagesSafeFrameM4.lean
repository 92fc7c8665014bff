/- Contracts and plain laws, put together: PagesSafe1. -/
import Derived.Test.YtgejkhokijjemaaDoorPagesSafeFrameM2
import Derived.Test.YtgejkhokijjemaaDoorPagesSafeFrameM3
import Derived.Deep.DeepCutAuto
import Derived.Deep.CutBlock
/- PagesSafe: the walk. -/
namespace Go.Proofs.YtgejkhokijjemaaDoor
open Go.RowKit Go.Maps Go.ChangeMaps

theorem pgsR_of {w w' : World} {F : Nat → Prop} {A : Option Addr} {L : List PgX} (hr : RdX pcells 2 w A L) (ho : ∀ x ∈ L, PgOk w x) (hF : ∀ k, F k → w.heap.size ≤ k) (hb : Below w.heap.size w w') : PgsR w' F A L :=
  ⟨hr.below hb, fun hl ad e hf => by have := hr.lt_ hl ad e; have := hF _ hf; omega, fun x hx => (ho x hx).rd.below hb, fun x hx h0 ad e hf => by
    obtain ⟨q, off, e2, hq⟩ := (ho x hx).rd.lt h0
    rw [e2] at e
    obtain rfl := Option.some.inj e
    have := hF _ hf
    dsimp only at this; omega⟩
section
variable {w0 w w' : World} {F F' : Nat → Prop} {p d st n : Nat} {D : Dv}
theorem pread_ok (h : DevB w0 w F d D) (hp : PgH w F p d st (nP D)) (i : Nat) (hi : i < nP D) (hd : D.down = false) :
    Calls Tryd.prog 39 #[.pointer (some ⟨p, 0, none⟩), .int .i64 (i : Int)] w fun e w' => ∃ g cap, e = .returned (.tuple #[.slice (some ⟨g, 0, none⟩) 32 cap, .nilIface]) ∧ w.heap.size ≤ g ∧ Row w' 5 g cap (readD D (48 + i)) ∧ Below w.heap.size w w' := by
  obtain ⟨c0, c1, c2⟩ := hp.cell
  have hn := nP_le D
  have h48 : 48 + i < D.S.length := by unfold nP at hi; omega
  have HR := Hidden.mk (h.read (48 + i) h48 hd)
  have e : (((48 + i : Nat)) : Int) = 48 + (i : Int) := by omega
  rw [e] at HR
  have d1 : decide ((i : Int) < 0) = false := by simp
  have d2 : decide ((nP D : Int) ≤ (i : Int)) = false := by simp; omega
  have d3 : decide (nP D ≤ i) = false := by simp; omega
  have hi2 : (i : Int) ≤ 200 := by omega
  clear h hp hi hd h48 e
  go_enter Tryd.func39, Tryd.ntmps39
  go_wp2_with fail
  refine HR.out.mono ?_
  rintro e w1 ⟨g, cap, rfl, hg, hrow, -, hb, -⟩
  have H := Hidden.mk (And.intro hg (And.intro hrow hb))
  clear hg hrow hb HR
  go_wp2_with fail
  go_ret2
  exact ⟨g, cap, rfl, H.out⟩
/-- Pages beside another block that is written -/
theorem PgH.setOther (h : PgH w F p d st n) {go q : Nat} (hne : p ≠ go) (v : Value) : PgH (w.setCell ⟨go, q, none⟩ v) F p d st n := ⟨(Below.heap_setCell _ _ _ _ hne).trans h.1, h.2⟩
theorem PgH.ne_cells (h : PgH w F p d st n) {go : Nat} {cur : Array Value} {t : TypeId} (h2 : w.heap[go]? = some (.cells cur t (0, 0))) (ht : 148 ≠ t) : p ≠ go := Go.Proofs.YtgejkhokijjemaaDoor.ne_cells h.1 h2 ht
end
theorem OpAns.uni {w0 w w' : World} {F : Nat → Prop} {d st : Nat} {D : Dv} {r : Dv × Nat} {e : Ending} (h : OpAns w0 w F d D r st e w') :
    ∃ v F', e = .returned (.tuple #[v, errV r.2]) ∧ PdM w0 w w' F F' d r.1 ∧ (r.2 = 0 → ∃ p, v = .pointer (some ⟨p, 0, none⟩) ∧ PgH w' F' p d st (nP D) ∧ w.heap.size ≤ p) := by
  obtain ⟨F', hm, ⟨h0, p, he, hp, hn⟩ | ⟨h0, he⟩⟩ := h
  · exact ⟨_, F', by rw [he, h0]; rfl, hm, fun _ => ⟨p, rfl, hp, hn⟩⟩
  · exact ⟨_, F', he, hm, fun e => absurd e h0⟩
theorem Lst.cm {w w' : World} {F F' : Nat → Prop} {go n k p d st m : Nat} {f : Nat → Bytes} (h : Lst w F go n k f) (hp : PgH w F p d st m) (hk : Keep (fun q => F q ∨ q = p) w w') (hF : ∀ q, F' q → F q ∨ w.heap.size ≤ q) : Lst w' F' go n k f := by
  have h2 : Lst w (fun q => F q ∨ q = p) go n k f := by
    obtain ⟨ob, oc, ⟨cur, h0, h1⟩, h3, h4⟩ := h
    refine ⟨ob, oc, ⟨cur, h0, h1⟩, fun i hi => ?_, ?_⟩
    · obtain ⟨a, b, c⟩ := h3 i hi
      exact ⟨a, b, fun hf => hf.elim c (fun e => ne_row hp.1 a (by decide) e.symm)⟩
    · exact fun hf => hf.elim h4 (fun e => Go.Proofs.YtgejkhokijjemaaDoor.ne_cells hp.1 h0 (by decide) e.symm)
  refine h2.keep hk fun q hq => ?_
  rcases hF q hq with h' | h'
  · exact .inl (.inl h')
  · exact .inr h'
/-- the page that is wanted, when the commit is done -/
def wantF (pg : Nat → Bytes) (M : List (Int × Bytes)) (i j : Nat) : Bytes := updPg pg (M.take j) i
theorem wantF_succ (pg : Nat → Bytes) (M : List (Int × Bytes)) (i j : Nat) (hj : j < M.length) : wantF pg M i (j + 1) = if M[j].1 = (i : Int) then M[j].2 else wantF pg M i j := by
  unfold wantF updPg
  rw [List.take_succ_eq_append_getElem hj, List.foldl_append]
  rfl
/-- behind what may have been lost: pages that are opened -/
structure Sf5 (w wr : World) (F : Nat → Prop) (d q go nn np st1 k2 : Nat) (pg1 : Nat → Bytes) (M : List (Int × Bytes)) (D : Dv) (st : Nat) (pg : Nat → Bytes) : Prop where
  dev : DevB w wr F d D
  pgh : PgH wr F q d st np
  ls : Lst wr F go np np pg1
  full : ∃ l, Full np D st l pg
  wf : WfD D
  len : D.S.length = nn
  dn : D.down = false
  outc : Outc st1 pg1 M k2 st pg
theorem Sf5.below {w wr w' : World} {F : Nat → Prop} {d q go nn np st1 k2 : Nat} {pg1 : Nat → Bytes} {M : List (Int × Bytes)} {D : Dv} {st : Nat} {pg : Nat → Bytes} (h : Sf5 w wr F d q go nn np st1 k2 pg1 M D st pg) (hb : Below wr.heap.size wr w') : Sf5 w w' F d q go nn np st1 k2 pg1 M D st pg :=
  ⟨h.dev.below hb, h.pgh.below hb, h.ls.below hb, h.full, h.wf, h.len, h.dn, h.outc⟩
/-- all that the law keeps at hand -/
structure SfSt (w wr : World) (F : Nat → Prop) (d p go : Nat) (D : Dv) (st n k : Nat) (pg : Nat → Bytes) : Prop where
  dev : DevB w wr F d D
  pgh : PgH wr F p d st n
  ls : Lst wr F go n k pg
  gn : w.heap.size ≤ go
/-- the pages are as the plain law says, and the power is there -/
structure SfP (nn n : Nat) (D : Dv) (st : Nat) (pg : Nat → Bytes) : Prop where
  full : ∃ l, Full n D st l pg
  wf : WfD D
  up : Up D
  len : D.S.length = nn
  n0 : n = nP D
theorem SfP.commit {nn n : Nat} {D : Dv} {st : Nat} {pg : Nat → Bytes} (h : SfP nn n D st pg) (m : List (Int × Bytes)) :
    ∃ pg', SfP nn n (commitP st n m D).1 (if (commitP st n m D).2 = 0 ∧ m.length ≠ 0 then st + 1 else st) pg' ∧ ((commitP st n m D).2 = 0 → pg' = updPg pg m ∧ ChkOk n m) := by
  obtain ⟨l, hl⟩ := h.full
  have H := commit_safe m hl h.wf
  have hu := commit_stays h.up st n m
  have hn0 : n = nP (commitP st n m D).1 := by
    rw [show nP (commitP st n m D).1 = nP D from by unfold nP; rw [H.len]]; exact h.n0
  by_cases h0 : (commitP st n m D).2 = 0
  · by_cases hm : m.length = 0
    · have e := H.none_ h0 hm
      have hm' : m = [] := List.eq_nil_of_length_eq_zero hm
      rw [if_neg (fun x => x.2 hm)]
      refine ⟨pg, ⟨⟨l, by rw [e]; exact hl⟩, H.wf, hu.1, H.len.trans h.len, hn0⟩, fun _ => ⟨by rw [hm']; rfl, by rw [hm']; exact ⟨by simp, by simp, by simp⟩⟩⟩
    · obtain ⟨a, b, c, e⟩ := H.done h0 hm
      rw [if_pos ⟨h0, hm⟩]
      exact ⟨_, ⟨⟨_, a⟩, H.wf, hu.1, H.len.trans h.len, hn0⟩, fun _ => ⟨rfl, e⟩⟩
  · rw [if_neg (fun x => h0 x.1)]
    exact ⟨pg, ⟨⟨l, by rw [H.bad h0 hu.2]; exact hl⟩, H.wf, hu.1, H.len.trans h.len, hn0⟩, fun x => absurd x h0⟩
theorem SfP.page {nn n : Nat} {D : Dv} {st : Nat} {pg : Nat → Bytes} (h : SfP nn n D st pg) (i : Nat) (hi : i < n) : readD D (48 + i) = pg i ∧ (pg i).length = 32 := by
  obtain ⟨l, hl⟩ := h.full
  have := (hl.all i hi).2
  refine ⟨this, ?_⟩
  rw [← this]
  refine h.wf.rd ?_
  have := hl.hold.lens
  omega
set_option maxRecDepth 100000 in
set_option maxHeartbeats 4000000 in
theorem pagesSafe_walk (n : Int) (A B C : Option Addr) (ca cb cc : Nat) (La Lb : List PgX) (fail : Int) (keep : List Bool) (torn cut again : Int) (w : World) (hg : HasType w) (hoa : ∀ x ∈ La, PgOk w x) (hra : RdX pcells 2 w A La) (hob : ∀ x ∈ Lb, PgOk w x) (hrb : RdX pcells 2 w B Lb) (hrk : RdX (fun b => [.bool b]) 1 w C keep)
    (hla : La.length ≤ ca) (hlb : Lb.length ≤ cb) (hf : fail ≤ 9223372036854775807) (ha : again ≤ 9223372036854775807) (hla2 : La.length ≤ 140737488351232) (hlb2 : Lb.length ≤ 140737488351232) :
    Calls Tryd.prog 7 #[.int .i64 n, .slice A La.length ca, .slice B Lb.length cb, .int .i64 fail, .slice C keep.length cc, .int .i64 torn, .int .i64 cut, .int .i64 again] w fun e w' => e = .returned (.bool true) ∧ Below w.heap.size w w' := by
  have HRA := Hidden.mk hra
  have HRB := Hidden.mk hrb
  have HRK := Hidden.mk hrk
  have HOA := Hidden.mk hoa
  have HOB := Hidden.mk hob
  have HG := Hidden.mk hg
  clear hg hra hrb hrk hoa hob
  by_cases hn : n < 1 ∨ 300 < n
  · have HN := Hidden.mk hn
    clear hn
    go_enter Tryd.func7, Tryd.ntmps7
    go_wp2_with fail
    refine (dnew_e1 n _ HN.out).mono ?_
    rintro e w1 ⟨rfl, rfl⟩
    go_wp2_with fail
    go_ret
    exact ⟨rfl, Below.refl _ _⟩
  obtain ⟨nn, rfl⟩ : ∃ nn : Nat, n = nn := ⟨n.toNat, by omega⟩
  have hn1 : 1 ≤ nn := by omega
  have hn3 : nn ≤ 300 := by omega
  clear hn
  go_enter Tryd.func7, Tryd.ntmps7
  go_wp2_with fail
  refine (dnewB nn _ hn1 hn3).mono ?_
  rintro e w1 ⟨d, F, rfl, hd1⟩
  have HD1 := Hidden.mk hd1
  clear hd1
  by_cases h49 : nn < 49
  · have t1 : decide ((nn : Int) < 49) = true := by simp; omega
    have t2 : decide (nn < 49) = true := by simpa using h49
    clear h49
    go_wp2_with fail
    go_ret
    exact ⟨rfl, HD1.out.bel⟩
  have h49' : 49 ≤ nn := by omega
  have t1 : decide ((nn : Int) < 49) = false := by simp; omega
  have t2 : decide (nn < 49) = false := by simpa using h49
  obtain ⟨hfull, hup, hwf, hlen, hnp⟩ := format_full nn h49' hn3
  have HPF : Hidden (SfP nn (nP (newD nn)) (formatD (newD nn)) 2 (fun _ => List.replicate 32 0)) := ⟨⟨⟨_, hfull⟩, hwf, hup, hlen, hfull.hold.n0⟩⟩
  have HFM := Hidden.mk (pformat_ok HD1.out ⟨rfl, rfl⟩ (by simp [newD]; exact h49'))
  have HNP := Hidden.mk hnp
  have hnn1 : 1 ≤ nP (newD nn) := by omega
  have hnn2 : nP (newD nn) ≤ 200 := by omega
  generalize nP (newD nn) = np at *
  generalize formatD (newD nn) = Df at *
  clear h49 h49' hfull hup hwf hlen hnp
  go_wp2_with fail
  refine HFM.out.mono ?_
  rintro e w2 ⟨p, F2, rfl, hm2, hp2, hpn⟩
  have HM2 := Hidden.mk ((PdM.refl HD1.out).next hm2)
  have HP2 := Hidden.mk hp2
  have HPN := Hidden.mk (Nat.le_trans HD1.out.bel.size hpn)
  clear hm2 hp2 hpn HFM t1 t2
  go_wp2_with fail
  refine (plen_any HP2.out).mono ?_
  rintro e w' ⟨rfl, rfl⟩
  have t3 : decide ((np : Int) < 1) = false := by simp; omega
  have HCM := Hidden.mk (pcommit_any HM2.out.dev HP2.out hnn2 (by omega) HPN.out A La.length ca La rfl hla (pgsR_of HRA.out HOA.out HM2.out.dev.new HM2.out.dev.bel))
  obtain ⟨pg1, hsf1, hcm1⟩ := HPF.out.commit (pgs La)
  have hlp : (pgs La).length = La.length := by simp [pgs]
  have HSF1 := Hidden.mk hsf1
  have HCM1 := Hidden.mk hcm1
  rw [hlp] at HSF1
  generalize commitP 2 np (pgs La) Df = r1 at *
  clear hsf1 hcm1 hlp
  go_wp2_with fail
  refine HCM.out.mono ?_
  rintro e w3 ⟨rfl, F3, hcm⟩
  have HC3 := Hidden.mk hcm
  have hst : 2 ≤ (if r1.2 = 0 ∧ La.length ≠ 0 then 2 + 1 else 2) ∧ (if r1.2 = 0 ∧ La.length ≠ 0 then 2 + 1 else 2) ≤ 3 := by split <;> omega
  generalize (if r1.2 = 0 ∧ La.length ≠ 0 then 2 + 1 else 2) = st1 at *
  obtain ⟨D1, k1⟩ := r1
  dsimp only at *
  clear hcm HCM HM2 HP2 HPF
  go_wp2_with fail
  refine (plen_any HC3.out.pg).mono ?_
  rintro e w' ⟨rfl, rfl⟩
  have hml := mk_lists (np : Int) np rfl (by omega)
  have hl12 := Lst.made w3 F3 np pg1 HC3.out.dev.flt
  have hal := (Below.refl w3.heap.size w3).alloc (Nat.le_refl _) (.cells (Array.replicate np (.slice none 0 0)) 48)
  have HST : Hidden (SfSt w (w3.alloc (.cells (Array.replicate np (.slice none 0 0)) 48)) F3 d p w3.heap.size D1 st1 np 0 pg1) := ⟨⟨HC3.out.dev.below hal, HC3.out.pg.below hal, hl12, HC3.out.dev.bel.size⟩⟩
  clear hl12 hal
  go_wp2_with fail
  generalize w3.alloc (.cells (Array.replicate np (.slice none 0 0)) 48) = w4 at *
  generalize w3.heap.size = go at *
  clear hml
  go_loopg [23] np (fun m i wr => ∃ k : Nat, k ≤ np ∧ m = np - k ∧ i = .int .i64 (k : Int) ∧ Hidden (SfSt w wr F3 d p go D1 st1 np k pg1))
  case atStart => exact ⟨0, by omega, rfl, rfl, HST⟩
  case round =>
    obtain ⟨k, hk, rfl, rfl, hst1⟩ := hrel
    by_cases hlt : k < np
    · have i0 : (0 : Int) ≤ k := by omega
      have i1 : (k : Int) < np := by omega
      have s1 : IntKind.i64.wrap ((k : Int) + 1) = (k : Int) + 1 := IntWalk.i64_in _ (by omega)
      have hn0 := HSF1.out.n0
      have HRD := Hidden.mk (pread_ok hst1.out.dev (by rw [← hn0]; exact hst1.out.pgh) k (by rw [← hn0]; exact hlt) HSF1.out.up.2)
      rw [(HSF1.out.page k hlt).1] at HRD
      have hpl := (HSF1.out.page k hlt).2
      have HPL := Hidden.mk hpl
      clear hn0 hpl
      go_wp2_with fail
      refine (plen_any hst1.out.pgh).mono ?_
      rintro e w' ⟨rfl, rfl⟩
      go_wp2_with fail
      refine HRD.out.mono ?_
      rintro e w5 ⟨g, cap, rfl, hg5, hr5, hb5⟩
      have hl5 := hst1.out.ls.below hb5
      have hd5 := hst1.out.dev.below hb5
      have hp5 := hst1.out.pgh.below hb5
      obtain ⟨⟨vs, hsl⟩, hfz⟩ := hl5.slot hlt
      obtain ⟨⟨cur, hcur⟩, hnf⟩ := hl5.blk
      have hps := hl5.push hlt hr5 HPL.out (fun hf => by have := hst1.out.dev.flt _ hf; omega)
      have hdp := hd5.keep (hl5.keepSet (rowV g cap)) (fun q hq e => hnf (e ▸ hq)) (fun q hq => by rw [hq]; exact hst1.out.gn)
      have hpp := hp5.setOther (q := k) (hp5.ne_cells hcur (by decide)) (rowV g cap)
      unfold rowV at hps hdp hpp
      have HN : Hidden (SfSt w (w5.setCell ⟨go, k, none⟩ (.slice (some ⟨g, 0, none⟩) 32 cap)) F3 d p go D1 st1 np (k + 1) pg1) := ⟨⟨hdp, hpp, hps, hst1.out.gn⟩⟩
      clear hst1 hg5 hr5 hb5 hl5 hd5 hp5 hcur hnf hps hdp hpp HRD HST HC3
      go_wp2_with fail
      go_roundg (np - (k + 1))
      case measure => omega
      case rel => exact ⟨k + 1, by omega, rfl, by go_num, HN⟩
    · obtain rfl : np = k := by omega
      have t4 : decide ((np : Int) < np) = false := by simp
      have HS := Hidden.mk hst1.out
      clear hst1 HST HC3
      go_wp2_with fail
      refine (plen_any HS.out.pgh).mono ?_
      rintro e w' ⟨rfl, rfl⟩
      obtain ⟨hge, hgn, heq, hneq⟩ := errIs_errV k1
      clear t4
      go_upto_if 86 with (fail)
      clear hge hgn heq hneq
      go_cut [] (fun wx => Hidden (SfSt w wx F3 d p go D1 st1 np np pg1))
      case first =>
        --{{
        as_aux_lemma =>
        by_cases hk1 : k1 = 0
        · obtain ⟨hpg, hco⟩ := HCM1.out hk1
          have HPG := Hidden.mk hpg
          have HCO := Hidden.mk hco
          rw [show (k1 == 0) = true by simpa using hk1]
          clear hk1 hpg hco
          go_wp2_with fail
          go_loopg [26] La.length (fun m i wx => ∃ j : Nat, j ≤ La.length ∧ m = La.length - j ∧ i = .int .i64 (j : Int) ∧ Hidden (SfSt w wx F3 d p go D1 st1 np np pg1))
          case atStart => exact ⟨0, by omega, rfl, rfl, HS⟩
          case round =>
            obtain ⟨j, hj, rfl, rfl, hs⟩ := hrel
            by_cases hlt2 : j < La.length
            · have i0 : (0 : Int) ≤ j := by omega
              have i1 : (j : Int) < La.length := by omega
              have s1 : IntKind.i64.wrap ((j : Int) + 1) = (j : Int) + 1 := IntWalk.i64_in _ (by omega)
              obtain ⟨pb, off, rfl, hc⟩ := HRA.out j hlt2
              have e0 := hc 0 _ rfl
              have e1 := hc 1 _ rfl
              rw [Nat.add_zero] at e0
              have plt := block_lt_of_cell e0
              have c0 := (hs.out.dev.bel.cell (p := ⟨pb, off + j * 2, none⟩) plt).trans e0
              have c1 := (hs.out.dev.bel.cell (p := ⟨pb, off + j * 2 + 1, none⟩) plt).trans e1
              have hin := HCO.out.each (La[j].num, La[j].body) (List.mem_map.2 ⟨La[j], List.getElem_mem hlt2, rfl⟩)
              have hjp : j < (pgs La).length := by simpa [pgs] using hlt2
              have hpj : (pgs La)[j] = (La[j].num, La[j].body) := by simp [pgs]
              have hat := fold_at (i := La[j].num.toNat) (pgs La) (List.replicate 32 0) j hjp HCO.out.nd (by rw [hpj]; have := hin.1; dsimp only at this ⊢; omega)
              rw [hpj] at hat
              have hrb := (HOA.out La[j] (List.getElem_mem hlt2)).rd.below hs.out.dev.bel
              obtain ⟨g1, cg1, y0, yr, -⟩ := hs.out.ls.cell La[j].num.toNat (by have := hin; dsimp only at this; omega)
              have hpv : pg1 La[j].num.toNat = La[j].body := by rw [HPG.out]; exact hat
              rw [hpv] at yr
              generalize La[j] = x at *
              obtain ⟨num, xA, xc, body⟩ := x
              dsimp only at *
              obtain ⟨kk, rfl⟩ := Int.eq_ofNat_of_zero_le hin.1
              rw [Int.toNat_natCast] at y0
              have x0 : (0 : Int) ≤ kk := by omega
              have x1 : (kk : Int) < np := by omega
              have hbl : body.length = 32 := hin.2.2
              have HBL := Hidden.mk hbl
              have v1 := conv_text wr (some ⟨g1, 0, none⟩) 32 cg1 body hbl yr.rd
              have v2 := conv_text wr xA body.length xc body rfl hrb
              have KC2 := Hidden.mk (And.intro (show wr.drew.cell? ⟨pb, off + j * 2, none⟩ = _ from c0) (And.intro (show wr.drew.cell? ⟨pb, off + j * 2 + 1, none⟩ = _ from c1) (And.intro (show wr.drew.cell? ⟨go, kk, none⟩ = _ from y0) (And.intro (conv_text wr.drew (some ⟨g1, 0, none⟩) 32 cg1 body hbl (yr.rd.drewN 1)) (conv_text wr.drew xA body.length xc body rfl (hrb.drewN 1))))))
              have KC := Hidden.mk (And.intro c0 (And.intro c1 (And.intro y0 (And.intro v1 v2))))
              have HS2 := Hidden.mk hs.out
              clear hs hc e0 e1 plt hin hjp hpj hat hrb yr hpv v1 v2 hbl c0 c1 y0
              go_upto_region 20 with (fail)
              go_region_held3 (fun W => W.cell? ⟨pb, off + j * 2, none⟩ = some (.int .i64 (kk : Int)) ∧ W.cell? ⟨pb, off + j * 2 + 1, none⟩ = some (.slice xA body.length xc) ∧ W.cell? ⟨go, kk, none⟩ = some (.slice (some ⟨g1, 0, none⟩) 32 cg1) ∧ (convert 48 9 (.slice (some ⟨g1, 0, none⟩) 32 cg1)).run Tryd.prog W = .ok (sv body) W ∧ (convert 48 9 (.slice xA body.length xc)).run Tryd.prog W = .ok (sv body) W) (first | exact KC.out | exact KC2.out) (fail)
              all_goals
                go_wp2_with fail
                go_roundg (La.length - (j + 1))
                case measure => omega
                case rel => exact ⟨j + 1, by omega, rfl, by go_num, ⟨⟨HS2.out.dev.below ((Below.refl _ _).drew), HS2.out.pgh.below ((Below.refl _ _).drew), HS2.out.ls.below ((Below.refl _ _).drew), HS2.out.gn⟩⟩⟩
            · obtain rfl : j = La.length := by omega
              have HS2 := Hidden.mk hs.out
              clear hs
              go_wp2_with fail
              go_meet
              exact HS2
        · rw [show (k1 == 0) = false by simpa using hk1]
          clear hk1
          go_wp2_with fail
          go_meet
          exact HS
        --}}
      case rest =>
        have HS5 := Hidden.mk hcut.out
        clear hcut HS
        go_wp2_with fail
        refine (pstamp_any HS5.out.pgh).mono ?_
        rintro e w' ⟨rfl, rfl⟩
        go_wp2_with fail
        refine (HS5.out.dev.fail fail hf).mono ?_
        rintro e w6 ⟨rfl, hd6, hk6⟩
        have hm6 : PdM w _ w6 F3 F3 d _ := ⟨hd6, hk6, fun _ h => .inl h⟩
        have HM6 := Hidden.mk hm6
        have HP6 := Hidden.mk (HS5.out.pgh.mod hm6)
        have HL6 := Hidden.mk (HS5.out.ls.keep hk6 (fun _ h => .inl h))
        have HC6 := Hidden.mk (pcommit_any hd6 HP6.out hnn2 (by omega) HPN.out B Lb.length cb Lb rfl hlb (pgsR_of HRB.out HOB.out hd6.new hd6.bel))
        obtain ⟨l1, hl1⟩ := HSF1.out.full
        have hwf1 := HSF1.out.wf
        have hcc := commit_crash (pgs Lb) (hl1.left (max (-1) fail) D1.down) (hwf1.left (max (-1) fail) D1.down) keep torn (min 32 (max 0 cut)).toNat (by omega)
        have hcs := commit_safe (pgs Lb) (hl1.left (max (-1) fail) D1.down) (hwf1.left (max (-1) fail) D1.down)
        have hwfc := hcs.wf
        have hlen2 := hcs.len
        have HLN2 : Hidden ((commitP st1 np (pgs Lb) { D1 with left := max (-1) fail, down := D1.down }).1.S.length = nn) := ⟨hlen2.trans HSF1.out.len⟩
        have HCC := Hidden.mk hcc
        have HWF := Hidden.mk hwfc
        generalize commitP st1 np (pgs Lb) { D1 with left := max (-1) fail, down := D1.down } = r2 at *
        obtain ⟨D2, k2⟩ := r2
        dsimp only at *
        clear hm6 hd6 hk6 HS5 hl1 hwf1 hcc hcs hwfc hlen2
        go_wp2_with fail
        refine HC6.out.mono ?_
        rintro e w7 ⟨rfl, F7, hc7⟩
        have HD7 := Hidden.mk hc7.dev
        have HL7 := Hidden.mk (HL6.out.cm HP6.out hc7.kp hc7.sub)
        clear hc7 HC6 HL6 HP6 HM6
        have hrk7 := (rdb_of HRK.out).below HD7.out.bel
        have hnk7 : 0 < keep.length → ∀ ad, C = some ad → ¬ F7 ad.block := fun h0 ad e hf => by
          obtain ⟨b, off, hA, hc⟩ := (rdb_of HRK.out) 0 h0
          rw [hA] at e
          obtain rfl := Option.some.inj e
          have := HD7.out.new _ hf
          have := block_lt_of_cell hc
          dsimp only at *; omega
        have HCR := Hidden.mk (HD7.out.crash C keep.length cc keep torn cut rfl hrk7 hnk7)
        clear hrk7 hnk7
        go_wp2_with fail
        refine HCR.out.mono ?_
        rintro e w8 ⟨rfl, hd8, hk8⟩
        have HL8 := Hidden.mk (HL7.out.keep hk8 (fun _ h => .inl h))
        have hcw := crash_wf HWF.out keep torn (min 32 (max 0 cut)).toNat (by omega)
        have hcl := crash_len D2 keep torn (min 32 (max 0 cut)).toNat
        rw [HLN2.out] at hcl
        have HCW := Hidden.mk (And.intro hcw hcl)
        have hdn8 : (crashD D2 keep torn (min 32 (max 0 cut)).toNat).down = false := rfl
        have HDN8 := Hidden.mk hdn8
        generalize crashD D2 keep torn (min 32 (max 0 cut)).toNat = D3 at *
        have HD8 := Hidden.mk hd8
        clear hd8 hk8 HCR HL7 HWF hcw hcl HLN2 hdn8
        go_wp2_with fail
        refine (HD8.out.fail again ha).mono ?_
        rintro e w9 ⟨rfl, hd9, hk9⟩
        have HD9 := Hidden.mk hd9
        have HL9 := Hidden.mk (HL8.out.keep hk9 (fun _ h => .inl h))
        obtain ⟨st4, l4, pg4, hh4, ho4⟩ := HCC.out
        have HH4 := Hidden.mk (hh4.left (max (-1) again) D3.down)
        have HO4 := Hidden.mk ho4
        have hos := open_safe HH4.out (HCW.out.1.left (max (-1) again) D3.down)
        have HOS := Hidden.mk hos
        have HOP := Hidden.mk (popen_any hd9)
        have HOM := Hidden.mk HH4.out.opened
        have HNP4 := Hidden.mk HH4.out.n0
        rw [HOM.out] at HOP
        dsimp only at HOP
        generalize hr5 : openP { D3 with left := max (-1) again, down := D3.down } = r5 at *
        clear hd9 hk9 hh4 ho4 hos hr5 HCC HOM HL8 HD8 HH4
        go_wp2_with fail
        refine HOP.out.mono ?_
        rintro e w10 hans
        obtain ⟨v10, F10, rfl, hm10, hok⟩ := hans.uni
        rw [← HNP4.out] at hok
        have HM10 := Hidden.mk hm10
        have HOK := Hidden.mk hok
        have HL10 := Hidden.mk (HL9.out.keep hm10.kp hm10.sub)
        obtain ⟨D5, k5⟩ := r5
        dsimp only at *
        obtain ⟨hge, hgn, heq, hneq⟩ := errIs_errV k5
        clear hm10 hok hans HOP HL9 HD9
        go_upto_if 131 with (fail)
        clear hge hgn heq hneq
        go_cut [29] (fun q wx => ∃ (q5 : Nat) (F5 : Nat → Prop) (D : Dv) (st : Nat) (pg : Nat → Bytes), q = .pointer (some ⟨q5, 0, none⟩) ∧ Hidden (Sf5 w wx F5 d q5 go nn np st1 k2 pg1 (pgs Lb) D st pg))
        case first =>
          --{{
          as_aux_lemma =>
          by_cases hk5 : k5 = 0
          · rw [show (k5 == 0) = true by simpa using hk5]
            obtain ⟨q5, rfl, hpq, -⟩ := HOK.out hk5
            have HN : Hidden (Sf5 w w10 F10 d q5 go nn np st1 k2 pg1 (pgs Lb) D5 st4 pg4) := ⟨by
              rcases HOS.out.1 with ⟨-, a, b, c, e⟩ | ⟨a, -⟩
              · exact ⟨HM10.out.dev, hpq, HL10.out, ⟨l4, a⟩, e, HOS.out.2.trans HCW.out.2, c, HO4.out⟩
              · exact absurd a (by omega)⟩
            clear hk5 hpq
            go_wp2_with fail
            go_meet
            exact ⟨q5, F10, D5, st4, pg4, rfl, HN⟩
          · rw [show (k5 == 0) = false by simpa using hk5]
            have HH5 : Hidden (Hold np D5 st4 l4 pg4 ∧ WfD D5 ∧ k5 = 9) := ⟨by
              rcases HOS.out.1 with ⟨a, -⟩ | ⟨a, b, c⟩
              · exact absurd a hk5
              · exact ⟨b, c, a⟩⟩
            obtain rfl : k5 = 9 := HH5.out.2.2
            rw [show errV 9 = .iface 121 (.int .i64 9) from rfl]
            have hg10 := HG.out.below HG.out.lt HM10.out.dev.bel
            clear hk5 HOK
            go_wp2_with fail
            refine (err_some 9 9 _ hg10).mono ?_
            rintro e w11 ⟨rfl, hb11⟩
            have HD11 := Hidden.mk (HM10.out.dev.below hb11)
            have HL11 := Hidden.mk (HL10.out.below hb11)
            have hrk7 := (rdb_of HRK.out).below HD11.out.bel
            have hnk7 : 0 < keep.length → ∀ ad, C = some ad → ¬ F10 ad.block := fun h0 ad e hf => by
              obtain ⟨b, off, hA, hc⟩ := (rdb_of HRK.out) 0 h0
              rw [hA] at e
              obtain rfl := Option.some.inj e
              have := HD11.out.new _ hf
              have := block_lt_of_cell hc
              dsimp only at *; omega
            have HCR := Hidden.mk (HD11.out.crash C keep.length cc keep (-1) 0 rfl hrk7 hnk7)
            have hH6 := HH5.out.1.crash HH5.out.2.1 keep (-1) (min 32 (max 0 (0 : Int))).toNat (by omega)
            have hW6 := crash_wf HH5.out.2.1 keep (-1) (min 32 (max 0 (0 : Int))).toNat (by omega)
            have hU6 : Up (crashD D5 keep (-1) (min 32 (max 0 (0 : Int))).toNat) := ⟨rfl, rfl⟩
            have hN6 := hH6.n0
            have hO6 := open_up hH6 hW6 hU6
            have hl6 := crash_len D5 keep (-1) (min 32 (max 0 (0 : Int))).toNat
            have hl5 := HOS.out.2.trans HCW.out.2
            rw [hl5] at hl6
            have HO6 := Hidden.mk (And.intro hO6 (And.intro hl6 hN6))
            have HM6 := Hidden.mk hH6.opened
            clear hg10 hb11 hrk7 hnk7 hH6 hW6 hU6 hN6 hO6 hl6 hl5 HH5 HM10 HL10
            generalize crashD D5 keep (-1) (min 32 (max 0 (0 : Int))).toNat = D6 at *
            go_wp2_with fail
            refine HCR.out.mono ?_
            rintro e w12 ⟨rfl, hd12, hk12⟩
            have HL12 := Hidden.mk (HL11.out.keep hk12 (fun _ h => .inl h))
            have HOP := Hidden.mk (popen_any hd12)
            rw [HM6.out] at HOP
            dsimp only at HOP
            clear hd12 hk12 HCR HL11 HM6
            go_wp2_with fail
            refine HOP.out.mono ?_
            rintro e w13 hans
            obtain ⟨v13, F13, rfl, hm13, hok⟩ := hans.uni
            rw [← HO6.out.2.2] at hok
            obtain ⟨q5, rfl, hpq, -⟩ := hok HO6.out.1.1
            rw [HO6.out.1.1, errV0]
            have HN : Hidden (Sf5 w w13 F13 d q5 go nn np st1 k2 pg1 (pgs Lb) (openP D6).1 st4 pg4) := ⟨⟨hm13.dev, hpq, HL12.out.keep hm13.kp hm13.sub, ⟨l4, HO6.out.1.2.1⟩, HO6.out.1.2.2.2.2.1, HO6.out.1.2.2.2.2.2.trans HO6.out.2.1, HO6.out.1.2.2.2.1.2, HO4.out⟩⟩
            clear hans hm13 hok hpq HL12 HOP
            go_wp2_with fail
            go_meet
            exact ⟨q5, F13, _, st4, pg4, rfl, HN⟩
          --}}
        case rest =>
          obtain ⟨q5, F5, D5', st5, pg5, rfl, h5⟩ := hcut
          have H5 := Hidden.mk h5.out
          clear h5 HOK HOS HL10 HM10 HO4 HCW HDN8
          go_wp2_with fail
          refine (H5.out.dev.fail (-1) (by omega)).mono ?_
          rintro e w14 ⟨rfl, hd14, hk14⟩
          have hm14 : PdM w _ w14 F5 F5 d _ := ⟨hd14, hk14, fun _ h => .inl h⟩
          have HQ : Hidden (Sf5 w w14 F5 d q5 go nn np st1 k2 pg1 (pgs Lb) { D5' with left := max (-1) (-1), down := D5'.down } st5 pg5) := ⟨by
            obtain ⟨l, hl⟩ := H5.out.full
            exact ⟨hd14, H5.out.pgh.mod hm14, H5.out.ls.keep hk14 (fun _ h => .inl h), ⟨l, hl.left _ _⟩, H5.out.wf.left _ _, H5.out.len, H5.out.dn, H5.out.outc⟩⟩
          have HUP : Hidden (Up { D5' with left := max (-1) (-1), down := D5'.down }) := ⟨⟨rfl, H5.out.dn⟩⟩
          have hbd : st5 ≤ 4 := by rcases H5.out.outc with ⟨a, -⟩ | ⟨a, -⟩ <;> omega
          have HOUT := Hidden.mk H5.out.outc
          generalize ({ D5' with left := max (-1) (-1), down := D5'.down } : Dv) = D6 at *
          clear hd14 hk14 hm14 H5
          have s1 : IntKind.i64.wrap ((st1 : Int) + 1) = (st1 : Int) + 1 := IntWalk.i64_in _ (by omega)
          have HPG6 : Hidden (∀ i, i < np → readD D6 (48 + i) = pg5 i ∧ 48 + i < D6.S.length) := ⟨fun i hi => by
            obtain ⟨l, hl⟩ := HQ.out.full
            have := hl.hold.lens
            exact ⟨(hl.all i hi).2, by omega⟩⟩
          have HNP6 : Hidden (np = nP D6) := ⟨by obtain ⟨l, hl⟩ := HQ.out.full; exact hl.hold.n0⟩
          have HFIN : Hidden ((openP D6).2 = 0 ∧ (openMk D6).1 = st5) := ⟨by
            obtain ⟨l, hl⟩ := HQ.out.full
            exact ⟨(open_up hl.hold HQ.out.wf HUP.out).1, by rw [hl.hold.opened]⟩⟩
          have HPL1 : Hidden (∀ i, i < np → (pg1 i).length = 32) := ⟨fun i hi => (HSF1.out.page i hi).2⟩
          have hpl : (pgs Lb).length = Lb.length := by simp [pgs]
          by_cases hdone : st5 = st1 + 1
          · as_aux_lemma =>
            have hout : pg5 = updPg pg1 (pgs Lb) ∧ (k2 = 0 ∨ k2 = 9) ∧ Lb.length ≠ 0 := by
              rcases HOUT.out with ⟨a, -⟩ | ⟨-, b, c, e⟩
              · omega
              · exact ⟨b, c, by rw [← hpl]; exact e⟩
            have HPG5 := Hidden.mk hout.1
            have hlen0 := hout.2.2
            have hk := hout.2.1
            have c1 : ((st5 : Int) == (st1 : Int) + 1) = true := by simp; omega
            have c2 : ((st5 : Int) == (st1 : Int)) = false := by simp; omega
            have c3 : ((st5 : Int) != (st1 : Int)) = true := by simp; omega
            have c4 : ((Lb.length : Int) == 0) = false := by simpa using hlen0
            have c5 : (Lb.length == 0) = false := by simpa using hlen0
            have c6 : decide (0 < Lb.length) = true := by simp; omega
            have c7 : (st5 == st1) = false := by simp; omega
            have c8 : (st5 != st1) = true := by simp; omega
            clear hdone hout hlen0 hpl HOUT
            have HLOOP : Hidden (∀ i, i < np → wantF pg1 (pgs Lb) i (pgs Lb).length = pg5 i) := ⟨fun i _ => by unfold wantF; rw [List.take_of_length_le (Nat.le_refl _), HPG5.out]⟩
            have HPLB : Hidden ((pgs Lb).length = Lb.length) := ⟨by simp [pgs]⟩
            have HP5L : Hidden (∀ i, i < np → (pg5 i).length = 32) := ⟨fun i hi => by
              have h := HPG6.out i hi
              rw [← h.1]
              exact HQ.out.wf.rd h.2⟩
            go_wp2_with fail
            refine (pstamp_any HQ.out.pgh).mono ?_
            rintro e w' ⟨rfl, rfl⟩
            go_upto_region 36 with (fail)
            go_cut [183] (fun c wx => c = .bool false ∧ Hidden (Sf5 w wx F5 d q5 go nn np st1 k2 pg1 (pgs Lb) D6 st5 pg5))
            case first =>
              obtain ⟨hge, hgn, heq, hneq⟩ := errIs_errV k2
              by_cases hk0 : k2 = 0
              · have z0 : (k2 == 0) = true := by simpa using hk0
                clear hk0
                go_wp2_with fail
                refine (pstamp_any HQ.out.pgh).mono ?_
                rintro e w' ⟨rfl, rfl⟩
                go_wp2_with fail
                go_meet
                exact ⟨rfl, HQ⟩
              · have z0 : (k2 == 0) = false := by simpa using hk0
                have HK0 := Hidden.mk hk0
                clear hk0
                go_wp2_with fail
                refine (pstamp_any HQ.out.pgh).mono ?_
                rintro e w' ⟨rfl, rfl⟩
                go_wp2_with fail
                go_meet
                exact ⟨rfl, HQ⟩
            case rest =>
              obtain ⟨rfl, hq⟩ := hcut
              have HQ := Hidden.mk hq.out
              clear hq
              go_upto_region 38 with (fail)
              go_cut [193] (fun c wx => c = .bool false ∧ Hidden (Sf5 w wx F5 d q5 go nn np st1 k2 pg1 (pgs Lb) D6 st5 pg5))
              case first =>
                obtain ⟨hge, hgn, heq, hneq⟩ := errIs_errV k2
                by_cases hk0 : k2 = 0
                · have z0 : (k2 == 0) = true := by simpa using hk0
                  clear hk0
                  go_wp2_with fail
                  go_meet
                  exact ⟨rfl, HQ⟩
                · have z0 : (k2 == 0) = false := by simpa using hk0
                  have HK0 := Hidden.mk hk0
                  clear hk0
                  have hg14 := HG.out.below HG.out.lt HQ.out.dev.bel
                  go_wp2_with fail
                  refine (err_any k2 9 _ hg14).mono ?_
                  rintro e w15 ⟨rfl, hb15⟩
                  have HQ9 := Hidden.mk (HQ.out.below hb15)
                  have c9 : ((k2 : Int) == 9) = true := by
                    have h9 : k2 = 9 := by have := HK0.out; omega
                    rw [h9]; rfl
                  go_wp2_with fail
                  go_meet
                  exact ⟨rfl, HQ9⟩
              case rest =>
                obtain ⟨rfl, hq⟩ := hcut
                have HQ9 := Hidden.mk hq.out
                clear hq HQ c1 c2 c3 c4 c5 c6 c7 c8 s1 hk
                go_wp2_with fail
                go_loopg [32] np (fun m iv wx => ∃ i : Nat, i ≤ np ∧ m = np - i ∧ iv = .int .i64 (i : Int) ∧ Hidden (Sf5 w wx F5 d q5 go nn np st1 k2 pg1 (pgs Lb) D6 st5 pg5))
                case atStart => exact ⟨0, by omega, rfl, rfl, HQ9⟩
                case round =>
                  obtain ⟨i, hi, rfl, rfl, h6⟩ := hrel
                  by_cases hlt : i < np
                  · have HIN := Hidden.mk hlt
                    have i0 : (0 : Int) ≤ i := by omega
                    have i1 : (i : Int) < np := by omega
                    have s2 : IntKind.i64.wrap ((i : Int) + 1) = (i : Int) + 1 := IntWalk.i64_in _ (by omega)
                    have HRD := Hidden.mk (pread_ok h6.out.dev (by rw [← HNP6.out]; exact h6.out.pgh) i (by rw [← HNP6.out]; exact hlt) h6.out.dn)
                    rw [(HPG6.out i hlt).1] at HRD
                    have HS6 := Hidden.mk h6.out
                    have hpl1 := HPL1.out i hlt
                    have HPI := Hidden.mk hpl1
                    clear h6 hpl1
                    go_wp2_with fail
                    refine (plen_any HS6.out.pgh).mono ?_
                    rintro e w' ⟨rfl, rfl⟩
                    go_wp2_with fail
                    refine HRD.out.mono ?_
                    rintro e w21 ⟨g, cap, rfl, -, hr21, hb21⟩
                    have HS7 := Hidden.mk (HS6.out.below hb21)
                    obtain ⟨g1, cg1, y0, yr, -⟩ := HS7.out.ls.cell i hlt
                    have HYR := Hidden.mk yr
                    have H411 := Hidden.mk hr21
                    clear HS6 hb21 hr21 yr HRD
                    go_wp2_with fail
                    go_loopg [35, 36] Lb.length (fun m v35 jv wx => ∃ (j : Nat) (A' : Option Addr) (c' : Nat), j ≤ Lb.length ∧ m = Lb.length - j ∧ v35 = .slice A' (wantF pg1 (pgs Lb) i j).length c' ∧ jv = .int .i64 (j : Int) ∧ w21 = wx ∧ Hidden (Rd w21 A' (wantF pg1 (pgs Lb) i j)))
                    case atStart => exact ⟨0, some ⟨g1, 0, none⟩, cg1, by omega, rfl, by show _ = Value.slice _ (pg1 i).length _; rw [HPI.out], rfl, rfl, ⟨HYR.out.rd⟩⟩
                    case round =>
                      obtain ⟨j, A', c', hj, rfl, rfl, rfl, rfl, hrw⟩ := hrel
                      by_cases hlt2 : j < Lb.length
                      · have j0 : (0 : Int) ≤ j := by omega
                        have j1 : (j : Int) < Lb.length := by omega
                        have s3 : IntKind.i64.wrap ((j : Int) + 1) = (j : Int) + 1 := IntWalk.i64_in _ (by omega)
                        obtain ⟨pb, off, rfl, hc⟩ := HRB.out j hlt2
                        have e0 := hc 0 _ rfl
                        have e1 := hc 1 _ rfl
                        rw [Nat.add_zero] at e0
                        have plt := block_lt_of_cell e0
                        have x0 := (HS7.out.dev.bel.cell (p := ⟨pb, off + j * 2, none⟩) plt).trans e0
                        have x1 := (HS7.out.dev.bel.cell (p := ⟨pb, off + j * 2 + 1, none⟩) plt).trans e1
                        have hws := wantF_succ pg1 (pgs Lb) i j (by rw [HPLB.out]; exact hlt2)
                        have hpj : (pgs Lb)[j]'(by rw [HPLB.out]; exact hlt2) = (Lb[j].num, Lb[j].body) := by simp [pgs]
                        rw [hpj] at hws
                        have hbr := (HOB.out Lb[j] (List.getElem_mem hlt2)).rd.below HS7.out.dev.bel
                        generalize Lb[j] = x at *
                        obtain ⟨num, xA, xc, body⟩ := x
                        dsimp only at *
                        have HWS := Hidden.mk hws
                        have HBR := Hidden.mk hbr
                        clear hc e0 e1 plt hpj hws hbr
                        by_cases hnum : num = (i : Int)
                        · have t6 : (num == (i : Int)) = true := by simpa using hnum
                          have HN : Hidden (wantF pg1 (pgs Lb) i (j + 1) = body) := ⟨by rw [HWS.out, if_pos hnum]⟩
                          clear hnum HWS hrw
                          go_wp2_with fail
                          go_roundg (Lb.length - (j + 1))
                          case measure => omega
                          case rel => exact ⟨j + 1, xA, xc, by omega, rfl, by rw [HN.out], by go_num, rfl, ⟨by rw [HN.out]; exact HBR.out⟩⟩
                        · have t6 : (num == (i : Int)) = false := by simpa using hnum
                          have HN : Hidden (wantF pg1 (pgs Lb) i (j + 1) = wantF pg1 (pgs Lb) i j) := ⟨by rw [HWS.out, if_neg hnum]⟩
                          clear hnum HWS HBR
                          go_wp2_with fail
                          go_roundg (Lb.length - (j + 1))
                          case measure => omega
                          case rel => exact ⟨j + 1, A', c', by omega, rfl, by rw [HN.out], by go_num, rfl, ⟨by rw [HN.out]; exact hrw.out⟩⟩
                      · obtain rfl : j = Lb.length := by omega
                        have hwe : wantF pg1 (pgs Lb) i Lb.length = pg5 i := by rw [← HPLB.out]; exact HLOOP.out i HIN.out
                        have hrw2 := hrw.out
                        rw [hwe] at hrw2
                        rw [hwe]
                        have hl5 := HP5L.out i HIN.out
                        rw [hl5]
                        have v1 := conv_text w21 (some ⟨g, 0, none⟩) 32 cap (pg5 i) hl5 H411.out.rd
                        have v2 := conv_text w21 A' 32 c' (pg5 i) hl5 hrw2
                        have t7 : decide (Lb.length < Lb.length) = false := by simp
                        clear hwe hrw2 hl5 hrw
                        go_wp2_with fail
                        go_roundg (np - (i + 1))
                        case measure => omega
                        case rel => exact ⟨i + 1, by omega, rfl, by go_num, HS7⟩
                  · obtain rfl : np = i := by omega
                    have t5 : decide ((np : Int) < np) = false := by simp
                    have HOP := Hidden.mk (popen_any h6.out.dev)
                    have HS6 := Hidden.mk h6.out
                    clear h6
                    go_wp2_with fail
                    refine (plen_any HS6.out.pgh).mono ?_
                    rintro e w' ⟨rfl, rfl⟩
                    go_wp2_with fail
                    refine HOP.out.mono ?_
                    rintro e w20 hans
                    obtain ⟨v20, F20, rfl, hm20, hok⟩ := hans.uni
                    rw [HFIN.out.2] at hok
                    obtain ⟨q7, rfl, hp7, -⟩ := hok HFIN.out.1
                    rw [HFIN.out.1, errV0]
                    have HP7 := Hidden.mk hp7
                    have HPQ7 := Hidden.mk (HS6.out.pgh.keep hm20.kp hm20.sub)
                    have HB20 := Hidden.mk hm20.dev.bel
                    clear hans hok hp7 hm20 HOP t5
                    go_wp2_with fail
                    refine (pstamp_any HP7.out).mono ?_
                    rintro e w' ⟨rfl, rfl⟩
                    go_wp2_with fail
                    refine (pstamp_any HPQ7.out).mono ?_
                    rintro e w' ⟨rfl, rfl⟩
                    go_wp2_with fail
                    go_ret
                    exact ⟨rfl, HB20.out⟩
          · as_aux_lemma =>
            have hout : st5 = st1 ∧ pg5 = pg1 ∧ (k2 = 0 → Lb.length = 0) := by
              rcases HOUT.out with ⟨a, b, c⟩ | ⟨a, -⟩
              · exact ⟨a, b, fun h => by rw [← hpl]; exact c h⟩
              · exact absurd a hdone
            have HPG5 := Hidden.mk hout.2.1
            have hk := hout.2.2
            obtain rfl : st1 = st5 := hout.1.symm
            have c1 : ((st1 : Int) == (st1 : Int) + 1) = false := by simp; omega
            have c2 : ((st1 : Int) == (st1 : Int)) = true := by simp
            have c3 : ((st1 : Int) != (st1 : Int)) = false := by simp
            have c4 : (st1 == st1) = true := by simp
            have c5 : (st1 != st1) = false := by simp
            clear hdone hout hpl HOUT
            go_wp2_with fail
            refine (pstamp_any HQ.out.pgh).mono ?_
            rintro e w' ⟨rfl, rfl⟩
            go_upto_region 36 with (fail)
            go_cut [183] (fun c wx => c = .bool false ∧ Hidden (Sf5 w wx F5 d q5 go nn np st1 k2 pg1 (pgs Lb) D6 st1 pg5))
            case first =>
              obtain ⟨hge, hgn, heq, hneq⟩ := errIs_errV k2
              by_cases hk0 : k2 = 0
              · have z0 : (k2 == 0) = true := by simpa using hk0
                have c6 : decide (0 < Lb.length) = false := decide_eq_false (by have := hk hk0; omega)
                have c7 : (Lb.length == 0) = true := by rw [hk hk0]; rfl
                have c8 : ((Lb.length : Int) == 0) = true := by rw [hk hk0]; rfl
                clear hk0
                go_wp2_with fail
                refine (pstamp_any HQ.out.pgh).mono ?_
                rintro e w' ⟨rfl, rfl⟩
                go_wp2_with fail
                go_meet
                exact ⟨rfl, HQ⟩
              · have z0 : (k2 == 0) = false := by simpa using hk0
                have HK0 := Hidden.mk hk0
                clear hk0
                by_cases hl0 : Lb.length = 0
                · have c7 : (Lb.length == 0) = true := by rw [hl0]; rfl
                  have c8 : ((Lb.length : Int) == 0) = true := by rw [hl0]; rfl
                  clear hl0
                  go_wp2_with fail
                  refine (pstamp_any HQ.out.pgh).mono ?_
                  rintro e w' ⟨rfl, rfl⟩
                  go_wp2_with fail
                  go_meet
                  exact ⟨rfl, HQ⟩
                · have c7 : (Lb.length == 0) = false := by simpa using hl0
                  have c8 : ((Lb.length : Int) == 0) = false := by simpa using hl0
                  clear hl0
                  go_wp2_with fail
                  refine (pstamp_any HQ.out.pgh).mono ?_
                  rintro e w' ⟨rfl, rfl⟩
                  go_wp2_with fail
                  go_meet
                  exact ⟨rfl, HQ⟩
            case rest =>
              obtain ⟨rfl, hq⟩ := hcut
              have HQ := Hidden.mk hq.out
              clear hq
              go_upto_region 38 with (fail)
              go_cut [193] (fun c wx => c = .bool false ∧ Hidden (Sf5 w wx F5 d q5 go nn np st1 k2 pg1 (pgs Lb) D6 st1 pg5))
              case first =>
                obtain ⟨hge, hgn, heq, hneq⟩ := errIs_errV k2
                by_cases hk0 : k2 = 0
                · have z0 : (k2 == 0) = true := by simpa using hk0
                  clear hk0
                  go_wp2_with fail
                  go_meet
                  exact ⟨rfl, HQ⟩
                · have z0 : (k2 == 0) = false := by simpa using hk0
                  have HK0 := Hidden.mk hk0
                  clear hk0
                  have hg14 := HG.out.below HG.out.lt HQ.out.dev.bel
                  go_wp2_with fail
                  refine (err_any k2 9 _ hg14).mono ?_
                  rintro e w15 ⟨rfl, hb15⟩
                  have HQ9 := Hidden.mk (HQ.out.below hb15)
                  cases hc9 : ((k2 : Int) == 9)
                  all_goals
                    go_wp2_with fail
                    go_meet
                    exact ⟨rfl, HQ9⟩
              case rest =>
                obtain ⟨rfl, hq⟩ := hcut
                have HQ9 := Hidden.mk hq.out
                clear hq HQ c1 c2 c3 c4 c5 s1 hk
                go_wp2_with fail
                go_loopg [32] np (fun m iv wx => ∃ i : Nat, i ≤ np ∧ m = np - i ∧ iv = .int .i64 (i : Int) ∧ Hidden (Sf5 w wx F5 d q5 go nn np st1 k2 pg1 (pgs Lb) D6 st1 pg5))
                case atStart => exact ⟨0, by omega, rfl, rfl, HQ9⟩
                case round =>
                  obtain ⟨i, hi, rfl, rfl, h6⟩ := hrel
                  by_cases hlt : i < np
                  · have HIN := Hidden.mk hlt
                    have i0 : (0 : Int) ≤ i := by omega
                    have i1 : (i : Int) < np := by omega
                    have s2 : IntKind.i64.wrap ((i : Int) + 1) = (i : Int) + 1 := IntWalk.i64_in _ (by omega)
                    have HRD := Hidden.mk (pread_ok h6.out.dev (by rw [← HNP6.out]; exact h6.out.pgh) i (by rw [← HNP6.out]; exact hlt) h6.out.dn)
                    rw [(HPG6.out i hlt).1] at HRD
                    have HS6 := Hidden.mk h6.out
                    have hpl1 := HPL1.out i hlt
                    have HPI := Hidden.mk hpl1
                    clear h6 hpl1
                    go_wp2_with fail
                    refine (plen_any HS6.out.pgh).mono ?_
                    rintro e w' ⟨rfl, rfl⟩
                    go_wp2_with fail
                    refine HRD.out.mono ?_
                    rintro e w21 ⟨g, cap, rfl, -, hr21, hb21⟩
                    have HS7 := Hidden.mk (HS6.out.below hb21)
                    obtain ⟨g1, cg1, y0, yr, -⟩ := HS7.out.ls.cell i hlt
                    have HYR := Hidden.mk yr
                    have H411 := Hidden.mk hr21
                    clear HS6 hb21 hr21 yr HRD
                    go_wp2_with fail
                    go_loopg [35, 36] 1 (fun m v35 jv wx => m = 1 ∧ v35 = .slice (some ⟨g1, 0, none⟩) 32 cg1 ∧ jv = .int .i64 0 ∧ w21 = wx)
                    case atStart => exact ⟨rfl, rfl, rfl, rfl⟩
                    case round =>
                      obtain ⟨rfl, rfl, rfl, rfl⟩ := hrel
                      have v1 := conv_text w21 (some ⟨g, 0, none⟩) 32 cap (pg1 i) HPI.out (by have := H411.out.rd; rwa [HPG5.out] at this)
                      have v2 := conv_text w21 (some ⟨g1, 0, none⟩) 32 cg1 (pg1 i) HPI.out HYR.out.rd
                      by_cases hl0 : 0 < Lb.length
                      all_goals
                        go_wp2_with fail
                        go_roundg (np - (i + 1))
                        case measure => omega
                        case rel => exact ⟨i + 1, by omega, rfl, by go_num, HS7⟩
                  · obtain rfl : np = i := by omega
                    have t5 : decide ((np : Int) < np) = false := by simp
                    have HOP := Hidden.mk (popen_any h6.out.dev)
                    have HS6 := Hidden.mk h6.out
                    clear h6
                    go_wp2_with fail
                    refine (plen_any HS6.out.pgh).mono ?_
                    rintro e w' ⟨rfl, rfl⟩
                    go_wp2_with fail
                    refine HOP.out.mono ?_
                    rintro e w20 hans
                    obtain ⟨v20, F20, rfl, hm20, hok⟩ := hans.uni
                    rw [HFIN.out.2] at hok
                    obtain ⟨q7, rfl, hp7, -⟩ := hok HFIN.out.1
                    rw [HFIN.out.1, errV0]
                    have HP7 := Hidden.mk hp7
                    have HPQ7 := Hidden.mk (HS6.out.pgh.keep hm20.kp hm20.sub)
                    have HB20 := Hidden.mk hm20.dev.bel
                    clear hans hok hp7 hm20 HOP t5
                    go_wp2_with fail
                    refine (pstamp_any HP7.out).mono ?_
                    rintro e w' ⟨rfl, rfl⟩
                    go_wp2_with fail
                    refine (pstamp_any HPQ7.out).mono ?_
                    rintro e w' ⟨rfl, rfl⟩
                    go_wp2_with fail
                    go_ret
                    exact ⟨rfl, HB20.out⟩
end Go.Proofs.YtgejkhokijjemaaDoor
