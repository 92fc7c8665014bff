/- The contract of diff.Apply. -/
import Derived.Test.YtmahnlkbbpbeoaaDiff2
import Derived.Test.YtmahnlkbbpbeoaaDiffA
import Derived.Test.YtmahnlkbbpbeoaaStamp1
namespace Go.Proofs.Ytmahnlkbbpbeoaa
open Go.RowKit

/-- the cells of one change, wherever its bytes lie -/
structure ChAny (w : World) (g off i : Nat) (c : Chg) (Ao An : Option Addr) (co cn : Nat) : Prop where
  at_ : w.cell? ⟨g, off + i * 3, none⟩ = some (.int .i64 c.at_)
  old : w.cell? ⟨g, off + i * 3 + 1, none⟩ = some (.slice Ao c.old.length co)
  new : w.cell? ⟨g, off + i * 3 + 2, none⟩ = some (.slice An c.new.length cn)
  rdO : Rd w Ao c.old
  rdN : Rd w An c.new
  leO : c.old.length ≤ co
  leN : c.new.length ≤ cn
/-- the slice at A has the changes L, wherever their bytes lie -/
def RdG (w : World) (A : Option Addr) (L : List Chg) : Prop := ∀ i (h : i < L.length), ∃ g off Ao An co cn, A = some ⟨g, off, none⟩ ∧ ChAny w g off i L[i] Ao An co cn
theorem RdC.rdg {w : World} {A : Option Addr} {L : List Chg} (h : RdC w A L) : RdG w A L := fun i hi => by
  obtain ⟨g, off, go, co, gn, cn, hA, hc⟩ := h i hi
  exact ⟨g, off, _, _, co, cn, hA, hc.at_, hc.old, hc.new, hc.rowO.rd, hc.rowN.rd, hc.rowO.le.1, hc.rowN.le.1⟩
theorem ChAny.below {w w' : World} {g off i : Nat} {c : Chg} {Ao An : Option Addr} {co cn : Nat} (h : ChAny w g off i c Ao An co cn) (hb : Below w.heap.size w w') : ChAny w' g off i c Ao An co cn :=
  ⟨(hb.cell (block_lt_of_cell h.at_)).trans h.at_, (hb.cell (block_lt_of_cell h.old)).trans h.old, (hb.cell (block_lt_of_cell h.new)).trans h.new, h.rdO.below hb, h.rdN.below hb, h.leO, h.leN⟩
theorem RdG.below {w w' : World} {A : Option Addr} {L : List Chg} (h : RdG w A L) (hb : Below w.heap.size w w') : RdG w' A L := fun i hi => by
  obtain ⟨g, off, Ao, An, co, cn, hA, hc⟩ := h i hi
  exact ⟨g, off, Ao, An, co, cn, hA, hc.below hb⟩

/-- b[i:k] of bytes, wherever i stands -/
theorem run_cut_any (A : Option Addr) (n c i k : Nat) (hik : i ≤ k) (hkc : k ≤ c) (W : World) :
    (Instr.sliceAt 22 (.slice A n c) (some (.int .i64 i)) (some (.int .i64 k)) none).run Try.prog W = .ok (.slice (if c = i then A else A.map (·.add i)) (k - i) (c - i)) W := by
  obtain ⟨i0, hi0, hz0, hz1, hz2⟩ := info_parts byte_info
  simp [Instr.sliceAt, Instr.slice, Instr.sliceBounds, Instr.sliceBound, run_underlying Try.underlying22, asIntOf, sizeOf, typeInfo, hi0, hz1, hik, hkc]
/-- b[i:] of bytes -/
theorem run_tail_any (A : Option Addr) (n c i : Nat) (hin : i ≤ n) (W : World) :
    (Instr.sliceAt 22 (.slice A n c) (some (.int .i64 i)) none none).run Try.prog W = .ok (.slice (if c = i then A else A.map (·.add i)) (n - i) (c - i)) W := by
  obtain ⟨i0, hi0, hz0, hz1, hz2⟩ := info_parts byte_info
  simp [Instr.sliceAt, Instr.slice, Instr.sliceBounds, Instr.sliceBound, run_underlying Try.underlying22, asIntOf, sizeOf, typeInfo, hi0, hz1, hin]

theorem apply_e4 (A B : Option Addr) (n m c d : Nat) (w : World) (h : 200 < m) :
    Calls Try.prog 15 #[.slice A n c, .slice B m d] w fun e w' => e = .returned (.tuple #[.slice none 0 0, .iface 80 (.int .i64 4)]) ∧ w = w' := by
  go_enter Try.func15, Try.ntmps15
  go_wp2
  go_ret2
  exact ⟨rfl, rfl⟩

set_option maxRecDepth 100000 in
theorem apply_some (ad : Addr) (n c : Nat) (b : Bytes) (LA : Option Addr) (m d : Nat) (L : List Chg) (w : World) (hn : b.length = n) (hnl : n ≤ 140737488351232) (hb : Rd w (some ad) b) (hm : L.length = m) (hm2 : m ≤ 200) (hmd : m ≤ d) (hL : RdG w LA L) :
    Calls Try.prog 15 #[.slice (some ad) n c, .slice LA m d] w fun e w' => Below w.heap.size w w' ∧ ((∃ x, applyL b L = .error x ∧ e = .returned (.tuple #[.slice none 0 0, .iface 80 (.int .i64 x)])) ∨
      ∃ b' g cap, applyL b L = .ok b' ∧ e = .returned (.tuple #[.slice (some ⟨g, 0, none⟩) n cap, .nilIface]) ∧ w.heap.size ≤ g ∧ b'.length = n ∧ Row w' 5 g cap b') := by
  subst hn hm
  go_enter Try.func15, Try.ntmps15
  go_wp2_with fail
  refine (clone_some ad b.length c b _ rfl hnl hb).mono ?_
  rintro e w1 ⟨g, cap, rfl, hg, hrow1, hb1⟩
  have hcap := hrow1.le.1
  go_wp2_with fail
  go_loopw [17] (fun kv wr => ∃ (k : Nat) (cur : Bytes), kv = .int .i64 k ∧ k ≤ L.length ∧ cur.length = b.length ∧ Below w.heap.size w wr ∧ Row wr 5 g cap cur ∧ Hidden (applyL cur (L.drop k) = applyL b L)) (fun kv _ => L.length - (intOf kv).toNat)
  case atStart => exact ⟨0, b, rfl, Nat.zero_le _, rfl, hb1, hrow1, ⟨by simp⟩⟩
  case round =>
    obtain ⟨k, cur, rfl, hk, hcl, hbel, hrow, HL⟩ := hrel
    by_cases hlt : k < L.length
    · have HD : Hidden (applyL b L = match apply1 cur L[k] with | .error e => .error e | .ok b' => applyL b' (L.drop (k + 1))) := ⟨by
        rw [← HL.out, List.drop_eq_getElem_cons hlt]; rfl⟩
      clear HL
      obtain ⟨gl, off, Ao, An, co, cn, rfl, hc⟩ := (hL.below hbel) k hlt
      have k0 : (0 : Int) ≤ k := by omega
      have k1 : (k : Int) < L.length := by omega
      obtain ⟨a1, a2, a3, rO, rN, lO, lN⟩ := hc
      generalize L[k] = ch at *
      obtain ⟨at_, old, new⟩ := ch
      dsimp only at a1 a2 a3 rO rN lO lN HD
      generalize ho : old.length = no at *
      generalize hnw : new.length = nn at *
      have hgl : g < wr.heap.size := hrow.lt
      by_cases h1 : at_ < 0
      · have HE : Hidden (applyL b L = .error 1) := ⟨by rw [HD.out]; simp [apply1, h1]⟩
        clear HD
        go_wp2_with fail
        go_ret2
        exact ⟨hbel.alloc hbel.size _, .inl ⟨1, HE.out, rfl⟩⟩
      · obtain ⟨j, rfl⟩ := Int.eq_ofNat_of_zero_le (show 0 ≤ at_ by omega)
        by_cases h2 : b.length < j
        · have HE : Hidden (applyL b L = .error 1) := ⟨by rw [HD.out]; unfold apply1; rw [if_pos (by dsimp only; omega)]⟩
          clear HD
          go_wp2_with fail
          go_ret2
          exact ⟨hbel.alloc hbel.size _, .inl ⟨1, HE.out, rfl⟩⟩
        · have s1 : IntKind.i64.wrap ((b.length : Int) - j) = (b.length : Int) - j := IntWalk.i64_in _ (by omega)
          by_cases h3 : b.length - j < no
          · have HE : Hidden (applyL b L = .error 1) := ⟨by rw [HD.out]; unfold apply1; rw [if_pos (by dsimp only; omega)]⟩
            clear HD
            go_wp2_with fail
            go_ret2
            exact ⟨hbel.alloc hbel.size _, .inl ⟨1, HE.out, rfl⟩⟩
          · by_cases h4 : no = nn
            · subst h4
              have t1 : decide ((b.length : Int) < j) = false := by simp; omega
              have t2 : decide ((b.length : Int) - j < no) = false := by simp; omega
              have s2 : IntKind.i64.wrap ((j : Int) + no) = (j : Int) + no := IntWalk.i64_in _ (by omega)
              have hcl2 : ((cur.drop j).take no).length = no := by simp; omega
              obtain ⟨A', hA'⟩ : ∃ A' : Option Addr, A' = (if cap = j then some ⟨g, 0, none⟩ else (some (⟨g, 0, none⟩ : Addr)).map (·.add j)) := ⟨_, rfl⟩
              have hcut := run_cut_any (some ⟨g, 0, none⟩) b.length cap j (j + no) (by omega) (by omega)
              have htl := run_tail_any (some ⟨g, 0, none⟩) b.length cap j (by omega)
              rw [Nat.add_sub_cancel_left, Int.natCast_add, ← hA'] at hcut
              rw [← hA'] at htl
              have hBX : Below wr.heap.size wr (wr.alloc (.cells #[.int .i64 j, .slice Ao no co, .slice An no cn] 97)) := (Below.refl _ _).alloc (Nat.le_refl _) _
              have hrdc : Rd wr A' ((cur.drop j).take no) := by
                have := hrow.rd.cutIf j no cap (by omega) (by omega)
                rw [hA']; exact this
              have hrx := hrdc.below hBX
              have rOx := rO.below hBX
              have rNx := rN.below hBX
              have hrowx := hrow.below hBX hgl
              have hbx : Below w.heap.size w (wr.alloc (.cells #[.int .i64 j, .slice Ao no co, .slice An no cn] 97)) := hbel.alloc hbel.size _
              have hc0 : (wr.alloc (.cells #[.int .i64 j, .slice Ao no co, .slice An no cn] 97)).cell? ⟨wr.heap.size, 0, none⟩ = some (.int .i64 j) := by simp
              have hc1 : (wr.alloc (.cells #[.int .i64 j, .slice Ao no co, .slice An no cn] 97)).cell? ⟨wr.heap.size, 1, none⟩ = some (.slice Ao no co) := by simp
              have hc2 : (wr.alloc (.cells #[.int .i64 j, .slice Ao no co, .slice An no cn] 97)).cell? ⟨wr.heap.size, 2, none⟩ = some (.slice An no cn) := by simp
              have HA' := Hidden.mk hA'
              clear hA' hrdc hBX
              go_wp2_with fail
              generalize wr.alloc (.cells #[.int .i64 j, .slice Ao no co, .slice An no cn] 97) = w2 at *
              obtain ⟨q, hq⟩ : ∃ q : Bool, ((cur.drop j).take no == old) = q := ⟨_, rfl⟩
              have HQ := Hidden.mk hq
              clear hq
              go_quiet ((go_at_call 36; refine Calls.quiet_of_same (v := .bool q) ((equal_any A' Ao no no _ _ ((cur.drop j).take no) old _ hcl2 ho (hrx.drewN _) (rOx.drewN _)).mono ?_); rintro e w' ⟨rfl, rfl⟩; exact ⟨by rw [HQ.out], rfl⟩))
              cases q with
              | true =>
                have h5 : (cur.drop j).take no = old := by simpa using HQ.out
                have HE : Hidden (applyL b L = applyL (splice cur j new) (L.drop (k + 1))) := ⟨by
                  rw [HD.out]; unfold apply1
                  rw [if_neg (by dsimp only; omega), if_neg (by dsimp only; omega), if_neg (by dsimp only; rw [ho, Int.toNat_natCast]; simpa using h5)]
                  simp⟩
                clear HD h5 HQ
                go_wp2_with fail
                have hrow3 : Row (w2.drewN nq) 5 g cap cur := hrowx
                have rN3 : Rd (w2.drewN nq) An new := rNx
                have hd0 : (w2.drewN nq).cell? ⟨wr.heap.size, 0, none⟩ = some (.int .i64 j) := hc0
                have hd2 : (w2.drewN nq).cell? ⟨wr.heap.size, 2, none⟩ = some (.slice An no cn) := hc2
                have hb3 : Below w.heap.size w (w2.drewN nq) := below_drewN hbx nq
                clear hc0 hc1 hc2 hbx hrowx rNx rOx hrx
                generalize w2.drewN nq = w3 at *
                obtain ⟨cur0, hcur, _, _, hcs, _⟩ := id hrow3
                have hrow4 := hrow3.set_ j new (by omega) cur0 hcur
                have hB4 : Below w.heap.size w (w3.setRow g (setB cur0 j (new.map bv))) := below_setRow hb3 hg _
                have hcopy : ∀ ty, (Builtin.copy_ #[22, 22] ty #[.slice A' (b.length - j) (cap - j), .slice An no cn]).run Try.prog w3.drew = .ok (.int .i64 (no : Int)) ((w3.setRow g (setB cur0 j (new.map bv))).drew) := fun ty => by
                  have hmin : no = Nat.min no (b.length - j) := (Nat.min_eq_left (by omega)).symm
                  by_cases hcj : cap = j
                  · have h0 : no = 0 := by omega
                    rw [HA'.out, if_pos hcj]
                    have := run_copy_rd w3.drew g 0 (b.length - j) (cap - j) no cn no An new cur0 5 hcur hnw rN3 hmin (by omega) ty
                    rw [List.take_of_length_le (by omega)] at this
                    have hnil : new = [] := List.eq_nil_of_length_eq_zero (by omega)
                    rw [hnil] at this ⊢
                    simp only [List.map_nil, setB_nil] at this ⊢
                    exact this
                  · rw [HA'.out, if_neg hcj]
                    have := run_copy_rd w3.drew g j (b.length - j) (cap - j) no cn no An new cur0 5 hcur hnw rN3 hmin (by omega) ty
                    rw [List.take_of_length_le (by omega)] at this
                    simp only [Option.map_some, Addr.add_lit, Nat.zero_add]
                    exact this
                have hsl : (splice cur j new).length = b.length := by rw [splice_len _ _ _ (by omega), hcl]
                generalize w3.setRow g (setB cur0 j (new.map bv)) = w4 at *
                clear hcur hcs hrow3
                go_region
                go_wp2_with fail
                go_roundw
                case rel => exact ⟨k + 1, _, by go_num, by omega, hsl, hB4.drew, hrow4, ⟨HE.out.symm⟩⟩
                case measure => simp [intOf]; omega
              | false =>
                have h5 : ¬ (cur.drop j).take no = old := by simpa using HQ.out
                have HE : Hidden (applyL b L = .error 6) := ⟨by
                  rw [HD.out]; unfold apply1
                  rw [if_neg (by dsimp only; omega), if_neg (by dsimp only; omega), if_pos (by dsimp only; rw [ho, Int.toNat_natCast]; exact h5)]⟩
                clear HD h5 HQ
                go_wp2_with fail
                go_ret2
                exact ⟨below_drewN hbx _, .inl ⟨6, HE.out, rfl⟩⟩
            · have HE : Hidden (applyL b L = .error 3) := ⟨by rw [HD.out]; unfold apply1; rw [if_neg (by dsimp only; omega), if_pos (by dsimp only; omega)]⟩
              have t3 : ((no : Int) != (nn : Int)) = true := by simp; omega
              clear HD
              go_wp2_with fail
              go_ret2
              exact ⟨hbel.alloc hbel.size _, .inl ⟨3, HE.out, rfl⟩⟩
    · go_wp2_with fail
      go_ret2
      have hfin := HL.out
      rw [show L.drop k = [] from by simp; omega] at hfin
      exact ⟨hbel, .inr ⟨cur, g, cap, hfin.symm, rfl, hg, hcl, hrow⟩⟩
end Go.Proofs.Ytmahnlkbbpbeoaa
