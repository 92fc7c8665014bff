/- Contracts and plain laws, put together: ReachQ, RefWP, LayN, Keys3, Reach4, StatSums1. -/
import Derived.Test.YtcahgmnkphmnhaaGreatStatSumsFrameM5
import Derived.Test.YtcahgmnkphmnhaaGreatStatSumsFrameM3
/- Package reach, plain: of all ways the least one. -/
namespace Go.Proofs.YtcahgmnkphmnhaaGreat
open Go.RowKit

def lexLt : List Nat → List Nat → Bool
  | x :: a, y :: b => if x = y then lexLt a b else decide (x < y)
  | _, _ => false
/-- one way is ahead of another -/
def lessW (a b : List Nat) : Bool := if a.length = b.length then lexLt a b else decide (a.length < b.length)
theorem lexLt_irrefl : ∀ a, lexLt a a = false
  | [] => rfl
  | x :: a => by unfold lexLt; rw [if_pos rfl]; exact lexLt_irrefl a
theorem lexLt_trans : ∀ {a b c : List Nat}, lexLt a b = true → lexLt b c = true → lexLt a c = true
  | [], _, _, h, _ => by simp [lexLt] at h
  | _ :: _, [], _, h, _ => by simp [lexLt] at h
  | _ :: _, _ :: _, [], _, h => by simp [lexLt] at h
  | x :: a, y :: b, z :: c, h1, h2 => by
    unfold lexLt at *
    by_cases e1 : x = y
    · subst e1
      rw [if_pos rfl] at h1
      by_cases e2 : x = z
      · subst e2; rw [if_pos rfl] at h2 ⊢; exact lexLt_trans h1 h2
      · rw [if_neg e2] at h2 ⊢; exact h2
    · rw [if_neg e1] at h1
      by_cases e2 : y = z
      · subst e2; rw [if_neg e1]; exact h1
      · rw [if_neg e2] at h2
        have h1' := of_decide_eq_true h1
        have h2' := of_decide_eq_true h2
        rw [if_neg (by omega)]; exact decide_eq_true (by omega)
theorem lexLt_total : ∀ {a b : List Nat}, a.length = b.length → lexLt a b = false → lexLt b a = false → a = b
  | [], [], _, _, _ => rfl
  | [], _ :: _, h, _, _ => by simp at h
  | _ :: _, [], h, _, _ => by simp at h
  | x :: a, y :: b, h, h1, h2 => by
    unfold lexLt at *
    by_cases e : x = y
    · subst e
      rw [if_pos rfl] at h1 h2
      rw [lexLt_total (by simpa using h) h1 h2]
    · rw [if_neg e] at h1
      rw [if_neg (fun e' => e e'.symm)] at h2
      have := of_decide_eq_false h1
      have := of_decide_eq_false h2
      omega
theorem lessW_irrefl (a : List Nat) : lessW a a = false := by unfold lessW; rw [if_pos rfl]; exact lexLt_irrefl a
theorem lessW_trans {a b c : List Nat} (h1 : lessW a b = true) (h2 : lessW b c = true) : lessW a c = true := by
  unfold lessW at *
  by_cases e1 : a.length = b.length
  · rw [if_pos e1] at h1
    by_cases e2 : b.length = c.length
    · rw [if_pos e2] at h2; rw [if_pos (e1.trans e2)]; exact lexLt_trans h1 h2
    · rw [if_neg e2] at h2; rw [if_neg (by omega)]
      have := of_decide_eq_true h2
      exact decide_eq_true (by omega)
  · rw [if_neg e1] at h1
    have h1' := of_decide_eq_true h1
    by_cases e2 : b.length = c.length
    · rw [if_neg (by omega)]; exact decide_eq_true (by omega)
    · rw [if_neg e2] at h2
      have h2' := of_decide_eq_true h2
      rw [if_neg (by omega)]; exact decide_eq_true (by omega)
theorem lessW_total {a b : List Nat} (h1 : lessW a b = false) (h2 : lessW b a = false) : a = b := by
  unfold lessW at *
  by_cases e : a.length = b.length
  · rw [if_pos e] at h1; rw [if_pos e.symm] at h2; exact lexLt_total e h1 h2
  · rw [if_neg e] at h1; rw [if_neg (fun x => e x.symm)] at h2
    have := of_decide_eq_false h1
    have := of_decide_eq_false h2
    omega
/-- not behind: a is b, or ahead of it -/
def leW (a b : List Nat) : Prop := lessW b a = false
theorem leW_refl (a : List Nat) : leW a a := lessW_irrefl a
theorem leW_of_less {a b : List Nat} (h : lessW a b = true) : leW a b := by
  unfold leW
  cases h2 : lessW b a with
  | false => rfl
  | true => have := lessW_trans h h2; rw [lessW_irrefl] at this; cases this
theorem leW_cases {a b : List Nat} (h : leW a b) : a = b ∨ lessW a b = true := by
  cases h2 : lessW a b with
  | true => exact .inr rfl
  | false => exact .inl (lessW_total h2 h)
theorem leW_trans {a b c : List Nat} (h1 : leW a b) (h2 : leW b c) : leW a c := by
  rcases leW_cases h1 with rfl | h1
  · exact h2
  · rcases leW_cases h2 with rfl | h2
    · exact leW_of_less h1
    · exact leW_of_less (lessW_trans h1 h2)
theorem leW_antisymm {a b : List Nat} (h1 : leW a b) (h2 : leW b a) : a = b := lessW_total h2 h1
theorem leW_short {a b : List Nat} (h : a.length < b.length) : leW a b := leW_of_less (by unfold lessW; rw [if_neg (by omega)]; exact decide_eq_true h)
theorem leW_len {a b : List Nat} (h : leW a b) : a.length ≤ b.length := by
  rcases leW_cases h with rfl | h
  · exact Nat.le_refl _
  · unfold lessW at h
    by_cases e : a.length = b.length
    · omega
    · rw [if_neg e] at h; have := of_decide_eq_true h; omega
theorem lexLt_append : ∀ {a b : List Nat} (c d : List Nat), a.length = b.length → lexLt a b = true → lexLt (a ++ c) (b ++ d) = true
  | [], [], _, _, _, h => by simp [lexLt] at h
  | [], _ :: _, _, _, h, _ => by simp at h
  | _ :: _, [], _, _, h, _ => by simp at h
  | x :: a, y :: b, c, d, h, h1 => by
    rw [List.cons_append, List.cons_append]
    unfold lexLt at *
    by_cases e : x = y
    · rw [if_pos e] at h1 ⊢; exact lexLt_append c d (by simpa using h) h1
    · rw [if_neg e] at h1 ⊢; exact h1
theorem lexLt_same : ∀ (a c d : List Nat), lexLt (a ++ c) (a ++ d) = lexLt c d
  | [], _, _ => rfl
  | x :: a, c, d => by rw [List.cons_append, List.cons_append]; conv => lhs; unfold lexLt
                       rw [if_pos rfl]; exact lexLt_same a c d
theorem lessW_snoc {a b : List Nat} (x y : Nat) (h : lessW a b = true) : lessW (a ++ [x]) (b ++ [y]) = true := by
  unfold lessW at *
  simp only [List.length_append, List.length_cons, List.length_nil]
  by_cases e : a.length = b.length
  · rw [if_pos e] at h; rw [if_pos (by omega)]; exact lexLt_append _ _ e h
  · rw [if_neg e] at h; have := of_decide_eq_true h; rw [if_neg (by omega)]; exact decide_eq_true (by omega)
theorem lessW_last (a : List Nat) {x y : Nat} (h : x < y) : lessW (a ++ [x]) (a ++ [y]) = true := by
  unfold lessW
  rw [if_pos (by simp), lexLt_same]
  unfold lexLt; rw [if_neg (by omega)]; exact decide_eq_true h
theorem leW_snoc {a b : List Nat} (y : Nat) (h : leW a b) : leW (a ++ [y]) (b ++ [y]) := by
  rcases leW_cases h with rfl | h
  · exact leW_refl _
  · exact leW_of_less (lessW_snoc y y h)
/-- a way: from a root, link by link -/
inductive IsWay (l : Bytes) : List Nat → Nat → Prop
  | root {r : Nat} (h : r ∈ rootsH l) : IsWay l [r] r
  | step {q : List Nat} {x y : Nat} (h : IsWay l q x) (hy : y ∈ refsL l (x : Int)) : IsWay l (q ++ [y]) y
theorem IsWay.last {l : Bytes} {p : List Nat} {y : Nat} (h : IsWay l p y) : ∃ q, p = q ++ [y] := by
  cases h with
  | root h => exact ⟨[], rfl⟩
  | step h hy => exact ⟨_, rfl⟩
theorem IsWay.pos {l : Bytes} {p : List Nat} {y : Nat} (h : IsWay l p y) : 1 ≤ p.length := by
  obtain ⟨q, rfl⟩ := h.last; simp
theorem WOk.isWay {l : Bytes} {W : Ways} {D : List Nat} (h : WOk l W D) : ∀ (n : Nat) (y : Nat) (p : List Nat), p.length ≤ n → W y = some p → IsWay l p y
  | 0, y, p, hn, hp => by
    obtain ⟨q, e, -⟩ := h.ways y p hp
    subst e; simp at hn
  | n + 1, y, p, hn, hp => by
    obtain ⟨q, e, h1⟩ := h.ways y p hp
    subst e
    rcases h1 with ⟨rfl, hr⟩ | ⟨x, h2, h3⟩
    · exact .root hr
    · exact .step (WOk.isWay h n x q (by simp at hn; omega) h2) h3
/-- the level k: the ways so far are no longer than k + 1, the row are those of k + 1, in the order of their ways, and none is behind another way -/
structure MinOk (l : Bytes) (k : Nat) (s : Ways × List Nat) : Prop where
  len : ∀ y p, s.1 y = some p → p.length ≤ k + 1
  row : ∀ x ∈ s.2, (wayOf s.1 x).length = k + 1 ∧ (s.1 x).isSome = true
  ord : s.2.Pairwise fun x y => lessW (wayOf s.1 x) (wayOf s.1 y) = true
  all : ∀ y p, s.1 y = some p → p.length = k + 1 → y ∈ s.2
  least : ∀ p y, IsWay l p y → p.length ≤ k + 1 → ∃ p', s.1 y = some p' ∧ leW p' p
theorem MinOk.start {l : Bytes} : MinOk l 0 (lvlN l 0) where
  len y p h := by
    unfold lvlN startW at h; dsimp only at h
    split at h
    · cases h; simp
    · cases h
  row x hx := by
    have hx' : x ∈ rootsH l := sortNat_mem.1 ((dedup_mem _ _).1 hx)
    unfold lvlN startW wayOf; dsimp only
    rw [if_pos hx']; exact ⟨rfl, rfl⟩
  ord := by
    refine List.Pairwise.imp_of_mem ?_ (dedup_up _ (sortNat_up (rootsH l)))
    intro a b ha hb hab
    have ha' : a ∈ rootsH l := sortNat_mem.1 ((dedup_mem _ _).1 ha)
    have hb' : b ∈ rootsH l := sortNat_mem.1 ((dedup_mem _ _).1 hb)
    unfold lvlN startW wayOf; dsimp only
    rw [if_pos ha', if_pos hb']
    exact lessW_last [] hab
  all y p h hl := by
    unfold lvlN startW at h; dsimp only at h
    split at h
    · rename_i hr; exact (dedup_mem _ _).2 (sortNat_mem.2 hr)
    · cases h
  least p y h hl := by
    cases h with
    | root hr => exact ⟨[y], by unfold lvlN startW; dsimp only; rw [if_pos hr], leW_refl _⟩
    | step h hy => have := h.pos; rw [List.length_append] at hl; simp only [List.length_cons, List.length_nil] at hl; omega
/-- in the midst of a level: new ones have ways by those of the row that have been asked, and none is behind another -/
structure MidOk (k : Nat) (W0 : Ways) (s : Ways × List Nat) : Prop where
  keep : ∀ y p, W0 y = some p → s.1 y = some p
  new : ∀ y, W0 y = none → (s.1 y).isSome = true → y ∈ s.2
  row : ∀ y ∈ s.2, W0 y = none ∧ ∃ p, s.1 y = some p ∧ p.length = k + 2
  ord : s.2.Pairwise fun x y => lessW (wayOf s.1 x) (wayOf s.1 y) = true
theorem wayOf_some {W : Ways} {x : Nat} {p : List Nat} (h : W x = some p) : wayOf W x = p := by unfold wayOf; rw [h]; rfl
theorem MidOk.stepY {k : Nat} {W0 : Ways} {s : Ways × List Nat} (h : MidOk k W0 s) {x y : Nat} {q : List Nat} (hx : W0 x = some q) (hq : q.length = k + 1)
    (hb : ∀ z ∈ s.2, z ≠ y → lessW (wayOf s.1 z) (q ++ [y]) = true) :
    MidOk k W0 (stepY x s y) ∧ (∀ z p, s.1 z = some p → (stepY x s y).1 z = some p) ∧ (∃ p, (stepY x s y).1 y = some p) ∧ (s.1 y = none → (stepY x s y).1 y = some (q ++ [y])) ∧ (∀ z ∈ (stepY x s y).2, z ∈ s.2 ∨ (z = y ∧ (stepY x s y).1 y = some (q ++ [y]))) := by
  unfold Go.Proofs.YtcahgmnkphmnhaaGreat.stepY
  by_cases hy : (s.1 y).isSome
  · rw [if_pos hy]
    obtain ⟨p, hp⟩ := Option.isSome_iff_exists.1 hy
    exact ⟨h, fun _ _ hz => hz, ⟨p, hp⟩, (fun e => by rw [e] at hy; cases hy), fun z hz => .inl hz⟩
  · rw [if_neg hy]
    have hyn : s.1 y = none := by simpa using hy
    have hW0 : W0 y = none := by
      cases e : W0 y with
      | none => rfl
      | some p => rw [h.keep y p e] at hyn; cases hyn
    have hxq : wayOf s.1 x = q := wayOf_some (h.keep x q hx)
    rw [hxq]
    have hny : y ∉ s.2 := fun hm => by obtain ⟨_, p, hp, _⟩ := h.row y hm; rw [hp] at hyn; cases hyn
    have hold : ∀ z, z ≠ y → wset s.1 y (q ++ [y]) z = s.1 z := fun z hz => by unfold wset; rw [if_neg hz]
    have hnew : wset s.1 y (q ++ [y]) y = some (q ++ [y]) := by unfold wset; rw [if_pos rfl]
    have hkp : ∀ z p, s.1 z = some p → wset s.1 y (q ++ [y]) z = some p := fun z p hz => by
      rw [hold z (fun e => by rw [e, hyn] at hz; cases hz)]; exact hz
    refine ⟨⟨fun z p hz => hkp z p (h.keep z p hz), fun z hz hs => ?_, fun z hz => ?_, ?_⟩, hkp, ⟨_, hnew⟩, fun _ => hnew, fun z hz => ?_⟩
    · dsimp only at hs ⊢
      by_cases e : z = y
      · subst e; simp
      · rw [hold z e] at hs; exact List.mem_append_left _ (h.new z hz hs)
    · rcases List.mem_append.1 hz with hz | hz
      · obtain ⟨h1, p, h2, h3⟩ := h.row z hz
        exact ⟨h1, p, hkp z p h2, h3⟩
      · simp only [List.mem_singleton] at hz; subst hz
        exact ⟨hW0, _, hnew, by simp; omega⟩
    · refine List.pairwise_append.2 ⟨?_, List.pairwise_singleton .., fun a ha b hb' => ?_⟩
      · refine List.Pairwise.imp_of_mem ?_ h.ord
        intro a b ha hb' hab
        have e1 : wayOf (wset s.1 y (q ++ [y])) a = wayOf s.1 a := by unfold wayOf; rw [hold a (fun e => hny (e ▸ ha))]
        have e2 : wayOf (wset s.1 y (q ++ [y])) b = wayOf s.1 b := by unfold wayOf; rw [hold b (fun e => hny (e ▸ hb'))]
        rw [e1, e2]; exact hab
      · simp only [List.mem_singleton] at hb'; subst hb'
        have hne : a ≠ b := fun e => hny (e ▸ ha)
        have e1 : wayOf (wset s.1 b (q ++ [b])) a = wayOf s.1 a := by unfold wayOf; rw [hold a hne]
        rw [e1, wayOf_some hnew]
        exact hb a ha hne
    · rcases List.mem_append.1 hz with hz | hz
      · exact .inl hz
      · simp only [List.mem_singleton] at hz; exact .inr ⟨hz, hnew⟩
/-- the refs of one of the row -/
theorem MidOk.foldY {k : Nat} {W0 : Ways} {x : Nat} {q : List Nat} (hx : W0 x = some q) (hq : q.length = k + 1) : ∀ (L : List Nat) (s : Ways × List Nat), MidOk k W0 s → L.Pairwise (· ≤ ·) →
    (∀ z ∈ s.2, (∃ a b, wayOf s.1 z = a ++ [b] ∧ lessW a q = true) ∨ (wayOf s.1 z = q ++ [z] ∧ ∀ y ∈ L, z ≤ y)) →
    MidOk k W0 (L.foldl (Go.Proofs.YtcahgmnkphmnhaaGreat.stepY x) s) ∧ (∀ z p, s.1 z = some p → (L.foldl (Go.Proofs.YtcahgmnkphmnhaaGreat.stepY x) s).1 z = some p) ∧ (∀ y ∈ L, ∃ p, (L.foldl (Go.Proofs.YtcahgmnkphmnhaaGreat.stepY x) s).1 y = some p) ∧
      (∀ z, s.1 z = none → ∀ p, (L.foldl (Go.Proofs.YtcahgmnkphmnhaaGreat.stepY x) s).1 z = some p → p = q ++ [z]) ∧
      (∀ z ∈ (L.foldl (Go.Proofs.YtcahgmnkphmnhaaGreat.stepY x) s).2, z ∈ s.2 ∨ wayOf (L.foldl (Go.Proofs.YtcahgmnkphmnhaaGreat.stepY x) s).1 z = q ++ [z])
  | [], s, h, _, _ => ⟨h, fun _ _ hz => hz, (fun y hy => by cases hy), (fun z hz p hp => by rw [List.foldl_nil] at hp; rw [hz] at hp; cases hp), fun z hz => .inl hz⟩
  | y :: L, s, h, hL, hs => by
    have hL' := List.pairwise_cons.1 hL
    obtain ⟨h1, h2, h3, h4, h5⟩ := h.stepY hx hq (y := y) (fun z hz hne => by
      rcases hs z hz with ⟨a, b, e1, e2⟩ | ⟨e1, e2⟩
      · rw [e1]; exact lessW_snoc _ _ e2
      · rw [e1]
        have := e2 y (List.mem_cons_self ..)
        exact lessW_last q (by omega))
    obtain ⟨i1, i2, i3, i4, i5⟩ := MidOk.foldY hx hq L (Go.Proofs.YtcahgmnkphmnhaaGreat.stepY x s y) h1 hL'.2 (fun z hz => by
      rcases h5 z hz with hz' | ⟨rfl, hz'⟩
      · obtain ⟨_, p, hp, _⟩ := h.row z hz'
        have e : wayOf (Go.Proofs.YtcahgmnkphmnhaaGreat.stepY x s y).1 z = wayOf s.1 z := by rw [wayOf_some (h2 z p hp), wayOf_some hp]
        rw [e]
        exact (hs z hz').imp id fun ⟨e1, e2⟩ => ⟨e1, fun y' hy' => e2 y' (List.mem_cons_of_mem _ hy')⟩
      · exact .inr ⟨wayOf_some hz', fun y' hy' => hL'.1 y' hy'⟩)
    rw [List.foldl_cons]
    refine ⟨i1, fun z p hz => i2 z p (h2 z p hz), fun z hz => ?_, fun z hz p hp => ?_, fun z hz => ?_⟩
    · rcases List.mem_cons.1 hz with rfl | hz
      · obtain ⟨p, hp⟩ := h3; exact ⟨p, i2 _ p hp⟩
      · exact i3 z hz
    · cases e : (Go.Proofs.YtcahgmnkphmnhaaGreat.stepY x s y).1 z with
      | none => exact i4 z e p hp
      | some p' =>
        have := i2 z p' e
        rw [this] at hp
        cases hp
        -- it came by this step
        by_cases hzy : z = y
        · subst hzy
          have := h4 hz
          rw [this] at e; cases e; rfl
        · exfalso
          unfold Go.Proofs.YtcahgmnkphmnhaaGreat.stepY at e
          split at e
          · rw [hz] at e; cases e
          · dsimp only at e; unfold wset at e; rw [if_neg hzy, hz] at e; cases e
    · rcases i5 z hz with hz' | hz'
      · rcases h5 z hz' with hz'' | ⟨rfl, hz''⟩
        · exact .inl hz''
        · right; rw [wayOf_some (i2 _ _ hz'')]
      · exact .inr hz'
theorem MidOk.foldX {l : Bytes} {k : Nat} {W0 : Ways} : ∀ (R : List Nat) (s : Ways × List Nat), MidOk k W0 s → (∀ x ∈ R, ∃ q, W0 x = some q ∧ q.length = k + 1) → R.Pairwise (fun x y => lessW (wayOf W0 x) (wayOf W0 y) = true) →
    (∀ z ∈ s.2, ∀ x ∈ R, ∃ a b, wayOf s.1 z = a ++ [b] ∧ lessW a (wayOf W0 x) = true) →
    MidOk k W0 (R.foldl (stepX l) s) ∧ (∀ z p, s.1 z = some p → (R.foldl (stepX l) s).1 z = some p) ∧ (∀ x ∈ R, ∀ y ∈ refsL l (x : Int), ∃ p, (R.foldl (stepX l) s).1 y = some p ∧ (s.1 y = none → leW p (wayOf W0 x ++ [y])))
  | [], s, h, _, _, _ => ⟨h, fun _ _ hz => hz, fun x hx => by cases hx⟩
  | x :: R, s, h, hR, ho, hs => by
    obtain ⟨q, hq, hql⟩ := hR x (List.mem_cons_self ..)
    have ho' := List.pairwise_cons.1 ho
    obtain ⟨i1, i2, i3, i4, i5⟩ := MidOk.foldY hq hql (sortNat (refsL l (x : Int))) s h (sortNat_up _) (fun z hz => .inl (by
      obtain ⟨a, b, e1, e2⟩ := hs z hz x (List.mem_cons_self ..)
      rw [wayOf_some hq] at e2
      exact ⟨a, b, e1, e2⟩))
    have hst : stepX l s x = (sortNat (refsL l (x : Int))).foldl (Go.Proofs.YtcahgmnkphmnhaaGreat.stepY x) s := rfl
    rw [← hst] at i1 i2 i3 i4 i5
    obtain ⟨j1, j2, j3⟩ := MidOk.foldX R (stepX l s x) i1 (fun z hz => hR z (List.mem_cons_of_mem _ hz)) ho'.2 (fun z hz x' hx' => by
      rcases i5 z hz with hz' | hz'
      · obtain ⟨a, b, e1, e2⟩ := hs z hz' x' (List.mem_cons_of_mem _ hx')
        obtain ⟨_, p, hp, _⟩ := h.row z hz'
        exact ⟨a, b, by rw [wayOf_some (i2 z p hp), ← wayOf_some hp]; exact e1, e2⟩
      · refine ⟨q, z, hz', ?_⟩
        have := ho'.1 x' hx'
        rwa [wayOf_some hq] at this)
    rw [List.foldl_cons]
    refine ⟨j1, fun z p hz => j2 z p (i2 z p hz), fun x' hx' y hy => ?_⟩
    rcases List.mem_cons.1 hx' with rfl | hx'
    · obtain ⟨p, hp⟩ := i3 y (sortNat_mem.2 hy)
      refine ⟨p, j2 y p hp, fun hn => ?_⟩
      rw [i4 y hn p hp, wayOf_some hq]; exact leW_refl _
    · obtain ⟨p, hp, hle⟩ := j3 x' hx' y hy
      refine ⟨p, hp, fun hn => ?_⟩
      cases e : (stepX l s x).1 y with
      | none => exact hle e
      | some p' =>
        have := j2 y p' e
        rw [this] at hp; cases hp
        rw [i4 y hn p e]
        have := ho'.1 x' hx'
        rw [wayOf_some hq] at this
        exact leW_of_less (lessW_snoc _ _ this)
theorem MinOk.next {l : Bytes} {k : Nat} {s : Ways × List Nat} {D : List Nat} (h : MinOk l k s) (hl : LvOk l s D) : MinOk l (k + 1) (lvl l s) := by
  obtain ⟨i1, i2, i3⟩ := MidOk.foldX (l := l) (k := k) (W0 := s.1) s.2 (s.1, []) ⟨fun _ _ hz => hz, (fun y hy hs => by dsimp only at hs; rw [hy] at hs; cases hs), (fun y hy => by cases hy), List.Pairwise.nil⟩ (fun x hx => by
      obtain ⟨h1, h2⟩ := h.row x hx
      obtain ⟨q, hq⟩ := Option.isSome_iff_exists.1 h2
      exact ⟨q, hq, by rw [wayOf_some hq] at h1; exact h1⟩) h.ord (fun z hz => by cases hz)
  have hlv : lvl l s = s.2.foldl (stepX l) (s.1, []) := rfl
  rw [← hlv] at i1 i2 i3
  dsimp only at i2 i3
  refine ⟨fun y p hp => ?_, fun x hx => ?_, i1.ord, fun y p hp hpl => ?_, fun p y hw hpl => ?_⟩
  · cases e : s.1 y with
    | some p' => rw [i2 y p' e] at hp; cases hp; have := h.len y _ e; omega
    | none =>
      obtain ⟨_, p', hp', hl'⟩ := i1.row y (i1.new y e (by rw [hp]; rfl))
      rw [hp'] at hp; cases hp; omega
  · obtain ⟨_, p, hp, hpl⟩ := i1.row x hx
    rw [wayOf_some hp, hp]; exact ⟨by omega, rfl⟩
  · cases e : s.1 y with
    | some p' => rw [i2 y p' e] at hp; cases hp; have := h.len y _ e; omega
    | none => exact i1.new y e (by rw [hp]; rfl)
  · by_cases hs : p.length ≤ k + 1
    · obtain ⟨p', h1, h2⟩ := h.least p y hw hs
      exact ⟨p', i2 y p' h1, h2⟩
    · cases hw with
      | root hr => simp at hs
      | @step q x _ hq hy =>
        simp only [List.length_append, List.length_cons, List.length_nil] at hpl hs
        obtain ⟨q', h1, h2⟩ := h.least q x hq (by omega)
        have hq1 := h.len x q' h1
        cases e : s.1 y with
        | some p' =>
          have := h.len y p' e
          exact ⟨p', i2 y p' e, leW_short (by simp; omega)⟩
        | none =>
          by_cases hx : x ∈ s.2
          · obtain ⟨p', h3, h4⟩ := i3 x hx y hy
            refine ⟨p', h3, leW_trans (h4 e) ?_⟩
            rw [wayOf_some h1]; exact leW_snoc y h2
          · exfalso
            have hxD : x ∈ D := (hl.ok.dk x).1 (by rw [h1]; rfl)
            have := (hl.ok.dk y).2 (hl.closed x hxD hx y hy)
            rw [e] at this; cases this
theorem MinOk.at_ {l : Bytes} (hg : Good l) : ∀ k, MinOk l k (lvlN l k)
  | 0 => MinOk.start
  | k + 1 => by
    obtain ⟨D, hD, -⟩ := LvOk.at_ hg k
    exact (MinOk.at_ hg k).next hD
/-- of all ways to an object the program's is the least -/
theorem fromW_least {l : Bytes} (hg : Good l) {p : List Nat} {y : Nat} (h : IsWay l p y) : ∃ p', fromW l y = some p' ∧ leW p' p ∧ IsWay l p' y := by
  obtain ⟨D, hD, hc⟩ := fromW_ok hg
  have hm := MinOk.at_ hg 41
  have hin : ∀ p y, IsWay l p y → y ∈ D := fun p y hw => by
    induction hw with
    | root hr => exact (hD.dk _).1 (by rw [hD.roots _ hr]; rfl)
    | step _ hy ih => exact hc _ ih _ hy
  obtain ⟨p', hp'⟩ := Option.isSome_iff_exists.1 ((hD.dk y).2 (hin p y h))
  refine ⟨p', hp', ?_, hD.isWay _ y p' (Nat.le_refl _) hp'⟩
  by_cases hl : p.length ≤ 42
  · obtain ⟨p2, h1, h2⟩ := hm.least p y h hl
    have : fromW l y = some p2 := h1
    rw [this] at hp'; cases hp'; exact h2
  · have := hm.len y p' hp'
    exact leW_short (by omega)
end Go.Proofs.YtcahgmnkphmnhaaGreat
/- The reference on ways, plain: what is found by asking again and again is the least. -/
namespace Go.Proofs.YtcahgmnkphmnhaaGreat
open Go.RowKit

abbrev WV := Nat → List Nat
def vset (V : WV) (y : Nat) (p : List Nat) : WV := fun q => if q = y then p else V q
def stepV (h : Nat) (s : WV × Bool) (y : Nat) : WV × Bool := if s.1 y = [] ∨ lessW (s.1 h ++ [y]) (s.1 y) = true then (vset s.1 y (s.1 h ++ [y]), true) else s
def stepH (l : Bytes) (s : WV × Bool) (h : Nat) : WV × Bool := if s.1 h = [] then s else (refsL l (h : Int)).foldl (stepV h) s
def passV (l : Bytes) (V : WV) : WV × Bool := ((List.range 40).map (· + 1)).foldl (stepH l) (V, false)
def startV (l : Bytes) : WV := fun q => if q ∈ rootsH l then [q] else []
/-- a way as a number -/
def code : List Nat → Nat
  | [] => 0
  | x :: a => x * 41 ^ a.length + code a
theorem code_lt : ∀ {a : List Nat}, (∀ x ∈ a, x ≤ 40) → code a < 41 ^ a.length
  | [], _ => by simp [code]
  | x :: a, h => by
    have h1 := code_lt (a := a) fun y hy => h y (List.mem_cons_of_mem _ hy)
    have h2 := h x (List.mem_cons_self ..)
    unfold code
    rw [List.length_cons, Nat.pow_succ]
    generalize 41 ^ a.length = P at *
    have : x * P ≤ 40 * P := Nat.mul_le_mul_right P h2
    omega
theorem code_ge {x : Nat} {a : List Nat} (h : 1 ≤ x) : 41 ^ a.length ≤ code (x :: a) := by
  unfold code
  generalize 41 ^ a.length = P at *
  have : 1 * P ≤ x * P := Nat.mul_le_mul_right P h
  omega
theorem code_lex : ∀ {a b : List Nat}, a.length = b.length → (∀ x ∈ a, x ≤ 40) → lexLt a b = true → code a < code b
  | [], [], _, _, h => by simp [lexLt] at h
  | [], _ :: _, h, _, _ => by simp at h
  | _ :: _, [], h, _, _ => by simp at h
  | x :: a, y :: b, h, ha, hl => by
    have h' : a.length = b.length := by simpa using h
    unfold lexLt at hl
    by_cases e : x = y
    · subst e
      rw [if_pos rfl] at hl
      have := code_lex h' (fun z hz => ha z (List.mem_cons_of_mem _ hz)) hl
      unfold code; rw [h']; omega
    · rw [if_neg e] at hl
      have hxy := of_decide_eq_true hl
      have h1 := code_lt (a := a) fun z hz => ha z (List.mem_cons_of_mem _ hz)
      unfold code
      rw [h'] at h1 ⊢
      generalize 41 ^ b.length = P at *
      have : (x + 1) * P ≤ y * P := Nat.mul_le_mul_right P hxy
      rw [Nat.succ_mul] at this
      omega
theorem code_less {a b : List Nat} (ha : ∀ x ∈ a, x ≤ 40) (hb : ∀ x ∈ b, 1 ≤ x) (h : lessW a b = true) : code a < code b := by
  unfold lessW at h
  by_cases e : a.length = b.length
  · rw [if_pos e] at h; exact code_lex e ha h
  · rw [if_neg e] at h
    have hl := of_decide_eq_true h
    cases b with
    | nil => simp at hl
    | cons y b =>
      have h1 := code_lt ha
      have h2 := code_ge (a := b) (hb y (List.mem_cons_self ..))
      have h3 : 41 ^ a.length ≤ 41 ^ b.length := Nat.pow_le_pow_right (by omega) (by simp at hl; omega)
      omega
def phi (p : List Nat) : Nat := if p = [] then 41 ^ 42 else code p
def sumV (V : WV) : Nat → Nat
  | 0 => 0
  | k + 1 => sumV V k + phi (V k)
theorem sumV_upd (V : WV) (y : Nat) (p : List Nat) : ∀ n, sumV (vset V y p) n + (if y < n then phi (V y) else 0) = sumV V n + (if y < n then phi p else 0)
  | 0 => by simp [sumV]
  | n + 1 => by
    have ih := sumV_upd V y p n
    unfold sumV
    by_cases h : y = n
    · subst h
      rw [if_neg (by omega), if_neg (by omega)] at ih
      rw [if_pos (by omega), if_pos (by omega)]
      have : vset V y p y = p := by unfold vset; rw [if_pos rfl]
      rw [this]; omega
    · have : vset V y p n = V n := by unfold vset; rw [if_neg (by omega)]
      rw [this]
      by_cases h2 : y < n
      · rw [if_pos h2, if_pos h2] at ih; rw [if_pos (by omega), if_pos (by omega)]; omega
      · rw [if_neg h2, if_neg h2] at ih; rw [if_neg (by omega), if_neg (by omega)]; omega
def cntV (V : WV) : Nat → Nat
  | 0 => 0
  | k + 1 => cntV V k + (if V k = [] then 0 else 1)
theorem cntV_le (V : WV) : ∀ n, cntV V n ≤ n
  | 0 => Nat.le_refl _
  | n + 1 => by unfold cntV; have := cntV_le V n; split <;> omega
theorem cntV_upd (V : WV) (y : Nat) (p : List Nat) (hp : p ≠ []) : ∀ n, cntV (vset V y p) n = cntV V n + (if y < n ∧ V y = [] then 1 else 0)
  | 0 => by simp [cntV]
  | n + 1 => by
    have ih := cntV_upd V y p hp n
    unfold cntV
    rw [ih]
    by_cases h : y = n
    · subst h
      have : vset V y p y = p := by unfold vset; rw [if_pos rfl]
      rw [this, if_neg hp]
      by_cases hv : V y = [] <;> simp [hv]
    · have : vset V y p n = V n := by unfold vset; rw [if_neg (by omega)]
      rw [this]
      have e : (y < n + 1 ∧ V y = []) ↔ (y < n ∧ V y = []) := ⟨fun h3 => ⟨by omega, h3.2⟩, fun h3 => ⟨by omega, h3.2⟩⟩
      simp only [e]; omega
theorem IsWay.digits {l : Bytes} (hg : Good l) {p : List Nat} {y : Nat} (h : IsWay l p y) : ∀ x ∈ p, 1 ≤ x ∧ x ≤ 40 := by
  induction h with
  | root hr => intro x hx; simp only [List.mem_singleton] at hx; subst hx; exact hE_nat (rootsH_mem hg hr)
  | step _ hy ih =>
    intro x hx
    rcases List.mem_append.1 hx with hx | hx
    · exact ih x hx
    · simp only [List.mem_singleton] at hx; subst hx; exact hE_nat (refsL_mem (y := 0) hy)
structure VOk (l : Bytes) (V : WV) : Prop where
  way : ∀ y, V y ≠ [] → IsWay l (V y) y
  root : ∀ r ∈ rootsH l, V r = [r]
  bd : ∀ y, (V y).length ≤ cntV V 41
theorem VOk.start {l : Bytes} (hg : Good l) : VOk l (startV l) where
  way y h := by
    unfold startV at h ⊢
    split
    · rename_i hr; exact .root hr
    · rename_i hr; rw [if_neg hr] at h; exact absurd rfl h
  root r hr := by unfold startV; rw [if_pos hr]
  bd y := by
    by_cases hr : y ∈ rootsH l
    · have hy := hE_nat (rootsH_mem hg hr)
      have hv : startV l y = [y] := by unfold startV; rw [if_pos hr]
      rw [hv]
      have h0 : vset (startV l) y [y] = startV l := funext fun q => by
        unfold vset; split
        · rename_i e; rw [e, hv]
        · rfl
      have key : ∀ n, y < n → 1 ≤ cntV (startV l) n := by
        intro n hn
        induction n with
        | zero => omega
        | succ n ih =>
          unfold cntV
          by_cases e : y = n
          · subst e; rw [hv]; simp
          · have := ih (by omega); omega
      have := key 41 (by omega)
      simpa using this
    · have hv : startV l y = [] := by unfold startV; rw [if_neg hr]
      rw [hv]; simp
theorem VOk.step {l : Bytes} (hg : Good l) {s : WV × Bool} (h : VOk l s.1) {x y : Nat} (hx : s.1 x ≠ []) (hy : y ∈ refsL l (x : Int)) :
    VOk l (stepV x s y).1 ∧ ((stepV x s y = s ∧ s.1 y ≠ [] ∧ lessW (s.1 x ++ [y]) (s.1 y) = false) ∨ ((stepV x s y).2 = true ∧ sumV (stepV x s y).1 41 < sumV s.1 41)) ∧ (stepV x s y).1 x = s.1 x := by
  have hw := h.way x hx
  have hnw : IsWay l (s.1 x ++ [y]) y := .step hw hy
  have hd := hnw.digits hg
  have hyd := hd y (by simp)
  unfold stepV
  by_cases hc : s.1 y = [] ∨ lessW (s.1 x ++ [y]) (s.1 y) = true
  · rw [if_pos hc]
    have hxy : x ≠ y := fun e => by
      subst e
      rcases hc with hc | hc
      · exact hx hc
      · have := leW_len (leW_of_less hc); simp at this; omega
    have hxk : vset s.1 y (s.1 x ++ [y]) x = s.1 x := by unfold vset; rw [if_neg hxy]
    have hne : s.1 x ++ [y] ≠ [] := by simp
    have hcn := cntV_upd s.1 y (s.1 x ++ [y]) hne 41
    have hsm := sumV_upd s.1 y (s.1 x ++ [y]) 41
    rw [if_pos (by omega), if_pos (by omega)] at hsm
    refine ⟨⟨fun z hz => ?_, fun r hr => ?_, fun z => ?_⟩, .inr ⟨rfl, ?_⟩, hxk⟩
    · show IsWay l (vset s.1 y (s.1 x ++ [y]) z) z
      by_cases e : z = y
      · subst e; unfold vset; rw [if_pos rfl]; exact hnw
      · have e1 : vset s.1 y (s.1 x ++ [y]) z = s.1 z := by unfold vset; rw [if_neg e]
        rw [e1]
        exact h.way z (by rw [← e1]; exact hz)
    · have hr' := h.root r hr
      show vset s.1 y (s.1 x ++ [y]) r = [r]
      by_cases e : r = y
      · exfalso
        subst e
        rw [hr'] at hc
        rcases hc with hc | hc
        · cases hc
        · have h1 := leW_len (leW_of_less hc)
          have h2 := hw.pos
          rw [List.length_append] at h1
          simp only [List.length_cons, List.length_nil] at h1
          omega
      · unfold vset; rw [if_neg e]; exact hr'
    · show (vset s.1 y (s.1 x ++ [y]) z).length ≤ cntV (vset s.1 y (s.1 x ++ [y])) 41
      rw [hcn]
      by_cases e : z = y
      · subst e
        have e1 : vset s.1 z (s.1 x ++ [z]) z = s.1 x ++ [z] := by unfold vset; rw [if_pos rfl]
        rw [e1]
        by_cases hv : s.1 z = []
        · rw [if_pos ⟨by omega, hv⟩]
          have := h.bd x
          simp; omega
        · rcases hc with hc | hc
          · exact absurd hc hv
          · have := leW_len (leW_of_less hc)
            have := h.bd z
            omega
      · have e1 : vset s.1 y (s.1 x ++ [y]) z = s.1 z := by unfold vset; rw [if_neg e]
        rw [e1]
        have := h.bd z
        omega
    · show sumV (vset s.1 y (s.1 x ++ [y])) 41 < sumV s.1 41
      have hph : phi (s.1 x ++ [y]) < phi (s.1 y) := by
        unfold phi
        rw [if_neg hne]
        by_cases hv : s.1 y = []
        · rw [if_pos hv]
          have h1 := code_lt (a := s.1 x ++ [y]) fun z hz => (hd z hz).2
          have h2 : 41 ^ (s.1 x ++ [y]).length ≤ 41 ^ 42 := Nat.pow_le_pow_right (by omega) (by
            have := h.bd x; have := cntV_le s.1 41; simp; omega)
          exact Nat.lt_of_lt_of_le h1 h2
        · rw [if_neg hv]
          rcases hc with hc | hc
          · exact absurd hc hv
          · exact code_less (fun z hz => (hd z hz).2) (fun z hz => ((h.way y hv).digits hg z hz).1) hc
      omega
  · rw [if_neg hc]
    have h1 : s.1 y ≠ [] := fun e => hc (.inl e)
    have h2 : lessW (s.1 x ++ [y]) (s.1 y) = false := by
      cases e : lessW (s.1 x ++ [y]) (s.1 y) with
      | false => rfl
      | true => exact absurd (.inr e) hc
    exact ⟨h, .inl ⟨rfl, h1, h2⟩, rfl⟩
/-- a pass: either nothing has changed and all is closed, or it has, and less is left -/
structure PassR (l : Bytes) (V : WV) (s : WV × Bool) (Q : Prop) : Prop where
  ok : VOk l s.1
  or_ : (s = (V, false) ∧ Q) ∨ (s.2 = true ∧ sumV s.1 41 < sumV V 41)
theorem pass_foldV {l : Bytes} (hg : Good l) {V : WV} {x : Nat} : ∀ (L : List Nat) (s : WV × Bool) (Q : Prop), PassR l V s Q → s.1 x ≠ [] → (∀ y ∈ L, y ∈ refsL l (x : Int)) →
    PassR l V (L.foldl (stepV x) s) (Q ∧ ∀ y ∈ L, V y ≠ [] ∧ lessW (V x ++ [y]) (V y) = false)
  | [], s, Q, h, _, _ => ⟨h.ok, h.or_.imp (fun h => ⟨h.1, h.2, fun y hy => by cases hy⟩) id⟩
  | y :: L, s, Q, h, hx, hL => by
    obtain ⟨h1, h2, h3⟩ := h.ok.step hg hx (hL y (List.mem_cons_self ..))
    have h4 : PassR l V (stepV x s y) (Q ∧ V y ≠ [] ∧ lessW (V x ++ [y]) (V y) = false) := by
      refine ⟨h1, ?_⟩
      rcases h.or_ with ⟨e, hq⟩ | ⟨e, hq⟩
      · rcases h2 with ⟨h2, h5, h6⟩ | ⟨h2, h5⟩
        · left; rw [h2]; subst e; exact ⟨rfl, hq, h5, h6⟩
        · right; subst e; exact ⟨h2, h5⟩
      · rcases h2 with ⟨h2, -, -⟩ | ⟨h2, h5⟩
        · right; rw [h2]; exact ⟨e, hq⟩
        · right; exact ⟨h2, by omega⟩
    have := pass_foldV hg L (stepV x s y) _ h4 (by rw [h3]; exact hx) (fun z hz => hL z (List.mem_cons_of_mem _ hz))
    refine ⟨this.ok, this.or_.imp (fun h => ⟨h.1, h.2.1.1, fun z hz => ?_⟩) id⟩
    rcases List.mem_cons.1 hz with rfl | hz
    · exact h.2.1.2
    · exact h.2.2 z hz
theorem pass_foldH {l : Bytes} (hg : Good l) {V : WV} : ∀ (H : List Nat) (s : WV × Bool) (Q : Prop), PassR l V s Q →
    PassR l V (H.foldl (stepH l) s) (Q ∧ ∀ x ∈ H, V x ≠ [] → ∀ y ∈ refsL l (x : Int), V y ≠ [] ∧ lessW (V x ++ [y]) (V y) = false)
  | [], s, Q, h => ⟨h.ok, h.or_.imp (fun h => ⟨h.1, h.2, fun y hy => by cases hy⟩) id⟩
  | x :: H, s, Q, h => by
    have h4 : PassR l V (stepH l s x) (Q ∧ (V x ≠ [] → ∀ y ∈ refsL l (x : Int), V y ≠ [] ∧ lessW (V x ++ [y]) (V y) = false)) := by
      unfold stepH
      by_cases hx : s.1 x = []
      · rw [if_pos hx]
        refine ⟨h.ok, h.or_.imp (fun h => ⟨h.1, h.2, fun hv => ?_⟩) id⟩
        rw [h.1] at hx; exact absurd hx hv
      · rw [if_neg hx]
        have := pass_foldV hg (refsL l (x : Int)) s Q h hx (fun _ hy => hy)
        exact ⟨this.ok, this.or_.imp (fun h => ⟨h.1, h.2.1, fun _ => h.2.2⟩) id⟩
    have := pass_foldH hg H (stepH l s x) _ h4
    refine ⟨this.ok, this.or_.imp (fun h => ⟨h.1, h.2.1.1, fun z hz => ?_⟩) id⟩
    rcases List.mem_cons.1 hz with rfl | hz
    · exact h.2.1.2
    · exact h.2.2 z hz
theorem pass_is {l : Bytes} (hg : Good l) {V : WV} (h : VOk l V) : VOk l (passV l V).1 ∧ ((passV l V).2 = true → sumV (passV l V).1 41 < sumV V 41) ∧ ((passV l V).2 = false → (passV l V).1 = V ∧ ∀ y, V y = wayOf (fromW l) y) := by
  have hp := pass_foldH hg ((List.range 40).map (· + 1)) (V, false) True ⟨h, .inl ⟨rfl, trivial⟩⟩
  have hpe : passV l V = ((List.range 40).map (· + 1)).foldl (stepH l) (V, false) := rfl
  rw [← hpe] at hp
  refine ⟨hp.ok, fun ht => ?_, fun hf => ?_⟩
  · rcases hp.or_ with ⟨e, -⟩ | ⟨-, e⟩
    · rw [e] at ht; cases ht
    · exact e
  · rcases hp.or_ with ⟨e, -, hc⟩ | ⟨e, -⟩
    · refine ⟨by rw [e], fun y => ?_⟩
      have least : ∀ p y, IsWay l p y → V y ≠ [] ∧ leW (V y) p := fun p y hw => by
        induction hw with
        | root hr => rw [h.root _ hr]; exact ⟨by simp, leW_refl _⟩
        | @step q x y hw' hy ih =>
          have hxd := hw'.digits hg x (by obtain ⟨q', rfl⟩ := hw'.last; simp)
          obtain ⟨h1, h2⟩ := hc x (List.mem_map.2 ⟨x - 1, List.mem_range.2 (by omega), by omega⟩) ih.1 y hy
          exact ⟨h1, leW_trans (show leW (V y) (V x ++ [y]) from h2) (leW_snoc y ih.2)⟩
      by_cases hv : V y = []
      · rw [hv]
        unfold wayOf
        cases e2 : fromW l y with
        | none => rfl
        | some p =>
          exfalso
          obtain ⟨D, hD, -⟩ := fromW_ok hg
          exact (least p y (hD.isWay _ y p (Nat.le_refl _) e2)).1 hv
      · obtain ⟨p', h1, h2, h3⟩ := fromW_least hg (h.way y hv)
        rw [wayOf_some h1]
        exact leW_antisymm (least p' y h3).2 h2
    · rw [e] at hf; cases hf
/-- who is alive, in order -/
def liveL (l : Bytes) : List Nat := ((List.range 40).filter fun k => (fromW l (k + 1)).isSome).map (· + 1)
theorem liveL_up (l : Bytes) : (liveL l).Pairwise (· < ·) := by
  unfold liveL
  refine List.pairwise_map.2 ?_
  exact ((List.pairwise_lt_range (n := 40)).filter _).imp fun h => by omega
theorem way_hE {l : Bytes} (hg : Good l) {k : Nat} (h : (fromW l k).isSome = true) : hE l (k : Int) = 0 := by
  obtain ⟨D, hD, -⟩ := fromW_ok hg
  exact hD.dh k ((hD.dk k).1 h)
theorem liveL_mem {l : Bytes} (hg : Good l) {x : Nat} : x ∈ liveL l ↔ (fromW l x).isSome = true := by
  unfold liveL
  simp only [List.mem_map, List.mem_filter, List.mem_range]
  constructor
  · rintro ⟨k, ⟨-, h⟩, rfl⟩; exact h
  · intro h
    have := hE_nat (way_hE hg h)
    exact ⟨x - 1, ⟨by omega, by rw [show x - 1 + 1 = x by omega]; exact h⟩, by omega⟩
theorem deadL_up (l : Bytes) : (deadL l).Pairwise (· < ·) := by
  unfold deadL deadE
  refine List.pairwise_map.2 ?_
  have hp : (entriesL l).Pairwise (fun a b => a.1 < b.1) := by
    unfold entriesL entsL
    refine List.pairwise_map.2 ?_
    exact ((List.pairwise_lt_range (n := 40)).filter _).imp fun h => by dsimp only; omega
  refine List.Pairwise.imp_of_mem ?_ (hp.filter _)
  intro a b ha hb hab
  obtain ⟨k, h1, h2, rfl⟩ := entL_mem.1 (List.mem_filter.1 ha).1
  obtain ⟨m, h3, h4, rfl⟩ := entL_mem.1 (List.mem_filter.1 hb).1
  dsimp only at hab ⊢
  omega
end Go.Proofs.YtcahgmnkphmnhaaGreat
/- Laid: maps.Keys at maps from numbers to numbers. -/
namespace Go.Proofs.YtcahgmnkphmnhaaGreat
open Go.Shelf
def keysN_ren : Go.Shelf.Ren := ⟨fun | 7 => 70 | 10 => 109 | n => n, fun | 23 => 127 | 26 => 3 | 3 => 3 | 28 => 120 | 0 => 0 | 27 => 119 | 33 => 81 | 4 => 4 | n => n, fun | n => n⟩
theorem keysN : Go.Proofs.SlLaysZI.n7 Tryz.prog keysN_ren := {
  mixed := by kernel_rfl
  f7 := ⟨Tryz.f70.name, by decide, Tryz.func70.trans (congrArg some (by kernel_rfl))⟩
  f10 := ⟨Tryz.f109.name, by decide, Tryz.func109.trans (congrArg some (by kernel_rfl))⟩
  t0 := Tryz.underlying0
  a0 := Tryz.isAgg0
  z0 := Tryz.sizeOf0
  v0 := Tryz.zeroValue0
  t4 := Tryz.underlying4
  a4 := Tryz.isAgg4
  z4 := Tryz.sizeOf4
  v4 := Tryz.zeroValue4
  t23 := Tryz.underlying127
  a23 := Tryz.isAgg127
  z23 := Tryz.sizeOf127
  v23 := Tryz.zeroValue127
  t26 := Tryz.underlying3
  a26 := Tryz.isAgg3
  z26 := Tryz.sizeOf3
  v26 := Tryz.zeroValue3
  t27 := Tryz.underlying119
  a27 := Tryz.isAgg119
  z27 := Tryz.sizeOf119
  v27 := Tryz.zeroValue119
  t28 := Tryz.underlying120
  a28 := Tryz.isAgg120
  z28 := Tryz.sizeOf120
  v28 := Tryz.zeroValue120
  t33 := Tryz.underlying81
  a33 := Tryz.isAgg81
  z33 := Tryz.sizeOf81
  v33 := Tryz.zeroValue81 }
end Go.Proofs.YtcahgmnkphmnhaaGreat
/- slices.Sorted(maps.Keys(m)) of maps from numbers to numbers. -/
namespace Go.Proofs.YtcahgmnkphmnhaaGreat
open Go.RowKit Go.Maps Go.ChangeMaps Go.Sort Go.Shelf

theorem keysN_call (b : Nat) (w : World) : Calls Tryz.prog 70 #[.map (some b)] w fun e w' => e = .returned (.func (.func 109) #[] #[.pointer (some ⟨w.heap.size, 0, none⟩)]) ∧ w' = w.alloc (.cells #[.map (some b)] 127) := by
  have cK : CallsIn Fence.wide 5 Tryz.prog 70 #[.map (some b)] w fun e w' => e = .returned (.func (.func 109) #[] #[.pointer (some ⟨w.heap.size, 0, none⟩)]) ∧ w' = w.alloc (.cells #[.map (some b)] 127) := AnyZI.keys_in keysN Fence.wide 5 trivial rfl (some b) w
  exact callsIn_wide.1 cK
theorem sortedN_call (b cnt : Nat) (f : Nat → Option Value) (w : World) (h : IM Tryz.prog 3 natL w b f cnt) (hc : cnt ≤ 100000) :
    Calls Tryz.prog 65 #[.func (.func 109) #[] #[.pointer (some ⟨w.heap.size, 0, none⟩)]] (w.alloc (.cells #[.map (some b)] 127)) fun e w' => ∃ v S, e = .returned v ∧ KeysOf f S ∧
      w'.ownsRow w.heap.size 3 1 v S.length (S.map fun i : Nat => .int .i64 (i : Int)) ∧ Below w.heap.size w w' := by
  obtain ⟨D, hown, hs, hn, h1, h2⟩ := h.keys Tryz.underlying3
  have hbl := hown.lt
  have hseq : SeqGives Fence.wide 2 Tryz.prog 109 #[.pointer (some ⟨w.heap.size, 0, none⟩)] encZ (fun ss => ss.Perm (intKeys D)) (Maps.size D) (w.alloc (.cells #[.map (some b)] 127)) :=
    AnyZI.keys_gives (ρ := keysN_ren) { keysN with } Fence.wide _ trivial rfl (by omega) w.heap.size b cnt D _ (by simp) (by simp) (by
      obtain ⟨es, clock, hb, Ft, hs, hD⟩ := hown
      exact ⟨es, clock, (Below.heap_alloc _ _ b hbl).trans hb, Ft, hs, hD⟩)
  have cS := AnyZI.sorted_in sortedI Fence.wide 5 trivial trivial trivial trivial rfl (by omega) (sorts_int _) (enters_of Tryz.func106 (by kernel_rfl) rfl) 109 #[.pointer (some ⟨w.heap.size, 0, none⟩)] trivial (enters_of Tryz.func109 (by kernel_rfl) rfl) _ _ (by rw [hs]; simp only [maxLen]; omega) (by rw [hs]; omega) _ hseq
  change CallsIn _ _ Tryz.prog 65 _ _ _ at cS
  refine (callsIn_wide.1 cS).mono ?_
  rintro e w' ⟨v, ss, rfl, hS, hrow, -, hb⟩
  obtain ⟨S, e1, e2⟩ := keys_sorted hS hn h1 h2
  have hlen : S.length = ss.length := by
    have := congrArg List.length e1
    rw [List.length_map, List.length_mergeSort] at this
    omega
  refine ⟨v, S, rfl, e2, ?_, ((Below.refl _ w).alloc (Nat.le_refl _) _).trans (hb.mono (by simp))⟩
  have e3 : (ss.mergeSort (fun x y => decide (x ≤ y))).map encZ = S.map fun i : Nat => .int .i64 (i : Int) := by
    show (ss.mergeSort leI).map encZ = _
    rw [e1, List.map_map]; rfl
  rw [e3, ← hlen] at hrow
  exact ownsRow_base_a hrow (by simp)
end Go.Proofs.YtcahgmnkphmnhaaGreat
/- Package reach: Live, Dead, Sweep. -/
namespace Go.Proofs.YtcahgmnkphmnhaaGreat
open Go.RowKit Go.Maps Go.ChangeMaps

theorem pv_some (W : Ways) (k : Nat) : (pv W k).isSome = (W k).isSome := by unfold pv; cases W k <;> rfl
theorem keys_live {l : Bytes} (hg : Good l) {S : List Nat} (h : KeysOf (pv (fromW l)) S) : S = liveL l :=
  up_ext (A := S) (B := liveL l) h.up (liveL_up l) fun x => by
    have h1 := h.mem x
    have h2 := pv_some (fromW l) x
    have h3 := liveL_mem hg (x := x)
    rw [h2] at h1
    exact h1.trans h3.symm
section
variable {w0 w : World} {F : Nat → Prop} {h : Nat} {l : Bytes}
set_option maxRecDepth 100000 in
theorem live_any (hp : Hp w0 w F h l) (hg : Good l) :
    Calls Tryz.prog 30 #[.pointer (some ⟨h, 0, none⟩)] w fun e w' => ∃ v, e = .returned v ∧ w'.ownsRow w.heap.size 3 1 v (liveL l).length ((liveL l).flatMap ncell) ∧ Below w.heap.size w w' := by
  have HC := Hidden.mk (from_any hp hg)
  have HKL : Hidden (∀ S, KeysOf (pv (fromW l)) S → S = liveL l) := ⟨fun S h => keys_live hg h⟩
  generalize liveL l = LL at *
  generalize fromW l = W at *
  clear hp hg
  go_enter Tryz.func30, Tryz.ntmps30
  go_wp2_with fail
  refine HC.out.mono ?_
  rintro e w1 ⟨mb, rfl, hf⟩
  obtain ⟨cnt, him, hc⟩ := hf.im
  have HB := Hidden.mk hf.bel
  have HS := Hidden.mk (sortedN_call mb cnt (pv W) w1 him (by omega))
  clear hf him HC
  go_wp2_with fail
  refine (keysN_call mb w1).mono ?_
  rintro e w2 ⟨rfl, rfl⟩
  go_wp2_with fail
  refine HS.out.mono ?_
  rintro e w3 ⟨v, S, rfl, hS, hown, hb⟩
  have hSL := HKL.out S hS
  subst hSL
  have HF : Hidden (w3.ownsRow w.heap.size 3 1 v S.length (S.flatMap ncell) ∧ Below w.heap.size w w3) := ⟨by
    rw [ncell_map, List.map_map]; exact own_base hown HB.out.size, HB.out.trans (hb.mono HB.out.size)⟩
  clear hS hown hb HS
  go_wp2_with fail
  go_ret
  exact ⟨v, rfl, HF.out.1, HF.out.2⟩
set_option maxRecDepth 100000 in
theorem dead_any (hp : Hp w0 w F h l) (hg : Good l) :
    Calls Tryz.prog 31 #[.pointer (some ⟨h, 0, none⟩)] w fun e w' => ∃ v, e = .returned v ∧ w'.ownsRow w.heap.size 3 1 v (deadL l).length ((deadL l).flatMap ncell) ∧ Below w.heap.size w w' := by
  obtain ⟨i0', hi0, hz0, hz1, hz2⟩ := info_parts int_infoC
  have HI := Hidden.mk (And.intro hi0 (And.intro hz0 (And.intro hz1 hz2)))
  have HC := Hidden.mk (from_any hp hg)
  have HEN : Hidden (∀ e ∈ entriesL l, ∃ k : Nat, k < 40 ∧ e = ((k : Int) + 1, rawE l k)) := ⟨fun e he => by
    obtain ⟨k, h1, -, h2⟩ := entL_mem.1 he
    exact ⟨k, h1, h2⟩⟩
  have hle : (entriesL l).length ≤ 40 := entsL_len _ _ 40
  have HD : Hidden (deadL l = deadE l (entriesL l)) := ⟨rfl⟩
  generalize deadL l = DL at *
  clear hp hg hi0 hz0 hz1 hz2
  go_enter Tryz.func31, Tryz.ntmps31
  go_wp2_with fail
  refine HC.out.mono ?_
  rintro e w1 ⟨mb, rfl, hf⟩
  have HF1 := Hidden.mk hf
  have HEC := Hidden.mk (hentries_any hf.hp)
  generalize entriesL l = E at *
  clear hf HC
  go_wp2_with fail
  refine HEC.out.mono ?_
  rintro e w2 ⟨v, rfl, hown, hb2⟩
  obtain ⟨A1, c1, rfl, hc1, -⟩ := own_split hown
  have HR := Hidden.mk (own_rdX3 (f := ecells) (fun _ => rfl) rfl hown)
  have HF2 := Hidden.mk (HF1.out.below hb2)
  generalize hm : E.length = m at *
  have HM := Hidden.mk hm
  clear hown hb2 HEC HF1 hm
  go_wp2_with fail
  go_loopg [2, 13] m (fun q v i wr => ∃ k : Nat, k ≤ m ∧ q = m - k ∧ i = .int .i64 (k : Int) ∧ Hidden (Below w2.heap.size w2 wr ∧ wr.ownsRow w2.heap.size 3 1 v (deadE l (E.take k)).length ((deadE l (E.take k)).flatMap ncell)))
  case atStart => exact ⟨0, by omega, rfl, rfl, ⟨Below.refl _ _, World.ownsRow_nil _ _ _ _⟩⟩
  case round =>
    obtain ⟨k, hk, rfl, rfl, hst⟩ := hrel
    by_cases hlt : k < m
    · have hkE : k < E.length := by rw [HM.out]; exact hlt
      obtain ⟨p, off, rfl, hcx⟩ := (HR.out.below hst.out.1) k hkE
      have x0 := hcx 0 _ rfl
      have x1 := hcx 1 _ rfl
      have x2 := hcx 2 _ rfl
      have x3 := hcx 3 _ rfl
      rw [Nat.add_zero] at x0
      have HS := Hidden.mk (deadE_succ l E k hkE)
      obtain ⟨j, hj, hej⟩ := HEN.out E[k] (List.getElem_mem hkE)
      have hdl : (deadE l (E.take k)).length ≤ 40 := Nat.le_trans (deadE_len _ _) (by rw [List.length_take]; omega)
      rw [hej] at x0 x1 x2 x3 HS
      dsimp only at x0 x1 x2 x3 HS
      rw [show ((j : Int) + 1).toNat = j + 1 by omega] at HS
      generalize rAt (rawE l j) = e1 at *
      generalize rLen (rawE l j) = e2 at *
      generalize rTag (rawE l j) = e3 at *
      have i0 : (0 : Int) ≤ k := by omega
      have i1 : (k : Int) < m := by omega
      have s3 : IntKind.i64.wrap ((k : Int) + 1) = (k : Int) + 1 := IntWalk.i64_in _ (by omega)
      have hal : Below wr.heap.size wr (wr.alloc (.cells #[.int .i64 ((j : Int) + 1), .int .i64 e1, .int .i64 e2, .int .i64 e3] 97)) := (Below.refl _ _).alloc (Nat.le_refl _) _
      have hFW := (HF2.out.below hst.out.1).below hal
      obtain ⟨lk0, lk1⟩ := hFW.look (y := j + 1) (by omega)
      rw [show ((j + 1 : Nat) : Int) = (j : Int) + 1 from by omega] at lk0 lk1
      have HN := Hidden.mk (And.intro (hst.out.1.trans (hal.mono hst.out.1.size)) (own_below hst.out.2 hal))
      generalize hDe : deadE l (E.take k) = DE at *
      clear hcx hst hej hFW hDe
      cases hw : fromW l (j + 1) with
      | some pp =>
        have lk := (lk1 pp hw).1
        rw [hw] at HS
        have HSS : Hidden (deadE l (E.take (k + 1)) = DE) := ⟨by rw [HS.out]; simp⟩
        generalize (par pp : Int) = pz at *
        clear lk0 lk1 hw HS hal
        go_wp2_with fail
        go_roundg (m - (k + 1))
        case measure => omega
        case rel => exact ⟨k + 1, by omega, rfl, by go_num, ⟨by rw [HSS.out]; exact HN.out⟩⟩
      | none =>
        have lk := lk0 hw
        rw [hw] at HS
        have HSS : Hidden (deadE l (E.take (k + 1)) = DE ++ [j + 1]) := ⟨by rw [HS.out]; simp⟩
        obtain ⟨hi0, hz0, hz1, hz2⟩ := HI.out
        clear lk0 lk1 hw HS hal
        go_wp2_with (at_builtin; refine wpList_append_lies _ rfl (.tmp 26) (.tmp 29) _ rfl w2.heap.size 3 i0' _ 1 8 Tryz.underlying24 hi0 hz0 hz1 hz2 rfl (by decide) u2 DE.length (DE.flatMap ncell) rfl (own_below HN.out.2 ((Below.refl _ _).alloc (Nat.le_refl _) _)) ⟨wr.heap.size + 1, 0, none⟩ 1 1 [.int .i64 ((j : Int) + 1)] rfl rfl (World.news_of_block (cs := #[.int .i64 ((j : Int) + 1)]) (t := 3) (fr := (0, 0)) (by have hq_ := heap_alloc_new ((wr.alloc (.cells #[.int .i64 ((j : Int) + 1), .int .i64 e1, .int .i64 e2, .int .i64 e3] 97))) (.cells #[.int .i64 ((j : Int) + 1)] 3); rwa [World.size_alloc] at hq_)) (by simp [Value.oneCell']) (by omega) (by simp only [maxLen]; omega) (by omega) (by have hz_ := HN.out.1.size; rw [World.size_alloc]; omega) (wr.heap.size + 1 + 1) (by simp) ?_; intro g8 cap8 w8 hown8 hg8 hat8 hlt8)
        have hgW := grown_trans' ((Below.refl (wr.alloc (.cells #[.int .i64 ((j : Int) + 1), .int .i64 e1, .int .i64 e2, .int .i64 e3] 97)).heap.size (wr.alloc (.cells #[.int .i64 ((j : Int) + 1), .int .i64 e1, .int .i64 e2, .int .i64 e3] 97))).alloc (Nat.le_refl _) _) hg8
        have hB8 : Below w2.heap.size w2 w8 := HN.out.1.grown hgW HN.out.1.size (fun q hq => (HN.out.2.lt q hq).1)
        have HF : Hidden (Below w2.heap.size w2 w8 ∧ w8.ownsRow w2.heap.size 3 1 (.slice (some ⟨g8, 0, none⟩) (DE.length + 1) cap8) (DE ++ [j + 1]).length ((DE ++ [j + 1]).flatMap ncell)) := ⟨hB8, by
          rw [List.length_append, List.flatMap_append]
          simpa [ncell] using hown8⟩
        clear hgW hB8 hown8 hg8 hat8 hlt8 hi0 hz0 hz1 hz2
        go_roundg (m - (k + 1))
        case measure => omega
        case rel => exact ⟨k + 1, by omega, rfl, by go_num, ⟨by rw [HSS.out]; exact HF.out⟩⟩
    · obtain rfl : m = k := by omega
      have hT := hst.out.2
      rw [List.take_of_length_le (by rw [HM.out]; exact Nat.le_refl _), ← HD.out] at hT
      have HF : Hidden (wr.ownsRow w.heap.size 3 1 u2 DL.length (DL.flatMap ncell) ∧ Below w.heap.size w wr) := ⟨own_base hT HF2.out.bel.size, HF2.out.bel.trans (hst.out.1.mono HF2.out.bel.size)⟩
      clear hT hst HD
      go_wp2_with fail
      go_ret
      exact ⟨_, rfl, HF.out.1, HF.out.2⟩
set_option maxRecDepth 100000 in
theorem sweep_any (hp : Hp w0 w F h l) (hg : Good l) :
    Calls Tryz.prog 28 #[.pointer (some ⟨h, 0, none⟩)] w fun e w' => e = .returned (.tuple #[.int .i64 ((deadL l).length : Int), .nilIface]) ∧ ∃ F', HpM w0 w w' F F' h (sweepL l) := by
  have HC := Hidden.mk (dead_any hp hg)
  have HP := Hidden.mk hp
  have HG := Hidden.mk hg
  have hle : (deadL l).length ≤ 40 := Nat.le_trans (deadE_len _ _) (entsL_len _ _ 40)
  have HSF : Hidden (∀ i (hi : i < (deadL l).length), freeE (sweepT l ((deadL l).take i)) ((deadL l)[i] : Int) = 0) := ⟨fun i hi => sweep_free HG.out hi⟩
  have HSS : Hidden (∀ i (hi : i < (deadL l).length), sweepT l ((deadL l).take (i + 1)) = freeL (sweepT l ((deadL l).take i)) ((deadL l)[i] : Int)) := ⟨fun i hi => sweepT_succ l _ i hi⟩
  have HSW : Hidden (sweepL l = sweepT l (deadL l)) := ⟨rfl⟩
  generalize deadL l = D at *
  clear hp hg
  go_enter Tryz.func28, Tryz.ntmps28
  go_wp2_with fail
  refine HC.out.mono ?_
  rintro e w1 ⟨v, rfl, hown, hb1⟩
  obtain ⟨A1, c1, rfl, hc1, -⟩ := own_split hown
  have HO := Hidden.mk hown
  have HP1 := Hidden.mk (HP.out.same hb1)
  have HNF : Hidden (∀ q, (Value.slice A1 D.length c1).ownBlock = some q → ¬ F q) := ⟨fun q hq hf => by
    have := (hown.lt q hq).1; have := HP.out.flt q hf; omega⟩
  clear hown hb1 HC HP
  go_wp2_with fail
  go_loopg [12] D.length (fun q i wr => ∃ (k : Nat) (F' : Nat → Prop), k ≤ D.length ∧ q = D.length - k ∧ i = .int .i64 (k : Int) ∧ Hidden (HpM w0 w1 wr F F' h (sweepT l (D.take k))))
  case atStart => exact ⟨0, F, by omega, rfl, rfl, ⟨HP1.out.hp.same (Below.refl _ _)⟩⟩
  case round =>
    obtain ⟨k, F', hk, rfl, rfl, hst⟩ := hrel
    by_cases hlt : k < D.length
    · have hkD : k < D.length := hlt
      have hown := ownsRow_block HO.out (w' := wr) fun q hq => hst.out.kp.block q (HO.out.lt q hq).2 (HNF.out q hq)
      obtain ⟨pb, ob, rfl, hcx⟩ := (own_rdX3 (f := ncell) (fun _ => rfl) rfl hown) k hkD
      have x0 : wr.cell? ⟨pb, ob + k, none⟩ = some (.int .i64 (D[k] : Int)) := by simpa using hcx 0 _ rfl
      have HFR := Hidden.mk (hfree_any (D[k] : Int) hst.out.hp)
      rw [HSF.out k hkD, ← HSS.out k hkD, show errV 0 = Value.nilIface from rfl] at HFR
      have HST := Hidden.mk hst.out
      generalize D[k] = q0 at *
      have i0 : (0 : Int) ≤ k := by omega
      have i1 : (k : Int) < D.length := by omega
      have s3 : IntKind.i64.wrap ((k : Int) + 1) = (k : Int) + 1 := IntWalk.i64_in _ (by omega)
      clear hcx hst hown
      go_wp2_with fail
      refine HFR.out.mono ?_
      rintro e w5 ⟨rfl, F5, hm5⟩
      have HM5 := Hidden.mk (HST.out.trans hm5)
      clear hm5 HFR
      go_wp2_with fail
      go_roundg (D.length - (k + 1))
      case measure => omega
      case rel => exact ⟨k + 1, F5, by omega, rfl, by go_num, HM5⟩
    · obtain rfl : k = D.length := by omega
      have hT := hst.out
      rw [List.take_length, ← HSW.out] at hT
      have HF := Hidden.mk (HP1.out.trans hT)
      clear hT hst
      go_wp2_with fail
      go_ret2
      exact ⟨rfl, _, HF.out⟩
end
end Go.Proofs.YtcahgmnkphmnhaaGreat
/- StatSums: the walk. -/
namespace Go.Proofs.YtcahgmnkphmnhaaGreat
open Go.RowKit

theorem sum_take_succ (T : List Nat) (k : Nat) (hk : k < T.length) : (T.take (k + 1)).sum = (T.take k).sum + T[k] := by
  rw [List.take_succ_eq_append_getElem hk, List.sum_append]; simp
theorem sum_take_le (T : List Nat) (k : Nat) : (T.take k).sum ≤ T.sum := by
  conv => rhs; rw [← List.take_append_drop k T, List.sum_append]
  omega
theorem errV_nz {n : Nat} (h : n ≠ 0) : errV n = .iface 88 (.int .i64 n) := by unfold errV; rw [if_neg h]
set_option maxRecDepth 100000 in
set_option maxHeartbeats 4000000 in
theorem statSums_walk (A B C : Option Addr) (cA cB cC : Nat) (L M N : List Int) (w : World) (hA : RdX icell 1 w A L) (hB : RdX icell 1 w B M) (hC : RdX icell 1 w C N) (hLN : N.length ≤ 140737488351232) :
    Calls Tryz.prog 4 #[.slice A L.length cA, .slice B M.length cB, .slice C N.length cC] w fun e w' => e = .returned (.bool true) ∧ Below w.heap.size w w' := by
  have HA := Hidden.mk hA
  have HB := Hidden.mk hB
  have HC := Hidden.mk hC
  have HN := Hidden.mk (hnew_ok 1000 w (by decide))
  rw [show ((1000 : Nat) : Int) = 1000 from rfl] at HN
  have HG0 := Hidden.mk StS.zero
  generalize List.replicate 1000 (0 : UInt8) = l0 at *
  clear hA hB hC
  go_enter Tryz.func4, Tryz.ntmps4
  go_wp2_with fail
  refine HN.out.mono ?_
  rintro e w1 ⟨h, F1, rfl, hp⟩
  have HP := Hidden.mk hp
  clear hp HN
  go_upto_block 0 with (fail)
  go_cut [] (fun wx => ∃ (F : Nat → Prop) (l : Bytes), Hidden (Hp w wx F h l ∧ StS l))
  case first =>
    go_wp2_with fail
    go_loopg [9] 30 (fun q i wr => ∃ (j : Nat) (F : Nat → Prop) (l : Bytes), j ≤ 30 ∧ j ≤ L.length ∧ q = 30 - j ∧ i = .int .i64 (j : Int) ∧ Hidden (Hp w wr F h l ∧ StS l))
    case atStart => exact ⟨0, F1, l0, by omega, by omega, rfl, rfl, ⟨HP.out, HG0.out⟩⟩
    case round =>
      obtain ⟨j, F, l, hj, hjL, rfl, rfl, hst⟩ := hrel
      by_cases hlt : j < L.length
      · have d0 : decide ((j : Int) < L.length) = true := by simp; omega
        by_cases h30 : j < 30
        · have d1 : decide ((j : Int) < 30) = true := by simp; omega
          have i0 : (0 : Int) ≤ j := by omega
          have i1 : (j : Int) < L.length := by omega
          have s1 : IntKind.i64.wrap ((j : Int) + 1) = (j : Int) + 1 := IntWalk.i64_in _ (by omega)
          have s2 : IntKind.i64.wrap (Int.tmod (j : Int) 16) = (j : Int) % 16 := by rw [Int.tmod_eq_emod_of_nonneg (by omega)]; exact IntWalk.i64_in _ (by omega)
          have s3 : Int.tmod (j : Int) 16 = (j : Int) % 16 := Int.tmod_eq_emod_of_nonneg (by omega)
          obtain ⟨pp, oo, rfl, hcx⟩ := (HA.out.below hst.out.1.bel) j hlt
          have y0 : wr.cell? ⟨pp, oo + j, none⟩ = some (.int .i64 L[j]) := by simpa using hcx 0 _ rfl
          have HAL := Hidden.mk (halloc_any L[j] ((j : Int) % 16) hst.out.1)
          have HG := Hidden.mk (hst.out.2.alloc L[j] ((j : Int) % 16))
          generalize (j : Int) % 16 = jt at *
          generalize allocL l L[j] jt = l' at *
          generalize allocH l L[j] jt = ah at *
          generalize errV (allocE l L[j] jt) = ev at *
          generalize L[j] = sz at *
          clear hcx hst
          go_wp2_with fail
          refine HAL.out.mono ?_
          rintro e w3 ⟨rfl, F3, hm⟩
          have HM := Hidden.mk hm.hp
          clear hm HAL
          go_wp2_with fail
          go_roundg (30 - (j + 1))
          case measure => omega
          case rel => exact ⟨j + 1, F3, l', by omega, by omega, rfl, by go_num, ⟨HM.out, HG.out⟩⟩
        · have d1 : decide ((j : Int) < 30) = false := by simp; omega
          have HS := Hidden.mk hst.out
          clear hst
          go_wp2_with fail
          go_meet
          exact ⟨F, l, HS⟩
      · have d0 : decide ((j : Int) < L.length) = false := by simp; omega
        have HS := Hidden.mk hst.out
        clear hst
        go_wp2_with fail
        go_meet
        exact ⟨F, l, HS⟩
  case rest =>
  obtain ⟨F2, l2, hc2⟩ := hcut
  have HP := Hidden.mk hc2.out.1
  have HGL := Hidden.mk hc2.out.2
  clear hc2 HG0
  go_upto_block 2 with (fail)
  go_cut [] (fun wx => ∃ (F : Nat → Prop) (l : Bytes), Hidden (Hp w wx F h l ∧ StS l))
  case first =>
    go_wp2_with fail
    go_loopg [10] 30 (fun q i wr => ∃ (j : Nat) (F : Nat → Prop) (l : Bytes), j ≤ 30 ∧ j ≤ M.length ∧ q = 30 - j ∧ i = .int .i64 (j : Int) ∧ Hidden (Hp w wr F h l ∧ StS l))
    case atStart => exact ⟨0, F2, l2, by omega, by omega, rfl, rfl, ⟨HP.out, HGL.out⟩⟩
    case round =>
      obtain ⟨j, F, l, hj, hjL, rfl, rfl, hst⟩ := hrel
      by_cases hlt : j < M.length
      · have d0 : decide ((j : Int) < M.length) = true := by simp; omega
        by_cases h30 : j < 30
        · have d1 : decide ((j : Int) < 30) = true := by simp; omega
          have i0 : (0 : Int) ≤ j := by omega
          have i1 : (j : Int) < M.length := by omega
          have s1 : IntKind.i64.wrap ((j : Int) + 1) = (j : Int) + 1 := IntWalk.i64_in _ (by omega)
          obtain ⟨pp, oo, rfl, hcx⟩ := (HB.out.below hst.out.1.bel) j hlt
          have y0 : wr.cell? ⟨pp, oo + j, none⟩ = some (.int .i64 M[j]) := by simpa using hcx 0 _ rfl
          have HAL := Hidden.mk (hfree_any M[j] hst.out.1)
          have HG := Hidden.mk (hst.out.2.free M[j])
          generalize freeL l M[j] = l' at *
          generalize errV (freeE l M[j]) = ev at *
          generalize M[j] = sz at *
          clear hcx hst
          go_wp2_with fail
          refine HAL.out.mono ?_
          rintro e w3 ⟨rfl, F3, hm⟩
          have HM := Hidden.mk hm.hp
          clear hm HAL
          go_wp2_with fail
          go_roundg (30 - (j + 1))
          case measure => omega
          case rel => exact ⟨j + 1, F3, l', by omega, by omega, rfl, by go_num, ⟨HM.out, HG.out⟩⟩
        · have d1 : decide ((j : Int) < 30) = false := by simp; omega
          have HS := Hidden.mk hst.out
          clear hst
          go_wp2_with fail
          go_meet
          exact ⟨F, l, HS⟩
      · have d0 : decide ((j : Int) < M.length) = false := by simp; omega
        have HS := Hidden.mk hst.out
        clear hst
        go_wp2_with fail
        go_meet
        exact ⟨F, l, HS⟩
  case rest =>
  obtain ⟨F3, l3, hc3⟩ := hcut
  have HP := Hidden.mk hc3.out.1
  have HGL := Hidden.mk hc3.out.2
  clear hc3
  have HS1 := Hidden.mk (sheap_any HP.out HGL.out.good)
  rw [statH_five HGL.out.good] at HS1
  have HF4 := Hidden.mk (stat_four HGL.out.good)
  have HBT : Hidden (∀ W, Hp w W F3 h l3 → Calls Tryz.prog 25 #[.pointer (some ⟨h, 0, none⟩)] W fun e w' => ∃ g, e = .returned (.slice (some ⟨g, 0, none⟩) 16 16) ∧ RdX ncell 1 w' (some ⟨g, 0, none⟩) (tagsL l3) ∧ Below W.heap.size W w') := ⟨fun W hW => bytag_any hW HGL.out.good⟩
  have HTS := Hidden.mk (tags_all HGL.out.good)
  have HTL : Hidden ((tagsL l3).length = 16) := ⟨by unfold tagsL; simp⟩
  have HLO : Hidden (∀ W, Hp w W F3 h l3 → Calls Tryz.prog 26 #[.pointer (some ⟨h, 0, none⟩)] W fun e w' => e = .returned (.tuple #[.int .i64 (looseI (freeL_ l3) (mostL l3)), .nilIface]) ∧ Below W.heap.size W w') := ⟨fun W hW => loose_any hW HGL.out.good⟩
  have HLB := Hidden.mk (loose_bd HF4.out.1 HF4.out.2.1 HF4.out.2.2.2.2.2)
  have HSF : Hidden (sumX (takenL l3) + freeL_ l3 = 712) := ⟨by unfold freeL_; rw [HGL.out.len]; omega⟩
  have HRB : Hidden ((takenL l3).length ≤ 40) := ⟨takenL_len l3⟩
  generalize looseI (freeL_ l3) (mostL l3) = lo at *
  generalize tagsL l3 = T at *
  generalize hru : (holesX ((l3.length : Int) - 288) (takenL l3)).length = ru at *
  generalize mostL l3 = mo at *
  generalize freeL_ l3 = fr at *
  generalize (takenL l3).length = ob at *
  generalize sumX (takenL l3) = su at *
  clear hru
  obtain ⟨f0, f1, f2, f3, f4, f5⟩ := HF4.out
  have hsf := HSF.out
  have hrb := HRB.out
  have t0 : IntKind.i64.wrap (su + fr) = 712 := by rw [hsf]; rfl
  have t1 : decide (fr < mo) = false := decide_eq_false (by omega)
  have t2 : IntKind.i64.wrap ((ob : Int) + 1) = (ob : Int) + 1 := IntWalk.i64_in _ (by omega)
  have t3 : decide ((ob : Int) + 1 < (ru : Int)) = false := decide_eq_false (by omega)
  have t3' : decide (ob + 1 < ru) = false := decide_eq_false (by omega)
  obtain ⟨bz, hz0, hz1, hz2⟩ : ∃ bz : Bool, (fr == 0) = bz ∧ ((ru : Int) == 0) = bz ∧ (ru == 0) = bz := by
    by_cases hz : fr = 0
    · have := f4.1 hz
      exact ⟨true, by simpa using hz, by simp; omega, by simpa using this⟩
    · have : ru ≠ 0 := fun e => hz (f4.2 e)
      exact ⟨false, by simpa using hz, by simp; omega, by simpa using this⟩
  have hbb : (bz != bz) = false := by cases bz <;> rfl
  have HF4b : Hidden (su ≤ 712) := ⟨by omega⟩
  clear f0 f1 f2 f3 f4 f5 HF4
  go_wp2_with fail
  refine HS1.out.mono ?_
  rintro e w4 ⟨rfl, hb4⟩
  have HP4 := HP.out.below hb4
  have HW4 : Hidden (w.heap.size ≤ w4.heap.size) := ⟨HP4.bel.size⟩
  have H5 := Hidden.mk (Five.made (a0 := (ob : Int)) (a1 := su) (a2 := fr) (a3 := mo) (a4 := (ru : Int)) HP4)
  have HP5 := Hidden.mk (HP4.below ((Below.refl w4.heap.size w4).alloc (Nat.le_refl _) (.cells #[.int .i64 (ob : Int), .int .i64 su, .int .i64 fr, .int .i64 mo, .int .i64 (ru : Int)] 57)))
  clear hb4 HS1 HP4 HP
  go_upto_region 13 with (fail)
  generalize w4.alloc (.cells #[.int .i64 (ob : Int), .int .i64 su, .int .i64 fr, .int .i64 mo, .int .i64 (ru : Int)] 57) = w5 at *
  have HSN : Hidden (w.heap.size ≤ w4.heap.size) := ⟨HW4.out⟩
  generalize w4.heap.size = s11 at *
  obtain ⟨x0, x1, x2, x3, x4⟩ := H5.out.cells
  go_wp2_with fail
  refine (HBT.out w5 HP5.out).mono ?_
  rintro e w6 ⟨g6, rfl, hrd6, hb6⟩
  have HP6 := Hidden.mk (HP5.out.below hb6)
  have H6 := Hidden.mk (H5.out.below hb6)
  have HR6 := Hidden.mk hrd6
  clear hrd6 hb6 H5 HP5 HBT x0 x1 x2 x3 x4 t0 t1 t2 t3 t3' hz0 hz1 hz2 hbb
  have hsu : 0 ≤ su ∧ su ≤ 712 := ⟨by have := HTS.out; omega, by have := HF4b.out; omega⟩
  go_upto_block 4 with (fail)
  go_cut [13] (fun s wx => s = .int .i64 su ∧ wx = w6)
  case first =>
    go_wp2_with fail
    go_loopg [13, 15] 16 (fun q sv i wr => ∃ j : Nat, j ≤ 16 ∧ q = 16 - j ∧ i = .int .i64 (j : Int) ∧ sv = .int .i64 ((T.take j).sum : Int) ∧ wr = w6)
    case atStart => exact ⟨0, by omega, rfl, rfl, by simp, rfl⟩
    case round =>
      obtain ⟨j, hj, rfl, rfl, rfl, rfl⟩ := hrel
      have hTL := HTL.out
      by_cases hlt : j < 16
      · obtain ⟨pp, oo, hpp, hcx⟩ := HR6.out j (by omega)
        have y0 : wr.cell? ⟨pp, oo + j, none⟩ = some (.int .i64 (T[j]'(by omega) : Int)) := by simpa using hcx 0 _ rfl
        have hsum := sum_take_succ T j (by omega)
        have hsl := sum_take_le T (j + 1)
        have hts := HTS.out
        obtain ⟨rfl, rfl⟩ : pp = g6 ∧ oo = 0 := by injection hpp with e; injection e with e1 e2; exact ⟨e1.symm, e2.symm⟩
        have i0 : (0 : Int) ≤ j := by omega
        have i1 : (j : Int) < 16 := by omega
        have d1 : decide ((j : Int) < 16) = true := decide_eq_true i1
        have d1' : decide (j < 16) = true := decide_eq_true hlt
        have s1 : IntKind.i64.wrap ((j : Int) + 1) = (j : Int) + 1 := IntWalk.i64_in _ (by omega)
        have s2 : IntKind.i64.wrap (((T.take j).sum : Int) + (T[j]'(by omega) : Int)) = ((T.take (j + 1)).sum : Int) := by rw [hsum]; rw [IntWalk.i64_in _ (by omega)]; omega
        generalize ha1 : ((T.take (j + 1)).sum : Int) = a1 at *
        have HA1 := Hidden.mk ha1
        clear ha1
        generalize ((T.take j).sum : Int) = a0 at *
        generalize ((T[j]'(by omega) : Nat) : Int) = a2 at *
        rw [Nat.zero_add] at y0
        clear hcx hsum hsl hts
        go_wp2_with fail
        go_roundg (16 - (j + 1))
        case measure => omega
        case rel => exact ⟨j + 1, by omega, rfl, by go_num, by rw [HA1.out], rfl⟩
      · obtain rfl : 16 = j := by omega
        have hT : (T.take 16).sum = T.sum := by rw [List.take_of_length_le (by omega)]
        rw [hT, HTS.out]
        clear hT
        go_wp2_with fail
        go_meet
        exact ⟨rfl, rfl⟩
  case rest =>
  obtain ⟨rfl, rfl⟩ := hcut
  have HLO6 := Hidden.mk (HLO.out _ HP6.out)
  clear HLO HR6
  go_wp2_with fail
  refine HLO6.out.mono ?_
  rintro e w7 ⟨rfl, hb7⟩
  have HP7 := Hidden.mk (HP6.out.below hb7)
  have H7 := Hidden.mk (H6.out.below hb7)
  have HCN := Hidden.mk (can_any C cC N (HC.out.below HP7.out.bel) HP7.out HGL.out.good)
  obtain ⟨x0, x1, x2, x3, x4⟩ := H7.out.cells
  have hlb := HLB.out
  have t1 : decide (lo < 0) = false := decide_eq_false (by omega)
  have t2 : decide (99 < lo) = false := decide_eq_false (by omega)
  have t3 : (su != su) = false := bne_self_eq_false su
  have t4 : (su == su) = true := beq_self_eq_true su
  clear hb7 HLO6 HP6 H6 hlb
  go_wp2_with fail
  clear x0 x1 x2 x3 x4 t1 t2 t3 t4
  by_cases hce : canE N = 0
  case neg =>
    rw [errV_nz hce] at HCN
    refine HCN.out.mono ?_
    rintro e w8 ⟨rfl, hb8⟩
    have HF := Hidden.mk (HP7.out.bel.trans (hb8.mono HP7.out.bel.size))
    generalize (canE N : Int) = ce at *
    clear hb8 HCN hce
    go_wp2_with fail
    go_ret
    exact ⟨rfl, HF.out⟩
  have HCE : Hidden (canN l3 N = canF l3 N) := ⟨by unfold canN; rw [if_pos hce]⟩
  rw [hce, HCE.out, show errV 0 = Value.nilIface from rfl] at HCN
  have HNL := Hidden.mk (canF_le N l3)
  have HSTEP : Hidden (∀ i (hi : i < N.length), i ≤ canF l3 N → (allocE (canI l3 (N.take i)) N[i] 0 = 0 ↔ i < canF l3 N)) := ⟨fun i hi h => can_step hi h⟩
  generalize canF l3 N = n at *
  refine HCN.out.mono ?_
  rintro e w8 ⟨rfl, hb8⟩
  have HP8 := Hidden.mk (HP7.out.below hb8)
  have H8 := Hidden.mk (H7.out.below hb8)
  clear hb8 HCN hce HP7 H7 HCE
  go_upto_block 6 with (fail)
  go_cut [] (fun wx => ∃ (F : Nat → Prop) (l : Bytes), Hidden (Hp w wx F h l ∧ StS l ∧ Five wx F s11 (ob : Int) su fr mo (ru : Int)))
  case first =>
    go_wp2_with fail
    go_loopg [19] (N.length + 1) (fun q i wr => ∃ (j : Nat) (F : Nat → Prop), j ≤ N.length ∧ q = N.length + 1 - j ∧ i = .int .i64 (j : Int) ∧ Hidden (Hp w wr F h (canI l3 (N.take j)) ∧ Five wr F s11 (ob : Int) su fr mo (ru : Int)))
    case atStart => exact ⟨0, F3, by omega, rfl, rfl, ⟨HP8.out, H8.out⟩⟩
    case round =>
      obtain ⟨j, F, hj, rfl, rfl, hst⟩ := hrel
      have HG := Hidden.mk (canI_sts HGL.out (N.take j))
      have hnl := HNL.out
      by_cases hlt : j < N.length
      · have d0 : decide ((j : Int) < N.length) = true := by simp; omega
        by_cases hjn : j ≤ n
        · have d1 : decide ((j : Int) ≤ n) = true := by simp; omega
          have d1' : decide (j ≤ n) = true := decide_eq_true hjn
          have i0 : (0 : Int) ≤ j := by omega
          have i1 : (j : Int) < N.length := by omega
          have s1 : IntKind.i64.wrap ((j : Int) + 1) = (j : Int) + 1 := IntWalk.i64_in _ (by omega)
          obtain ⟨pp, oo, rfl, hcx⟩ := (HC.out.below hst.out.1.bel) j hlt
          have y0 : wr.cell? ⟨pp, oo + j, none⟩ = some (.int .i64 N[j]) := by simpa using hcx 0 _ rfl
          have HAL := Hidden.mk (halloc_any N[j] 0 hst.out.1)
          have HS := Hidden.mk (canI_succ l3 N j hlt)
          have hsp := HSTEP.out j hlt hjn
          have H5r := Hidden.mk hst.out.2
          generalize canI l3 (N.take j) = l at *
          rw [← HS.out] at HAL
          generalize allocH l N[j] 0 = ah at *
          generalize hae : allocE l N[j] 0 = ae at *
          generalize N[j] = sz at *
          clear hcx hst hae
          by_cases hjl : j < n
          · have e0 := hsp.2 hjl
            rw [e0, show errV 0 = Value.nilIface from rfl] at HAL
            have d2 : decide ((j : Int) < n) = true := by simp; omega
            have d2' : decide (j < n) = true := decide_eq_true hjl
            clear hsp e0
            go_wp2_with fail
            refine HAL.out.mono ?_
            rintro e w3 ⟨rfl, F3', hm⟩
            have HM := Hidden.mk hm.hp
            have HM5 := Hidden.mk (H5r.out.moved hm)
            clear hm HAL
            go_wp2_with fail
            go_roundg (N.length + 1 - (j + 1))
            case measure => omega
            case rel => exact ⟨j + 1, F3', by omega, rfl, by go_num, ⟨HM.out, HM5.out⟩⟩
          · have e0 : ae ≠ 0 := fun e => hjl (hsp.1 e)
            rw [errV_nz e0] at HAL
            have d2 : decide ((j : Int) < n) = false := by simp; omega
            have d2' : decide (j < n) = false := decide_eq_false hjl
            generalize (ae : Int) = aei at *
            clear hsp e0
            go_wp2_with fail
            refine HAL.out.mono ?_
            rintro e w3 ⟨rfl, F3', hm⟩
            have HM := Hidden.mk hm.hp
            have HM5 := Hidden.mk (H5r.out.moved hm)
            clear hm HAL
            go_wp2_with fail
            go_roundg (N.length + 1 - (j + 1))
            case measure => omega
            case rel => exact ⟨j + 1, F3', by omega, rfl, by go_num, ⟨HM.out, HM5.out⟩⟩
        · have d1 : decide ((j : Int) ≤ n) = false := by simp; omega
          have d1' : decide (j ≤ n) = false := decide_eq_false hjn
          have HS : Hidden (Hp w wr F h (canI l3 (N.take j)) ∧ StS (canI l3 (N.take j)) ∧ Five wr F s11 (ob : Int) su fr mo (ru : Int)) := ⟨hst.out.1, HG.out, hst.out.2⟩
          clear hst hnl
          go_wp2_with fail
          go_meet
          exact ⟨F, _, HS⟩
      · have d0 : decide ((j : Int) < N.length) = false := by simp; omega
        have HS : Hidden (Hp w wr F h (canI l3 (N.take j)) ∧ StS (canI l3 (N.take j)) ∧ Five wr F s11 (ob : Int) su fr mo (ru : Int)) := ⟨hst.out.1, HG.out, hst.out.2⟩
        clear hst hnl
        go_wp2_with fail
        go_meet
        exact ⟨F, _, HS⟩
  case rest =>
  obtain ⟨F4, l4, hc4⟩ := hcut
  have HP9 := Hidden.mk hc4.out.1
  have HG9 := Hidden.mk hc4.out.2.1
  have H9 := Hidden.mk hc4.out.2.2
  clear hc4 HP8 H8
  have HAL := Hidden.mk (mall_any HP9.out HG9.out.good)
  have HG10 := Hidden.mk (HG9.out.moved (all_done HG9.out.good).1)
  have hal40 := (all_done HG9.out.good).2.2
  generalize allL l4 = l5 at *
  generalize allN l4 = an at *
  go_wp2_with fail
  refine HAL.out.mono ?_
  rintro e w10 ⟨rfl, F5, hm⟩
  have HP10 := Hidden.mk hm.hp
  have H10 := Hidden.mk (H9.out.moved hm)
  have HSW := Hidden.mk (sweep_any hm.hp HG10.out.good)
  have HG11 := Hidden.mk (sweep_all HG10.out)
  have hd40 : (deadL l5).length ≤ 40 := Nat.le_trans (deadE_len _ _) (entsL_len _ _ 40)
  generalize deadL l5 = dl at *
  generalize sweepL l5 = l6 at *
  clear hm HAL HP9 H9
  go_wp2_with fail
  refine HSW.out.mono ?_
  rintro e w11 ⟨rfl, F6, hm⟩
  have H11 := Hidden.mk (H10.out.moved hm)
  have HP11 := Hidden.mk hm.hp
  have HAR := Hidden.mk (rall_any hm.hp)
  rw [HG11.out.1.noroots] at HAR
  clear hm HSW HP10 H10
  go_wp2_with fail
  refine HAR.out.mono ?_
  rintro e w12 ⟨v12, rfl, hown, hb12⟩
  obtain ⟨A12, c12, rfl, -, -⟩ := own_split (f := rcells) hown
  have HP12 := Hidden.mk (HP11.out.below hb12)
  have H12 := Hidden.mk (H11.out.below hb12)
  have HST := Hidden.mk (sheap_any HP12.out HG11.out.1.good)
  rw [stat_none HG11.out.1 HG11.out.2] at HST
  clear hown hb12 HAR HP11 H11
  go_wp2_with fail
  refine HST.out.mono ?_
  rintro e w13 ⟨rfl, hb13⟩
  have HP13 := Hidden.mk (HP12.out.below hb13)
  have H13 := Hidden.mk (H12.out.below hb13)
  clear hb13 HST HP12 H12
  have b0 := H13.out.blk
  have b1 := heap_setK (k := 0) b0 (.int .i64 0)
  have b2 := heap_setK (k := 1) b1 (.int .i64 0)
  have b3 := heap_setK (k := 2) b2 (.int .i64 712)
  have b4 := heap_setK (k := 3) b3 (.int .i64 712)
  have b5 := heap_setK (k := 4) b4 (.int .i64 1)
  have c0 : w13.cell? ⟨s11, 0, none⟩ = some (.int .i64 (ob : Int)) := by simp [World.cell?, b0]
  have c1 : (w13.setCell ⟨s11, 0, none⟩ (.int .i64 0)).cell? ⟨s11, 1, none⟩ = some (.int .i64 su) := by simp [World.cell?, b1]
  have c2 : ((w13.setCell ⟨s11, 0, none⟩ (.int .i64 0)).setCell ⟨s11, 1, none⟩ (.int .i64 0)).cell? ⟨s11, 2, none⟩ = some (.int .i64 fr) := by simp [World.cell?, b2]
  have c3 : (((w13.setCell ⟨s11, 0, none⟩ (.int .i64 0)).setCell ⟨s11, 1, none⟩ (.int .i64 0)).setCell ⟨s11, 2, none⟩ (.int .i64 712)).cell? ⟨s11, 3, none⟩ = some (.int .i64 mo) := by simp [World.cell?, b3]
  have c4 : ((((w13.setCell ⟨s11, 0, none⟩ (.int .i64 0)).setCell ⟨s11, 1, none⟩ (.int .i64 0)).setCell ⟨s11, 2, none⟩ (.int .i64 712)).setCell ⟨s11, 3, none⟩ (.int .i64 712)).cell? ⟨s11, 4, none⟩ = some (.int .i64 (ru : Int)) := by simp [World.cell?, b4]
  have e0 := frozen_of_row _ _ 0 _ _ b0
  have e1 := frozen_of_row _ _ 1 _ _ b1
  have e2 := frozen_of_row _ _ 2 _ _ b2
  have e3 := frozen_of_row _ _ 3 _ _ b3
  have e4 := frozen_of_row _ _ 4 _ _ b4
  have y0 : (((((w13.setCell ⟨s11, 0, none⟩ (.int .i64 0)).setCell ⟨s11, 1, none⟩ (.int .i64 0)).setCell ⟨s11, 2, none⟩ (.int .i64 712)).setCell ⟨s11, 3, none⟩ (.int .i64 712)).setCell ⟨s11, 4, none⟩ (.int .i64 1)).cell? ⟨s11, 0, none⟩ = some (.int .i64 0) := by simp [World.cell?, b5]
  have y2 : (((((w13.setCell ⟨s11, 0, none⟩ (.int .i64 0)).setCell ⟨s11, 1, none⟩ (.int .i64 0)).setCell ⟨s11, 2, none⟩ (.int .i64 712)).setCell ⟨s11, 3, none⟩ (.int .i64 712)).setCell ⟨s11, 4, none⟩ (.int .i64 1)).cell? ⟨s11, 2, none⟩ = some (.int .i64 712) := by simp [World.cell?, b5]
  have y3 : (((((w13.setCell ⟨s11, 0, none⟩ (.int .i64 0)).setCell ⟨s11, 1, none⟩ (.int .i64 0)).setCell ⟨s11, 2, none⟩ (.int .i64 712)).setCell ⟨s11, 3, none⟩ (.int .i64 712)).setCell ⟨s11, 4, none⟩ (.int .i64 1)).cell? ⟨s11, 3, none⟩ = some (.int .i64 712) := by simp [World.cell?, b5]
  have hsz : w.heap.size ≤ s11 := HSN.out
  have HF := Hidden.mk (((((HP13.out.bel.setCell (p := ⟨s11, 0, none⟩) hsz (.int .i64 0)).setCell (p := ⟨s11, 1, none⟩) hsz (.int .i64 0)).setCell (p := ⟨s11, 2, none⟩) hsz (.int .i64 712)).setCell (p := ⟨s11, 3, none⟩) hsz (.int .i64 712)).setCell (p := ⟨s11, 4, none⟩) hsz (.int .i64 1))
  clear b0 b1 b2 b3 b4 b5 hsz
  go_wp2_with fail
  go_ret
  exact ⟨rfl, HF.out⟩
end Go.Proofs.YtcahgmnkphmnhaaGreat
