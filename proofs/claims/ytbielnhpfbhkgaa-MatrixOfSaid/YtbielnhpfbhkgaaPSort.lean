/- Plain facts: sorting by a comparator; lists of ints in the order of a dictionary. -/
import Derived.Test.YtbielnhpfbhkgaaPTool
set_option linter.unusedVariables false
set_option linter.unusedSimpArgs false
namespace Go.Proofs.Ytbielnhpfbhkgaa
open Go Go.RowKit

section
variable {α β : Type}
theorem ev_all {xs : List α} {f : α → Nat → Option β} {v : α → β} (h : ∀ x ∈ xs, Ev (f x) (v x)) : ∃ K, ∀ k, K ≤ k → ∀ x ∈ xs, f x k = some (v x) := by
  induction xs with
  | nil => exact ⟨0, fun _ _ x hx => by cases hx⟩
  | cons x xs ih =>
    obtain ⟨K1, a1⟩ := ih fun y hy => h y (List.mem_cons_of_mem _ hy)
    obtain ⟨K2, a2⟩ := h x (List.mem_cons_self ..)
    refine ⟨max K1 K2, fun k hk y hy => ?_⟩
    cases hy with
    | head => exact a2 k (by omega)
    | tail _ hy => exact a1 k (by omega) y hy
/-- A strict order on what stands in xs that parts whatever two. -/
structure Parts (xs : List α) (lt : α → α → Prop) : Prop where mk ::
  irr : ∀ x ∈ xs, ¬ lt x x
  tr : ∀ x ∈ xs, ∀ y ∈ xs, ∀ z ∈ xs, lt x y → lt y z → lt x z
  tot : ∀ x ∈ xs, ∀ y ∈ xs, x ≠ y → lt x y ∨ lt y x
theorem Parts.asymm {xs : List α} {lt : α → α → Prop} (h : Parts xs lt) {x y : α} (hx : x ∈ xs) (hy : y ∈ xs) (a : lt x y) (b : lt y x) : False := h.irr x hx (h.tr x hx y hy x hx a b)
theorem Parts.sub {xs ys : List α} {lt : α → α → Prop} (h : Parts xs lt) (hs : ∀ y ∈ ys, y ∈ xs) : Parts ys lt :=
  ⟨fun x hx => h.irr x (hs x hx), fun x hx y hy z hz => h.tr x (hs x hx) y (hs y hy) z (hs z hz), fun x hx y hy => h.tot x (hs x hx) y (hs y hy)⟩
/-- Ascending; what is the same may stand side by side. -/
def Asc (lt : α → α → Prop) (xs : List α) : Prop := xs.Pairwise fun x y => x = y ∨ lt x y
theorem Asc.unique {lt : α → α → Prop} {xs ys : List α} (hp : Parts xs lt) (h : xs.Perm ys) (h1 : Asc lt xs) (h2 : Asc lt ys) : xs = ys := by
  refine List.Perm.eq_of_pairwise (le := fun x y => x = y ∨ lt x y) (fun a b ha hb h3 h4 => ?_) h1 h2 h
  rcases h3 with e | h3
  · exact e
  · rcases h4 with e | h4
    · exact e.symm
    · exact (hp.asymm ha (h.symm.subset hb) h3 h4).elim
theorem insF_asc {lt : α → α → Prop} {le : α → α → Bool} {x : α} {l : List α} (hp : Parts (x :: l) lt) (hle : ∀ y ∈ l, le x y = true ↔ ¬ lt y x) (h : Asc lt l) : Asc lt (insF le x l) := by
  induction l with
  | nil => exact List.pairwise_singleton _ _
  | cons y l ih =>
    unfold insF
    have h' := List.pairwise_cons.1 h
    have hx : x ∈ x :: y :: l := List.mem_cons_self ..
    have hy : y ∈ x :: y :: l := List.mem_cons_of_mem _ (List.mem_cons_self ..)
    by_cases hl : le x y = true
    · rw [if_pos hl]
      have hn := (hle y (List.mem_cons_self ..)).1 hl
      have hxy : x = y ∨ lt x y := by
        rcases Classical.em (x = y) with e | e
        · exact .inl e
        · exact .inr ((hp.tot x hx y hy e).resolve_right hn)
      refine List.pairwise_cons.2 ⟨fun z hz => ?_, h⟩
      cases hz with
      | head => exact hxy
      | tail _ hz =>
        have hz' : z ∈ x :: y :: l := List.mem_cons_of_mem _ (List.mem_cons_of_mem _ hz)
        rcases hxy with e | e
        · rw [e]; exact h'.1 z hz
        · rcases h'.1 z hz with e' | e'
          · rw [← e']; exact .inr e
          · exact .inr (hp.tr x hx y hy z hz' e e')
    · rw [if_neg hl]
      have hlt : lt y x := Classical.byContradiction fun hn => hl ((hle y (List.mem_cons_self ..)).2 hn)
      refine List.pairwise_cons.2 ⟨fun z hz => ?_, ih (hp.sub fun z hz => ?_) (fun z hz => hle z (List.mem_cons_of_mem _ hz)) h'.2⟩
      · rcases List.mem_cons.1 ((insF_perm le x l).mem_iff.1 hz) with e | hz
        · rw [e]; exact .inr hlt
        · exact h'.1 z hz
      · rcases List.mem_cons.1 hz with e | hz
        · rw [e]; exact hx
        · exact List.mem_cons_of_mem _ (List.mem_cons_of_mem _ hz)
theorem isortF_asc {lt : α → α → Prop} {le : α → α → Bool} : ∀ {l : List α}, Parts l lt → (∀ x ∈ l, ∀ y ∈ l, le x y = true ↔ ¬ lt y x) → Asc lt (isortF le l)
  | [], _, _ => List.Pairwise.nil
  | x :: l, hp, hle => by
    have hs : ∀ y ∈ x :: isortF le l, y ∈ x :: l := fun y hy => by
      rcases List.mem_cons.1 hy with e | hy
      · rw [e]; exact List.mem_cons_self ..
      · exact List.mem_cons_of_mem _ ((isortF_perm le l).mem_iff.1 hy)
    exact insF_asc (hp.sub hs) (fun y hy => hle x (List.mem_cons_self ..) y (List.mem_cons_of_mem _ ((isortF_perm le l).mem_iff.1 hy))) (isortF_asc (hp.sub fun y hy => List.mem_cons_of_mem _ hy) fun y hy z hz => hle y (List.mem_cons_of_mem _ hy) z (List.mem_cons_of_mem _ hz))
theorem insF_congr {le le' : α → α → Bool} {x : α} : ∀ {l : List α}, (∀ y ∈ l, le x y = le' x y) → insF le x l = insF le' x l
  | [], _ => rfl
  | y :: l, h => by
    unfold insF
    rw [h y (List.mem_cons_self ..), insF_congr fun z hz => h z (List.mem_cons_of_mem _ hz)]
theorem isortF_congr {le le' : α → α → Bool} : ∀ {l : List α}, (∀ x ∈ l, ∀ y ∈ l, le x y = le' x y) → isortF le l = isortF le' l
  | [], _ => rfl
  | x :: l, h => by
    unfold isortF
    rw [isortF_congr (l := l) fun y hy z hz => h y (List.mem_cons_of_mem _ hy) z (List.mem_cons_of_mem _ hz)]
    exact insF_congr fun y hy => h x (List.mem_cons_self ..) y (List.mem_cons_of_mem _ ((isortF_perm le' l).mem_iff.1 hy))
theorem okF_of [DecidableEq α] {cmp : α → α → Option Int} {c : α → α → Int} {lt : α → α → Prop} : ∀ {l : List α}, Parts l lt → (∀ x ∈ l, ∀ y ∈ l, cmp x y = some (c x y)) → (∀ x ∈ l, ∀ y ∈ l, c x y < 0 ↔ lt x y) → Asc lt l → okF cmp l = true
  | [], _, _, _, _ => rfl
  | x :: l, hp, hc, hl, ha => by
    have ha' := List.pairwise_cons.1 ha
    have hx : x ∈ x :: l := List.mem_cons_self ..
    simp only [okF, Bool.and_eq_true]
    refine ⟨⟨?_, List.all_eq_true.2 fun y hy => ?_⟩, okF_of (hp.sub fun y hy => List.mem_cons_of_mem _ hy) (fun y hy z hz => hc y (List.mem_cons_of_mem _ hy) z (List.mem_cons_of_mem _ hz)) (fun y hy z hz => hl y (List.mem_cons_of_mem _ hy) z (List.mem_cons_of_mem _ hz)) ha'.2⟩
    · rw [hc x hx x hx]
      have : ¬ c x x < 0 := fun h => hp.irr x hx ((hl x hx x hx).1 h)
      simp; omega
    · have hy' : y ∈ x :: l := List.mem_cons_of_mem _ hy
      unfold parts
      rw [hc x hx y hy', hc y hy' x hx]
      simp only [Bool.or_eq_true, beq_iff_eq, Bool.and_eq_true, decide_eq_true_eq]
      rcases ha'.1 y hy with e | e
      · exact .inl e
      · refine .inr ⟨(hl x hx y hy').2 e, ?_⟩
        have : ¬ c y x < 0 := fun h => hp.asymm hx hy' e ((hl y hy' x hx).1 h)
        omega
/-- slices.SortFunc, from some number of rounds on: the ascending list. -/
theorem sortF_ev [DecidableEq α] {cmp : Nat → α → α → Option Int} {c : α → α → Int} {lt : α → α → Prop} {xs : List α} (hp : Parts xs lt) (hc : ∀ x ∈ xs, ∀ y ∈ xs, Ev (fun k => cmp k x y) (c x y)) (hl : ∀ x ∈ xs, ∀ y ∈ xs, (c x y < 0 ↔ lt x y) ∧ (c x y ≤ 0 ↔ ¬ lt y x)) (hs : xs.length < 4611686018427387904) :
    ∃ ys, Ev (fun k => sortF (fun x y => cmp k x y) xs) ys ∧ ys.Perm xs ∧ Asc lt ys := by
  let le : α → α → Bool := fun x y => decide (c x y ≤ 0)
  have hle : ∀ x ∈ xs, ∀ y ∈ xs, le x y = true ↔ ¬ lt y x := fun x hx y hy => by simp only [le, decide_eq_true_eq]; exact (hl x hx y hy).2
  have hasc := isortF_asc hp hle
  refine ⟨isortF le xs, ?_, isortF_perm le xs, hasc⟩
  have h1 : ∀ x ∈ xs, ∃ K, ∀ k, K ≤ k → ∀ y ∈ xs, cmp k x y = some (c x y) := fun x hx => ev_all (f := fun y k => cmp k x y) fun y hy => hc x hx y hy
  have h2 : ∃ K, ∀ k, K ≤ k → ∀ x ∈ xs, ∀ y ∈ xs, cmp k x y = some (c x y) := by
    have : ∀ l : List α, (∀ x ∈ l, x ∈ xs) → ∃ K, ∀ k, K ≤ k → ∀ x ∈ l, ∀ y ∈ xs, cmp k x y = some (c x y) := by
      intro l
      induction l with
      | nil => exact fun _ => ⟨0, fun _ _ x hx => by cases hx⟩
      | cons x l ih =>
        intro hsub
        obtain ⟨K1, a1⟩ := ih fun y hy => hsub y (List.mem_cons_of_mem _ hy)
        obtain ⟨K2, a2⟩ := h1 x (hsub x (List.mem_cons_self ..))
        refine ⟨max K1 K2, fun k hk y hy => ?_⟩
        cases hy with
        | head => exact a2 k (by omega)
        | tail _ hy => exact a1 k (by omega) y hy
    exact this xs fun x hx => hx
  obtain ⟨K, hK⟩ := h2
  refine ⟨K, fun k hk => ?_⟩
  have e : isortF (cmpLe fun x y => cmp k x y) xs = isortF le xs := isortF_congr fun x hx y hy => by simp only [cmpLe, hK k hk x hx y hy, le]
  have hm : ∀ x ∈ isortF le xs, x ∈ xs := fun x hx => (isortF_perm le xs).mem_iff.1 hx
  show sortF (fun x y => cmp k x y) xs = _
  unfold sortF
  rw [e, if_pos]
  rw [Bool.and_eq_true, decide_eq_true_eq]
  exact ⟨okF_of (hp.sub hm) (fun x hx y hy => hK k hk x (hm x hx) y (hm y hy)) (fun x hx y hy => (hl x (hm x hx) y (hm y hy)).1) hasc, hs⟩
/-- One more into an ascending row, behind all that are ahead of it. -/
def insR (lt : α → α → Bool) (out : List α) (p : α) : List α := out.takeWhile (fun x => lt x p) ++ p :: out.dropWhile (fun x => lt x p)
theorem insR_perm (lt : α → α → Bool) (out : List α) (p : α) : (insR lt out p).Perm (p :: out) := by
  unfold insR
  refine List.perm_middle.trans (List.Perm.cons p ?_)
  rw [List.takeWhile_append_dropWhile]
theorem insR_asc {lt : α → α → Bool} {out : List α} {p : α} (hp : Parts (p :: out) fun x y => lt x y = true) (h : Asc (fun x y => lt x y = true) out) : Asc (fun x y => lt x y = true) (insR lt out p) := by
  induction out with
  | nil => exact List.pairwise_singleton _ _
  | cons y out ih =>
    have h' := List.pairwise_cons.1 h
    have hpm : p ∈ p :: y :: out := List.mem_cons_self ..
    have hym : y ∈ p :: y :: out := List.mem_cons_of_mem _ (List.mem_cons_self ..)
    by_cases hy : lt y p = true
    · have e : insR lt (y :: out) p = y :: insR lt out p := by simp [insR, hy]
      rw [e]
      refine List.pairwise_cons.2 ⟨fun z hz => ?_, ih (hp.sub fun z hz => ?_) h'.2⟩
      · rcases List.mem_cons.1 ((insR_perm lt out p).mem_iff.1 hz) with e | hz
        · rw [e]; exact .inr hy
        · exact h'.1 z hz
      · rcases List.mem_cons.1 hz with e | hz
        · rw [e]; exact hpm
        · exact List.mem_cons_of_mem _ (List.mem_cons_of_mem _ hz)
    · have e : insR lt (y :: out) p = p :: y :: out := by simp [insR, hy]
      rw [e]
      have hpy : p = y ∨ lt p y = true := by
        rcases Classical.em (p = y) with e | e
        · exact .inl e
        · exact .inr ((hp.tot p hpm y hym e).resolve_right hy)
      refine List.pairwise_cons.2 ⟨fun z hz => ?_, h⟩
      rcases List.mem_cons.1 hz with e | hz
      · rw [e]; exact hpy
      · have hz' : z ∈ p :: y :: out := List.mem_cons_of_mem _ (List.mem_cons_of_mem _ hz)
        rcases hpy with e | e
        · rw [e]; exact h'.1 z hz
        · rcases h'.1 z hz with e' | e'
          · rw [← e']; exact .inr e
          · exact .inr (hp.tr p hpm y hym z hz' e e')
theorem insR_fold {lt : α → α → Bool} : ∀ (xs out : List α), Parts (xs ++ out) (fun x y => lt x y = true) → Asc (fun x y => lt x y = true) out → (xs.foldl (insR lt) out).Perm (xs ++ out) ∧ Asc (fun x y => lt x y = true) (xs.foldl (insR lt) out)
  | [], out, _, h => ⟨List.Perm.refl _, h⟩
  | x :: xs, out, hp, h => by
    have hs : ∀ y ∈ x :: out, y ∈ x :: xs ++ out := fun y hy => by
      rcases List.mem_cons.1 hy with e | hy
      · rw [e]; simp
      · simp [hy]
    have pm : (xs ++ insR lt out x).Perm (x :: xs ++ out) := ((insR_perm lt out x).append_left xs).trans List.perm_middle
    obtain ⟨h1, h2⟩ := insR_fold xs (insR lt out x) (hp.sub fun y hy => pm.mem_iff.1 hy) (insR_asc (hp.sub hs) h)
    exact ⟨h1.trans pm, h2⟩
end
/-- The order of a dictionary. -/
def lexlt : List Int → List Int → Bool
  | [], [] => false
  | [], _ :: _ => true
  | _ :: _, [] => false
  | x :: xs, y :: ys => if x = y then lexlt xs ys else decide (x < y)
theorem lexlt_irr : ∀ l : List Int, lexlt l l = false
  | [] => rfl
  | x :: l => by simp [lexlt, lexlt_irr l]
theorem lexlt_tr : ∀ {a b c : List Int}, lexlt a b = true → lexlt b c = true → lexlt a c = true
  | [], [], _, h, _ => by cases h
  | [], _ :: _, [], _, h => by cases h
  | [], _ :: _, _ :: _, _, _ => rfl
  | _ :: _, [], _, h, _ => by cases h
  | x :: a, y :: b, [], _, h => by cases h
  | x :: a, y :: b, z :: c, h1, h2 => by
    simp only [lexlt] at h1 h2 ⊢
    by_cases e1 : x = y
    · by_cases e2 : y = z
      · subst e1; subst e2
        rw [if_pos rfl] at h1 h2 ⊢
        exact lexlt_tr h1 h2
      · subst e1
        rw [if_neg e2] at h2 ⊢; exact h2
    · rw [if_neg e1, decide_eq_true_eq] at h1
      by_cases e2 : y = z
      · subst e2
        rw [if_neg e1]; simpa using h1
      · rw [if_neg e2, decide_eq_true_eq] at h2
        rw [if_neg (by omega)]
        simp; omega
theorem lexlt_tot : ∀ {a b : List Int}, a ≠ b → lexlt a b = true ∨ lexlt b a = true
  | [], [], h => absurd rfl h
  | [], _ :: _, _ => .inl rfl
  | _ :: _, [], _ => .inr rfl
  | x :: a, y :: b, h => by
    simp only [lexlt]
    by_cases e : x = y
    · subst e
      simp only [if_true]
      exact lexlt_tot fun e => h (by rw [e])
    · rw [if_neg e, if_neg fun e' => e e'.symm]
      simp; omega
end Go.Proofs.Ytbielnhpfbhkgaa
