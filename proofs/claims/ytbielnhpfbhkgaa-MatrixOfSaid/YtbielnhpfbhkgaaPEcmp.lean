/- Plain facts on 'ecmp.All': of each node the first hops of all least ways, and how many ways there are. -/
import Derived.Test.YtbielnhpfbhkgaaPDijk
import Derived.Test.YtbielnhpfbhkgaaPSort
import Derived.Test.YtbielnhpfbhkgaaE0
set_option linter.unusedVariables false
set_option linter.unusedSimpArgs false
namespace Go.Proofs.Ytbielnhpfbhkgaa
open Go Go.RowKit

/-! A bound on how many ways there are, by the arcs. -/
def pad3 : Nat → Nat × Nat × Nat
  | 0 => (1, 1, 1)
  | n + 1 => ((pad3 n).2.1, (pad3 n).2.2, (pad3 n).1 + (pad3 n).2.1)
def pad (n : Nat) : Nat := (pad3 n).1
theorem pad_rec (n : Nat) : pad (n + 3) = pad (n + 1) + pad n := by simp only [pad, pad3]; omega
theorem pad_mono1 : ∀ n, pad n ≤ pad (n + 1)
  | 0 => by decide
  | 1 => by decide
  | 2 => by decide
  | n + 3 => by
    rw [pad_rec, show n + 3 + 1 = (n + 1) + 3 from rfl, pad_rec]
    have := pad_mono1 (n + 1)
    have := pad_mono1 n
    omega
theorem pad_mono {m n : Nat} (h : m ≤ n) : pad m ≤ pad n := by
  induction h with
  | refl => exact Nat.le_refl _
  | step h ih => exact Nat.le_trans ih (pad_mono1 _)
def padQ : Nat → Nat → Nat
  | _, 0 => 0
  | 0, _ + 1 => 1
  | A + 1, j + 1 => pad (A + 1) + padQ A j
theorem padQ_mono : ∀ (A j : Nat), padQ A j ≤ padQ (A + 1) j
  | 0, 0 => Nat.le_refl _
  | _ + 1, 0 => Nat.le_refl _
  | 0, j + 1 => by
    simp only [padQ]
    exact Nat.le_trans (by decide : 1 ≤ pad (0 + 1)) (Nat.le_add_right _ _)
  | A + 1, j + 1 => by
    simp only [padQ]
    have := padQ_mono A j
    have := pad_mono1 (A + 1)
    omega
theorem padQ_le : ∀ (A j : Nat), padQ A (j + 1) ≤ pad (A + (j + 1))
  | 0, j => by
    simp only [padQ]
    exact Nat.le_trans (by decide : 1 ≤ pad 0) (pad_mono (Nat.zero_le _))
  | A + 1, 0 => by
    simp only [padQ, Nat.add_zero]
    exact pad_mono1 _
  | A + 1, 1 => by
    have e : padQ (A + 1) 2 = pad (A + 1) + padQ A 1 := rfl
    have e1 : padQ A 1 ≤ pad A := by cases A <;> simp [padQ]; decide
    rw [e, show A + 1 + (1 + 1) = A + 3 from rfl, pad_rec]
    omega
  | A + 1, j + 2 => by
    have e : padQ (A + 1) (j + 2 + 1) = pad (A + 1) + padQ A (j + 1 + 1) := rfl
    have ih := padQ_le A (j + 1)
    rw [e, show A + 1 + (j + 2 + 1) = (A + (j + 1)) + 3 by omega, pad_rec]
    have := pad_mono (show A + 1 ≤ A + (j + 1) by omega)
    have e2 : A + (j + 1 + 1) = A + (j + 1) + 1 := by omega
    rw [e2] at ih
    omega
theorem pad_sum : ∀ (A : Nat) (xs : List Nat), xs.Nodup → (∀ x ∈ xs, x ≤ A) → (xs.map pad).sum ≤ padQ A xs.length
  | 0, xs, hn, hl => by
    cases xs with
    | nil => exact Nat.le_refl _
    | cons x xs =>
      have hx : x = 0 := by have := hl x (List.mem_cons_self ..); omega
      cases xs with
      | nil => subst hx; simp [padQ]; decide
      | cons y ys =>
        have hy : y = 0 := by have := hl y (List.mem_cons_of_mem _ (List.mem_cons_self ..)); omega
        have := (List.nodup_cons.1 hn).1
        rw [hx, hy] at this; simp at this
  | A + 1, xs, hn, hl => by
    by_cases h : A + 1 ∈ xs
    · have hp := List.perm_cons_erase h
      have h1 := (hp.map pad).sum_nat
      have h2 := hp.length_eq
      have hn' := List.nodup_cons.1 (hp.nodup_iff.1 hn)
      have ih := pad_sum A (xs.erase (A + 1)) hn'.2 fun x hx => by
        have := hl x (List.mem_of_mem_erase hx)
        have : x ≠ A + 1 := fun e => hn'.1 (e ▸ hx)
        omega
      rw [h1, h2]
      simp only [List.map_cons, List.sum_cons, List.length_cons, padQ]
      omega
    · have ih := pad_sum A xs hn fun x hx => by
        have := hl x hx
        have : x ≠ A + 1 := fun e => h (by rw [← e]; exact hx)
        omega
      exact Nat.le_trans ih (padQ_mono A _)
theorem pad_100 : pad 100 ≤ 17592186044416 := by decide

/-! What is summed up. -/
def onB (at_ : List (Int × Int)) (r : Int) (a : S_api_Arc) : Bool := (mget at_ a.From).isSome && ((mget at_ a.To).isSome && (!decide (a.To = r) && decide (addS ((mget at_ a.From).getD 0) a.Cost = (mget at_ a.To).getD 0)))
/-- The costs, and the root. -/
structure AtOk (l : List S_api_Arc) (r : Int) (rs : List S_api_Route) (at_ : List (Int × Int)) : Prop where mk ::
  root : mget at_ r = some 0
  get : ∀ x ∈ rs, mget at_ x.To = some x.Cost
  inv : ∀ v c, mget at_ v = some c → (v = r ∧ c = 0) ∨ ∃ x ∈ rs, x.To = v ∧ x.Cost = c
theorem at_ev (l : List S_api_Arc) (r : Int) (rs : List S_api_Route) (hr : Routes l r rs) (hz : Sz rs) : ∃ at_, Ev (fun k => m55_l0 rs k (mput [] r 0) 0) at_ ∧ AtOk l r rs at_ := by
  let step : List (Int × Int) → S_api_Route → List (Int × Int) := fun s x => mput s x.To x.Cost
  have hne : ∀ x ∈ rs, x.To ≠ r := fun x hx => (hr.way x hx).2
  have key : ∀ (xs : List S_api_Route) (s : List (Int × Int)) (v : Int), (xs.map (·.To)).Pairwise (· < ·) → mget (xs.foldl step s) v = (match xs.find? (fun x => decide (x.To = v)) with | some x => some x.Cost | none => mget s v) := by
    intro xs
    induction xs with
    | nil => exact fun s v _ => rfl
    | cons x xs ih =>
      intro s v hp
      rw [List.map_cons] at hp
      have hp' := List.pairwise_cons.1 hp
      rw [List.foldl_cons, ih _ v hp'.2, List.find?_cons]
      by_cases h : x.To = v
      · have hnone : xs.find? (fun x => decide (x.To = v)) = none := List.find?_eq_none.2 fun y hy e => by
          have e : y.To = v := by simpa using e
          have := hp'.1 y.To (List.mem_map.2 ⟨y, hy, rfl⟩); omega
        rw [hnone]
        simp only [step, h, decide_true]
        rw [mget_put, if_pos rfl]
      · have : decide (x.To = v) = false := by simpa using h
        rw [this]
        cases xs.find? (fun x => decide (x.To = v)) with
        | some y => rfl
        | none => simp only [step]; rw [mget_put, if_neg fun e => h e.symm]
  have hget : ∀ x ∈ rs, rs.find? (fun y => decide (y.To = x.To)) = some x := fun x hx => by
    have : ∀ xs : List S_api_Route, (xs.map (·.To)).Pairwise (· < ·) → x ∈ xs → xs.find? (fun y => decide (y.To = x.To)) = some x := by
      intro xs
      induction xs with
      | nil => exact fun _ h => by cases h
      | cons y xs ih =>
        intro hp hx
        rw [List.map_cons] at hp
        have hp' := List.pairwise_cons.1 hp
        rw [List.find?_cons]
        rcases List.mem_cons.1 hx with e | hx
        · rw [e]; simp
        · have h1 := hp'.1 x.To (List.mem_map.2 ⟨x, hx, rfl⟩)
          have : decide (y.To = x.To) = false := by simp; omega
          rw [this]; exact ih hp'.2 hx
    exact this rs hr.asc hx
  refine ⟨rs.foldl step (mput [] r 0), ?_, ⟨?_, fun x hx => ?_, fun v c h => ?_⟩⟩
  · refine ev_list0 hz (L := fun k (s : List (Int × Int)) i => m55_l0 rs k s i) step (fun s => s) (fun _ _ => True) (fun i hi s _ => ⟨trivial, fun o h => ?_⟩) (fun s _ => ?_) _ trivial
    · refine Ev.succ ?_
      simp only [m55_l0]
      refine Ev.pos (by omega) (Ev.bnd (rdx_lt hi) (Ev.bnd rfl ?_))
      rw [wrap_nat1 hz hi]; exact h
    · refine Ev.succ ?_
      simp only [m55_l0]
      exact Ev.neg (by omega) (Ev.pure _)
  · rw [key rs _ r hr.asc]
    have : rs.find? (fun x => decide (x.To = r)) = none := List.find?_eq_none.2 fun x hx e => hne x hx (by simpa using e)
    rw [this]; simp [mget, mput]
  · rw [key rs _ _ hr.asc, hget x hx]
  · rw [key rs _ v hr.asc] at h
    cases hf : rs.find? (fun x => decide (x.To = v)) with
    | some x =>
      rw [hf] at h
      cases h
      exact .inr ⟨x, List.mem_of_find?_eq_some hf, by simpa using List.find?_some hf, rfl⟩
    | none =>
      rw [hf] at h
      simp only [mput, mget] at h
      split at h
      · rename_i e; cases h; exact .inl ⟨e.symm, rfl⟩
      · cases h
section
variable {l : List S_api_Arc} {r : Int} {rs : List S_api_Route} {at_ : List (Int × Int)} {vias : List (Int × List Int)} {many : List (Int × Int)}
theorem AtOk.u (hm : May l) (hr : Routes l r rs) (h : AtOk l r rs at_) (v : Int) : 0 ≤ (mget at_ v).getD 0 ∧ (mget at_ v).getD 0 ≤ 69793218560 := by
  cases e : mget at_ v with
  | none => simp
  | some c =>
    simp only [Option.getD_some]
    rcases h.inv v c e with ⟨_, e'⟩ | ⟨x, hx, _, e'⟩
    · omega
    · have := hr.bnd x hx
      have := (hr.way x hx).1.pos hm
      omega
theorem on_eq (hm : May l) (hr : Routes l r rs) (h : AtOk l r rs at_) {a : S_api_Arc} (ha : a ∈ l) : m117 r at_ vias many a = some (onB at_ r a) := by
  have hok := hm.1 a ha
  unfold OkA at hok
  have hu := h.u hm hr a.From
  simp only [m117, onB]
  cases h1 : (mget at_ a.From).isSome with
  | false => simp
  | true =>
    cases h2 : (mget at_ a.To).isSome with
    | false => simp
    | true =>
      by_cases h3 : a.To = r
      · simp [h3]
      · simp only [Option.bind_some, if_pos, if_neg h3]
        rw [wrapu_id (by omega) (by omega), add_eq ⟨hu.1, by omega⟩ ⟨by omega, by omega⟩]
        simp [h3]
/-- An arc of a least way: from the root, or from a node that costs less. -/
theorem on_iff (hm : May l) (hr : Routes l r rs) (h : AtOk l r rs at_) {a : S_api_Arc} (ha : a ∈ l) {x : S_api_Route} (hx : x ∈ rs) (ht : a.To = x.To) : onB at_ r a = true ↔ (a.From = r ∧ a.Cost = x.Cost) ∨ ∃ y ∈ rs, y.To = a.From ∧ y.Cost + a.Cost = x.Cost := by
  have hok := hm.1 a ha
  unfold OkA at hok
  have hxr := (hr.way x hx).2
  have hto : mget at_ a.To = some x.Cost := by rw [ht]; exact h.get x hx
  simp only [onB, Bool.and_eq_true, Bool.not_eq_true', decide_eq_false_iff_not, decide_eq_true_eq, hto, Option.getD_some, Option.isSome_some, true_and]
  constructor
  · rintro ⟨h1, h2, h3⟩
    obtain ⟨c, hc⟩ := Option.isSome_iff_exists.1 h1
    rw [hc, Option.getD_some] at h3
    rcases h.inv _ _ hc with ⟨e1, e2⟩ | ⟨y, hy, e1, e2⟩
    · left
      refine ⟨e1, ?_⟩
      rw [e2] at h3
      unfold addS at h3
      rw [if_pos (by omega)] at h3; omega
    · right
      refine ⟨y, hy, e1, ?_⟩
      have := hr.bnd y hy
      unfold addS at h3
      rw [if_pos (by omega)] at h3; omega
  · rintro (⟨e1, e2⟩ | ⟨y, hy, e1, e2⟩)
    · rw [e1, h.root]
      refine ⟨rfl, by rw [ht]; exact hxr, ?_⟩
      simp only [Option.getD_some, addS]
      rw [if_pos (by omega)]; omega
    · have hb := hr.bnd y hy
      have : mget at_ a.From = some y.Cost := by rw [← e1]; exact h.get y hy
      rw [this]
      refine ⟨rfl, by rw [ht]; exact hxr, ?_⟩
      simp only [Option.getD_some, addS]
      rw [if_pos (by omega)]; omega
end
/-- What an arc brings: first hops, and ways. -/
def bringV (r : Int) (vias : List (Int × List Int)) (a : S_api_Arc) : List Int := if a.From = r then [a.To] else (mget vias a.From).getD []
def bringM (r : Int) (many : List (Int × Int)) (a : S_api_Arc) : Int := if a.From = r then 1 else (mget many a.From).getD 0
def inA (l : List S_api_Arc) (at_ : List (Int × Int)) (r v : Int) : List S_api_Arc := l.filter fun a => decide (a.To = v) && onB at_ r a
/-- 'join', over the arcs that lead to one node. -/
theorem join_loop {l : List S_api_Arc} {r : Int} {rs : List S_api_Route} {at_ : List (Int × Int)} (hm : May l) (hr : Routes l r rs) (hat : AtOk l r rs at_) (hsz : Sz l) (x : S_api_Route) (hxr : x.To ≠ r) (vias0 : List (Int × List Int)) (many0 : List (Int × Int)) (hmu : ∀ v, U64 ((mget many0 v).getD 0))
    (hv0 : (mget vias0 x.To).getD [] = []) (hm0 : (mget many0 x.To).getD 0 = 0) (hb : ((inA l at_ r x.To).flatMap (bringV r vias0)).length ≤ 17592186044416) : ∃ vias many, Ev (fun k => m55_l2 l r at_ x k vias0 many0 0) (vias, many) ∧ (∀ v, v ≠ x.To → mget vias v = mget vias0 v ∧ mget many v = mget many0 v) ∧
    (mget vias x.To).getD [] = (inA l at_ r x.To).flatMap (bringV r vias0) ∧ (mget many x.To).getD 0 = (inA l at_ r x.To).foldl (fun s a => addS s (bringM r many0 a)) 0 := by
  let p : S_api_Arc → Bool := fun a => decide (a.To = x.To) && onB at_ r a
  let VV : Nat → List Int := fun j => ((l.take j).filter p).flatMap (bringV r vias0)
  let MM : Nat → Int := fun j => ((l.take j).filter p).foldl (fun s a => addS s (bringM r many0 a)) 0
  have hbu : ∀ a, U64 (bringM r many0 a) := fun a => by
    unfold bringM
    split
    · exact ⟨by omega, by omega⟩
    · exact hmu _
  have hMu : ∀ j, U64 (MM j) := fun j => by
    have : ∀ (xs : List S_api_Arc) (s : Int), U64 s → U64 (xs.foldl (fun s a => addS s (bringM r many0 a)) s) := fun xs => by
      induction xs with
      | nil => exact fun s h => h
      | cons a xs ih => exact fun s h => ih _ (addS_u h (hbu a))
    exact this _ 0 ⟨by omega, by omega⟩
  have hVle : ∀ j, (VV j).length ≤ 17592186044416 := fun j => by
    refine Nat.le_trans ?_ hb
    have : (inA l at_ r x.To).flatMap (bringV r vias0) = VV j ++ ((l.drop j).filter p).flatMap (bringV r vias0) := by
      simp only [VV, inA]
      rw [← List.flatMap_append, ← List.filter_append, List.take_append_drop]
    rw [this, List.length_append]; omega
  have loop : ∀ (n i : Nat) (vias : List (Int × List Int)) (many : List (Int × Int)), i + n = l.length → (∀ v, v ≠ x.To → mget vias v = mget vias0 v ∧ mget many v = mget many0 v) → (mget vias x.To).getD [] = VV i → (mget many x.To).getD 0 = MM i →
      ∃ vias' many', Ev (fun k => m55_l2 l r at_ x k vias many i) (vias', many') ∧ (∀ v, v ≠ x.To → mget vias' v = mget vias0 v ∧ mget many' v = mget many0 v) ∧ (mget vias' x.To).getD [] = VV l.length ∧ (mget many' x.To).getD 0 = MM l.length := by
    intro n
    induction n with
    | zero =>
      intro i vias many hi h1 h2 h3
      obtain rfl : i = l.length := by omega
      refine ⟨vias, many, Ev.succ (Ev.all fun k => ?_), h1, h2, h3⟩
      simp only [m55_l2]; rw [if_neg (by omega)]
    | succ n ih =>
      intro i vias many hi h1 h2 h3
      have hlt : i < l.length := by omega
      have ha : l[i] ∈ l := List.getElem_mem hlt
      have hok := hm.1 _ ha
      unfold OkA at hok
      have ht : l.take (i + 1) = l.take i ++ [l[i]] := List.take_succ_eq_append_getElem hlt
      have fin : ∀ {vias1 : List (Int × List Int)} {many1 : List (Int × Int)}, (∀ v, v ≠ x.To → mget vias1 v = mget vias0 v ∧ mget many1 v = mget many0 v) → (mget vias1 x.To).getD [] = VV (i + 1) → (mget many1 x.To).getD 0 = MM (i + 1) →
          Ev (fun k => Option.bind (α := List (Int × List Int) × List (Int × Int)) (if p l[i] = true then (Option.bind (m118 r at_ vias many l[i]) fun x3023 => some (x3023.1, x3023.2)) else (some (vias, many))) fun s3018 => some s3018) (vias1, many1) →
          ∃ vias' many', Ev (fun k => m55_l2 l r at_ x k vias many i) (vias', many') ∧ (∀ v, v ≠ x.To → mget vias' v = mget vias0 v ∧ mget many' v = mget many0 v) ∧ (mget vias' x.To).getD [] = VV l.length ∧ (mget many' x.To).getD 0 = MM l.length := by
        intro vias1 many1 g1 g2 g3 ge
        obtain ⟨vias', many', e1, e2⟩ := ih (i + 1) vias1 many1 (by omega) g1 g2 g3
        refine ⟨vias', many', Ev.succ ?_, e2⟩
        simp only [m55_l2]
        have ge' : (if p l[i] = true then (Option.bind (m118 r at_ vias many l[i]) fun x3023 => some (x3023.1, x3023.2)) else (some (vias, many))) = some (vias1, many1) := by
          obtain ⟨k, hk⟩ := ge.get
          simpa using hk
        refine Ev.pos (by omega) (Ev.bnd (rdx_lt hlt) (Ev.bind (v := p l[i]) (Ev.of ?_) (Ev.bnd (v := (vias1, many1)) ?_ ?_)))
        · by_cases h : l[i].To = x.To
          · rw [if_pos h, on_eq hm hr hat ha]; simp [p, h]
          · rw [if_neg h]; simp [p, h]
        · exact ge'
        · rw [wrap_nat1 hsz hlt]; exact e1
      by_cases hp : p l[i] = true
      · have hpt : l[i].To = x.To := by simp only [p, Bool.and_eq_true, decide_eq_true_eq] at hp; exact hp.1
        have hV : VV (i + 1) = VV i ++ bringV r vias0 l[i] := by
          simp only [VV]
          rw [ht, List.filter_append, List.filter_cons_of_pos hp, List.flatMap_append]; simp
        have hM : MM (i + 1) = addS (MM i) (bringM r many0 l[i]) := by
          simp only [MM]
          rw [ht, List.filter_append, List.filter_cons_of_pos hp, List.foldl_append]; rfl
        have hle := hVle (i + 1)
        rw [hV, List.length_append] at hle
        have hfr : l[i].From ≠ x.To := by omega
        have hVf : mget vias l[i].From = mget vias0 l[i].From := (h1 _ hfr).1
        have hMf : mget many l[i].From = mget many0 l[i].From := (h1 _ hfr).2
        refine fin (vias1 := mput vias x.To (VV (i + 1))) (many1 := mput many x.To (MM (i + 1))) (fun v hv => ?_) (by rw [mget_put, if_pos rfl]; rfl) (by rw [mget_put, if_pos rfl]; rfl) (Ev.bnd (v := (mput vias x.To (VV (i + 1)), mput many x.To (MM (i + 1)))) ?_ (Ev.pure _))
        · rw [mget_put, mget_put, if_neg hv, if_neg hv]; exact h1 v hv
        · rw [if_pos hp]
          simp only [m118]
          by_cases hroot : l[i].From = r
          · have e1 : bringV r vias0 l[i] = [l[i].To] := if_pos hroot
            have e2 : bringM r many0 l[i] = 1 := if_pos hroot
            rw [e1] at hle
            simp only [List.length_cons, List.length_nil] at hle
            rw [if_pos hroot, mgetO_ok (by simp), hpt, h2, Option.bind_some, appd_ok (by simp; omega), Option.bind_some, Option.bind_some, Option.bind_some, h3, add_eq (hMu i) ⟨by omega, by omega⟩]
            simp only [Option.bind_some]
            rw [hV, hM, e1, e2, hpt]
          · have e1 : bringV r vias0 l[i] = (mget vias0 l[i].From).getD [] := if_neg hroot
            have e2 : bringM r many0 l[i] = (mget many0 l[i].From).getD 0 := if_neg hroot
            rw [e1] at hle
            rw [if_neg hroot, mgetO_ok (by simp), hpt, h2, Option.bind_some, mgetO_ok (by simp), hVf, Option.bind_some, appd_ok (by omega), Option.bind_some, Option.bind_some, Option.bind_some, h3, Option.bind_some, hMf, add_eq (hMu i) (hmu _)]
            simp only [Option.bind_some]
            rw [hV, hM, e1, e2]
      · have hV : VV (i + 1) = VV i := by
          simp only [VV]
          rw [ht, List.filter_append, List.filter_cons_of_neg hp]; simp
        have hM : MM (i + 1) = MM i := by
          simp only [MM]
          rw [ht, List.filter_append, List.filter_cons_of_neg hp]; simp
        refine fin (vias1 := vias) (many1 := many) h1 (by rw [hV]; exact h2) (by rw [hM]; exact h3) (Ev.bnd (v := (vias, many)) ?_ (Ev.pure _))
        rw [if_neg hp]
  obtain ⟨vias, many, e1, e2, e3, e4⟩ := loop l.length 0 vias0 many0 (by omega) (fun v _ => ⟨rfl, rfl⟩) (by simp [VV, hv0]) (by simp [MM, hm0])
  refine ⟨vias, many, e1, e2, ?_, ?_⟩
  · rw [e3]; simp only [VV, inA, List.take_length]; rfl
  · rw [e4]; simp only [MM, inA, List.take_length]; rfl
end Go.Proofs.Ytbielnhpfbhkgaa
