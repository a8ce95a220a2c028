/- The plain law of FlowCuts: what is pushed through is no more than what any cut holds. -/
import Derived.Test.YtbielnhpfbhkgaaArgsFlowCuts
import Derived.Test.YtbielnhpfbhkgaaPBase
import Derived.KernelRfl
set_option linter.unusedVariables false
set_option linter.unusedSimpArgs false
namespace Go.Proofs.Ytbielnhpfbhkgaa
open Go Go.RowKit

def fr (a : S_api_Arc) (st : S_flow_step) : Int := if st.back = true then a.To else a.From
def tt (a : S_api_Arc) (st : S_flow_step) : Int := if st.back = true then a.From else a.To
def lf (a : S_api_Arc) (x : Int) (st : S_flow_step) : Int := if st.back = true then x else a.Cost - x
/-- Each is given no less than nought and no more than its arc holds. -/
def Fit (l : List S_api_Arc) (g : List Int) : Prop := g.length = l.length ∧ ∀ (i : Nat) (a : S_api_Arc) (x : Int), l[i]? = some a → g[i]? = some x → 0 ≤ x ∧ x ≤ a.Cost
/-- A step by an arc that is there. -/
structure VS (l : List S_api_Arc) (g : List Int) (st : S_flow_step) (a : S_api_Arc) (x : Int) : Prop where mk ::
  nn : 0 ≤ st.arc
  arc : l[st.arc.toNat]? = some a
  given : g[st.arc.toNat]? = some x
theorem rdx_get {α : Type} {xs : List α} {i : Int} {x : α} (h0 : 0 ≤ i) (h : xs[i.toNat]? = some x) : rdx xs i = some x := by simp [rdx, h0, h]
section
variable {l : List S_api_Arc} {g : List Int} {st : S_flow_step} {a : S_api_Arc} {x : Int}
theorem ends_eq (h : VS l g st a x) : m182 l g st = some (fr a st, tt a st) := by
  simp only [m182, rdx_get h.nn h.arc, Option.bind_some, fr, tt]
  by_cases hb : st.back = true <;> simp [hb]
theorem left_eq (hc : ∀ a ∈ l, 0 ≤ a.Cost ∧ a.Cost ≤ 1073741824) (hf : Fit l g) (h : VS l g st a x) : m183 l g st = some (lf a x st) := by
  have h1 := hf.2 _ _ _ h.arc h.given
  have h2 := hc a (List.mem_of_getElem? h.arc)
  simp only [m183, rdx_get h.nn h.arc, rdx_get h.nn h.given, Option.bind_some, lf]
  rw [wrap_id (by omega) (by omega)]
  by_cases hb : st.back = true <;> simp [hb]
end
/-- What 'reach' has found: each node but the first by a step from one that was there before. -/
inductive Tree (l : List S_api_Arc) (g : List Int) (s : Int) : List (Int × S_flow_step) → Prop where
  | base : Tree l g s [(s, ⟨-1, false⟩)]
  | snoc {m : List (Int × S_flow_step)} {st : S_flow_step} {a : S_api_Arc} {x : Int} (h : Tree l g s m) (v : VS l g st a x) (hl : 0 < lf a x st) (hf : fr a st ∈ mkeys m) (ht : tt a st ∉ mkeys m) : Tree l g s (m ++ [(tt a st, st)])
theorem mkeys_append {α : Type} (m : List (Int × α)) (k : Int) (x : α) : mkeys (m ++ [(k, x)]) = mkeys m ++ [k] := by simp [mkeys]
theorem mget_left {α : Type} {m r : List (Int × α)} {v : Int} (h : v ∈ mkeys m) : mget (m ++ r) v = mget m v := by
  induction m with
  | nil => cases h
  | cons p m ih =>
    obtain ⟨j, y⟩ := p
    simp only [List.cons_append, mget]
    by_cases hj : j = v
    · rw [if_pos hj, if_pos hj]
    · rw [if_neg hj, if_neg hj]
      refine ih ?_
      cases h with
      | head => exact absurd rfl hj
      | tail _ h => exact h
theorem mget_right {α : Type} {m : List (Int × α)} {v : Int} {x : α} (h : v ∉ mkeys m) : mget (m ++ [(v, x)]) v = some x := by
  induction m with
  | nil => simp [mget]
  | cons p m ih =>
    obtain ⟨j, y⟩ := p
    have hj : j ≠ v := fun e => h (by subst e; exact List.mem_cons_self ..)
    simp only [List.cons_append, mget, if_neg hj]
    exact ih fun h' => h (List.mem_cons_of_mem _ h')
section
variable {l : List S_api_Arc} {g : List Int} {s : Int} {m : List (Int × S_flow_step)}
theorem Tree.nodup (h : Tree l g s m) : (mkeys m).Nodup := by
  induction h with
  | base => simp [mkeys]
  | snoc h v hl hf ht ih => rw [mkeys_append]; exact List.nodup_append.2 ⟨ih, by simp, fun a ha b hb => by simp at hb; subst hb; exact fun e => ht (by rw [← e]; exact ha)⟩
theorem Tree.first (h : Tree l g s m) : s ∈ mkeys m := by
  induction h with
  | base => simp [mkeys]
  | snoc h v hl hf ht ih => rw [mkeys_append]; simp [ih]
theorem Tree.sub (h : Tree l g s m) : ∀ v ∈ mkeys m, v ∈ s :: (l.map (·.From) ++ l.map (·.To)) := by
  induction h with
  | base => simp [mkeys]
  | @snoc m st a x h v hl hf ht ih =>
    rw [mkeys_append]
    intro u hu
    rcases List.mem_append.1 hu with hu | hu
    · exact ih u hu
    · simp at hu; subst hu
      have ha := List.mem_of_getElem? v.arc
      refine List.mem_cons_of_mem _ (List.mem_append.2 ?_)
      unfold tt
      split
      · exact .inl (List.mem_map.2 ⟨a, ha, rfl⟩)
      · exact .inr (List.mem_map.2 ⟨a, ha, rfl⟩)
theorem Tree.len (h : Tree l g s m) : m.length ≤ 2 * l.length + 1 := by
  have := nodup_le h.nodup h.sub
  simp [mkeys] at this; omega
/-- The way back from a node. -/
def Way (l : List S_api_Arc) (g : List Int) (K : List Int) (s : Int) : Int → List S_flow_step → Prop
  | v, [] => v = s
  | v, st :: w => ∃ a x, VS l g st a x ∧ 0 < lf a x st ∧ tt a st = v ∧ fr a st ∈ K ∧ tt a st ∈ K ∧ (∀ st' ∈ w, st'.arc ≠ st.arc) ∧ Way l g K s (fr a st) w
theorem Way.mono {K K' : List Int} (hK : ∀ v ∈ K, v ∈ K') : ∀ {w : List S_flow_step} {v : Int}, Way l g K s v w → Way l g K' s v w
  | [], _, h => h
  | _ :: _, _, ⟨a, x, h1, h2, h3, h4, h5, h6, h7⟩ => ⟨a, x, h1, h2, h3, hK _ h4, hK _ h5, h6, h7.mono hK⟩
theorem Way.ends {K : List Int} : ∀ {w : List S_flow_step} {v : Int}, Way l g K s v w → ∀ st ∈ w, ∃ a x, VS l g st a x ∧ fr a st ∈ K ∧ tt a st ∈ K
  | _ :: _, _, ⟨a, x, h1, h2, h3, h4, h5, h6, h7⟩, st, hs => by
    cases hs with
    | head => exact ⟨a, x, h1, h4, h5⟩
    | tail _ hs => exact h7.ends st hs
theorem both_in {a : S_api_Arc} {st st' : S_flow_step} {K : List Int} (h1 : fr a st ∈ K) (h2 : tt a st ∈ K) : tt a st' ∈ K := by
  unfold fr tt at *
  by_cases hb : st.back = true <;> by_cases hb' : st'.back = true <;> simp [hb] at h1 h2 <;> simp [hb'] <;> assumption
theorem way_ev (hs : Tree l g s m) : ∀ (M : List (Int × S_flow_step)), (∀ v ∈ mkeys m, mget M v = mget m v) → ∀ v ∈ mkeys m, ∀ acc : List S_flow_step, acc.length + m.length ≤ 8796093022208 →
    ∃ w, Ev (fun k => m143_l0 s M l g k acc v) (acc ++ w) ∧ Way l g (mkeys m) s v w ∧ w.length ≤ m.length := by
  induction hs with
  | base =>
    intro M hM v hv acc ha
    have : v = s := by simpa [mkeys] using hv
    subst this
    refine ⟨[], Ev.succ (Ev.all fun k => ?_), rfl, by simp⟩
    simp only [m143_l0, if_true, List.append_nil]
  | @snoc m st a x h vs hl hf ht ih =>
    intro M hM v hv acc ha
    have hMm : ∀ v ∈ mkeys m, mget M v = mget m v := fun u hu => by
      rw [hM u (by rw [mkeys_append]; exact List.mem_append.2 (.inl hu)), mget_left hu]
    simp only [List.length_append, List.length_cons, List.length_nil] at ha
    have hsub : ∀ u ∈ mkeys m, u ∈ mkeys (m ++ [(tt a st, st)]) := fun u hu => by rw [mkeys_append]; exact List.mem_append.2 (.inl hu)
    by_cases hvm : v ∈ mkeys m
    · obtain ⟨w, h1, h2, h3⟩ := ih M hMm v hvm acc (by omega)
      exact ⟨w, h1, h2.mono hsub, by simp; omega⟩
    · have hvt : v = tt a st := by
        rw [mkeys_append] at hv
        rcases List.mem_append.1 hv with h' | h'
        · exact absurd h' hvm
        · simpa using h'
      subst hvt
      have hne : tt a st ≠ s := fun e => ht (by rw [e]; exact h.first)
      obtain ⟨w, h1, h2, h3⟩ := ih M hMm (fr a st) hf (acc ++ [st]) (by simp; omega)
      refine ⟨st :: w, Ev.succ (Ev.eq (by simpa using h1) fun k => ?_), ⟨a, x, vs, hl, rfl, hsub _ hf, by rw [mkeys_append]; simp, fun st' hst' e => ?_, h2.mono hsub⟩, by simp; omega⟩
      · simp only [m143_l0]
        rw [if_neg hne, hM _ hv, mget_right ht, Option.bind_some, Option.getD_some, appd_ok (by simp; omega), Option.bind_some, ends_eq vs, Option.bind_some]
      · obtain ⟨a', x', v', e1, e2⟩ := h2.ends st' hst'
        have : a' = a := by have := v'.arc; rw [e, vs.arc] at this; exact (Option.some.inj this).symm
        subst this
        exact ht (both_in e1 e2)
end
section
variable {l : List S_api_Arc} {g : List Int} {s : Int}
/-- What is known in the midst of 'reach': c nodes are done, h is the one at work. -/
structure RS (l : List S_api_Arc) (g : List Int) (s : Int) (c : Nat) (h : Int) (m : List (Int × S_flow_step)) (q : List Int) : Prop where mk ::
  tree : Tree l g s m
  head : q[0]? = some h
  inm : ∀ v ∈ q, v ∈ mkeys m
  len : q.length + c = m.length
theorem ok_int (m : List (Int × S_flow_step)) (v : Int) : (mget m v).isSome = true ↔ v ∈ mkeys m := mget_mem m v
theorem reach_step (hc : ∀ a ∈ l, 0 ≤ a.Cost ∧ a.Cost ≤ 1073741824) (hf : Fit l g) (hl : l.length ≤ 1000) {c : Nat} {h : Int} {m : List (Int × S_flow_step)} {q : List Int} (R : RS l g s c h m q) {i : Nat} (hi : i < l.length) {j : Int} {b : Bool} (hj : rdx [false, true] j = some b) (hj2 : j < 2) (hj0 : 0 ≤ j) :
    ∃ m' q', RS l g s c h m' q' ∧ ∀ k, m142_l2 i l g (k + 1) m q j = m142_l2 i l g k m' q' (j + 1) := by
  have hgi : i < g.length := by rw [hf.1]; exact hi
  have vs : VS l g ⟨i, b⟩ l[i] g[i] := ⟨by simp, by simp [hi], by simp [hgi]⟩
  have hw : IntKind.i64.wrap (j + 1) = j + 1 := wrap_id (by omega) (by omega)
  have hq0 : rdx q 0 = some h := by simp [rdx, R.head]
  by_cases hgo : fr l[i] ⟨i, b⟩ = h ∧ tt l[i] ⟨i, b⟩ ∉ mkeys m ∧ 0 < lf l[i] g[i] ⟨i, b⟩
  · obtain ⟨g1, g2, g3⟩ := hgo
    have hh : h ∈ mkeys m := R.inm h (List.mem_of_getElem? R.head)
    have hlen := (R.tree.snoc vs g3 (by rw [g1]; exact hh) g2).len
    have hR := R.len
    simp only [List.length_append, List.length_cons, List.length_nil] at hlen
    refine ⟨m ++ [(tt l[i] ⟨i, b⟩, ⟨i, b⟩)], q ++ [tt l[i] ⟨i, b⟩], ⟨R.tree.snoc vs g3 (by rw [g1]; exact hh) g2, ?_, fun v hv => ?_, by simp; omega⟩, fun k => ?_⟩
    · rw [List.getElem?_append_left (List.getElem?_eq_some_iff.1 R.head).1]; exact R.head
    · rw [mkeys_append]
      rcases List.mem_append.1 hv with hv | hv
      · exact List.mem_append.2 (.inl (R.inm v hv))
      · exact List.mem_append.2 (.inr hv)
    · have hns : ¬ (mget m (tt l[i] ⟨i, b⟩)).isSome = true := fun e => g2 ((ok_int m _).1 e)
      simp only [m142_l2]
      rw [if_pos (by simpa using hj2), hj, Option.bind_some, ends_eq vs]
      simp only [Option.bind_some, hq0]
      rw [if_pos g1, if_neg hns, left_eq hc hf vs, Option.bind_some]
      simp only [Option.bind_some, g3, decide_true, if_true]
      rw [appd_ok (by simp; omega), hw, mput_new m _ _ g2]; rfl
  · refine ⟨m, q, R, fun k => ?_⟩
    simp only [m142_l2]
    rw [if_pos (by simpa using hj2), hj, Option.bind_some, ends_eq vs]
    simp only [Option.bind_some, hq0]
    have hbody : (if fr l[i] ⟨i, b⟩ = h then (if (mget m (tt l[i] ⟨i, b⟩)).isSome = true then some false else (m183 l g ⟨i, b⟩).bind fun x => some (decide (0 < x))) else some false) = some false := by
      by_cases g1 : fr l[i] ⟨i, b⟩ = h
      · rw [if_pos g1]
        by_cases g2 : tt l[i] ⟨i, b⟩ ∈ mkeys m
        · rw [if_pos ((ok_int m _).2 g2)]
        · rw [if_neg fun e => g2 ((ok_int m _).1 e), left_eq hc hf vs, Option.bind_some]
          have g3 : ¬ 0 < lf l[i] g[i] ⟨i, b⟩ := fun h3 => hgo ⟨g1, g2, h3⟩
          simp [g3]
      · rw [if_neg g1]
    rw [hbody, hw]; rfl
theorem reach_l2 (hc : ∀ a ∈ l, 0 ≤ a.Cost ∧ a.Cost ≤ 1073741824) (hf : Fit l g) (hl : l.length ≤ 1000) {c : Nat} {h : Int} {m : List (Int × S_flow_step)} {q : List Int} (R : RS l g s c h m q) {i : Nat} (hi : i < l.length) :
    ∃ m' q', RS l g s c h m' q' ∧ Ev (fun k => m142_l2 i l g k m q 0) (q', m') := by
  obtain ⟨m1, q1, R1, e1⟩ := reach_step hc hf hl R hi (j := 0) (b := false) rfl (by omega) (by omega)
  obtain ⟨m2, q2, R2, e2⟩ := reach_step hc hf hl R1 hi (j := 1) (b := true) rfl (by omega) (by omega)
  refine ⟨m2, q2, R2, Ev.succ (Ev.eq (f := fun k => m142_l2 i l g k m1 q1 1) (Ev.succ (Ev.eq (f := fun k => m142_l2 i l g k m2 q2 2) (Ev.succ (Ev.all fun k => ?_)) e2)) e1)⟩
  simp only [m142_l2]
  rw [if_neg (by simp)]
theorem reach_l1 (hc : ∀ a ∈ l, 0 ≤ a.Cost ∧ a.Cost ≤ 1073741824) (hf : Fit l g) (hl : l.length ≤ 1000) {c : Nat} {h : Int} : ∀ (n i : Nat) (m : List (Int × S_flow_step)) (q : List Int), i + n = l.length → RS l g s c h m q →
    ∃ m' q', RS l g s c h m' q' ∧ Ev (fun k => m142_l1 l g k m q i) (q', m')
  | 0, i, m, q, hn, R => by
    refine ⟨m, q, R, Ev.succ (Ev.all fun k => ?_)⟩
    simp only [m142_l1]; rw [if_neg (by omega)]
  | n + 1, i, m, q, hn, R => by
    have hi : i < l.length := by omega
    obtain ⟨m1, q1, R1, e1⟩ := reach_l2 hc hf hl R hi
    obtain ⟨m2, q2, R2, e2⟩ := reach_l1 hc hf hl n (i + 1) m1 q1 (by omega) R1
    refine ⟨m2, q2, R2, Ev.succ ?_⟩
    simp only [m142_l1]
    refine Ev.pos (by omega) (Ev.bind e1 ?_)
    rw [wrap_nat1 (show Sz l by unfold Sz; omega) hi]; exact e2
theorem reach_l0 (hc : ∀ a ∈ l, 0 ≤ a.Cost ∧ a.Cost ≤ 1073741824) (hf : Fit l g) (hl : l.length ≤ 1000) : ∀ (n c : Nat) (m : List (Int × S_flow_step)) (q : List Int), 2 * l.length + 1 ≤ n + c → Tree l g s m → (∀ v ∈ q, v ∈ mkeys m) → q.length + c = m.length →
    ∃ m', Tree l g s m' ∧ Ev (fun k => m142_l0 l g k m q) m'
  | n, c, m, [], hn, T, hq, hlen => by
    refine ⟨m, T, Ev.succ (Ev.all fun k => ?_)⟩
    simp only [m142_l0]; rw [if_neg (by simp)]
  | 0, c, m, h :: q, hn, T, hq, hlen => by
    have := T.len
    simp at hlen; omega
  | n + 1, c, m, h :: q, hn, T, hq, hlen => by
    obtain ⟨m1, q1, R1, e1⟩ := reach_l1 hc hf hl l.length 0 m (h :: q) (by omega) ⟨T, rfl, hq, hlen⟩
    have hR := R1.len
    have h0 : 0 < q1.length := (List.getElem?_eq_some_iff.1 R1.head).1
    obtain ⟨m2, T2, e2⟩ := reach_l0 hc hf hl n (c + 1) m1 (q1.drop 1) (by omega) R1.tree (fun v hv => R1.inm v (List.mem_of_mem_drop hv)) (by simp; omega)
    refine ⟨m2, T2, Ev.succ ?_⟩
    simp only [m142_l0]
    refine Ev.pos (by simp) (Ev.bind e1 (Ev.bnd (v := q1.drop 1) ?_ e2))
    have ht := R1.tree.len
    simp only [cutx]
    rw [if_pos ⟨by omega, by omega, by omega⟩]
    simp
theorem reach_ev (hc : ∀ a ∈ l, 0 ≤ a.Cost ∧ a.Cost ≤ 1073741824) (hf : Fit l g) (hl : l.length ≤ 1000) : ∃ m, Tree l g s m ∧ Ev (fun k => m142 k l g s) m := by
  obtain ⟨m, T, e⟩ := reach_l0 (s := s) hc hf hl (2 * l.length + 1) 0 [(s, ⟨-1, false⟩)] [s] (by omega) .base (by simp [mkeys]) (by simp)
  exact ⟨m, T, Ev.bnd (v := [(s, ⟨-1, false⟩)]) rfl (Ev.bind e (Ev.pure _))⟩
end
/-- The sum over all arcs of what each is given, by how a number at its nodes falls. -/
def sumA (p : Int → Int) : List S_api_Arc → List Int → Int
  | a :: l, x :: g => x * (p a.From - p a.To) + sumA p l g
  | _, _ => 0
theorem sumA_set (p : Int → Int) : ∀ {l : List S_api_Arc} {g : List Int} {i : Nat} {a : S_api_Arc} {x y : Int}, l[i]? = some a → g[i]? = some x → sumA p l (g.set i y) = sumA p l g + (y - x) * (p a.From - p a.To)
  | a :: l, x :: g, 0, _, _, y, h1, h2 => by
    simp at h1 h2; subst h1; subst h2
    simp only [List.set_cons_zero, sumA, Int.sub_mul]; omega
  | a :: l, x :: g, i + 1, b, z, y, h1, h2 => by
    simp only [List.set_cons_succ, sumA]
    rw [sumA_set p (l := l) (g := g) (i := i) (by simpa using h1) (by simpa using h2)]; omega
/-- A flow of the size V. -/
structure Inv (l : List S_api_Arc) (s t : Int) (g : List Int) (V : Int) : Prop where mk ::
  fit : Fit l g
  bal : ∀ p : Int → Int, sumA p l g = V * (p s - p t)
section
variable {l : List S_api_Arc} {s t : Int}
/-- The least that a way takes. -/
theorem min_ev (hc : ∀ a ∈ l, 0 ≤ a.Cost ∧ a.Cost ≤ 1073741824) {g : List Int} (hf : Fit l g) (w : List S_flow_step) (hw : ∀ st ∈ w, ∃ a x, VS l g st a x ∧ 0 < lf a x st) (hwl : Sz w) : ∀ (n i : Nat) (y : Int), i + n = w.length → 0 < y →
    ∃ r, 0 < r ∧ r ≤ y ∧ (∀ st ∈ w.drop i, ∀ a x, VS l g st a x → r ≤ lf a x st) ∧ Ev (fun k => m143_l1 w l g k y i) r
  | 0, i, y, hn, hy => by
    refine ⟨y, hy, Int.le_refl _, ?_, Ev.succ (Ev.all fun k => ?_)⟩
    · rw [List.drop_eq_nil_of_le (by omega)]; intro st h; cases h
    · simp only [m143_l1]; rw [if_neg (by omega)]
  | n + 1, i, y, hn, hy => by
    have hi : i < w.length := by omega
    obtain ⟨a, x, vs, hp⟩ := hw w[i] (List.getElem_mem hi)
    obtain ⟨r, h1, h2, h3, h4⟩ := min_ev hc hf w hw hwl n (i + 1) (if lf a x w[i] < y then lf a x w[i] else y) (by omega) (by split <;> omega)
    refine ⟨r, h1, ?_, ?_, Ev.succ ?_⟩
    · split at h2 <;> omega
    · rw [List.drop_eq_getElem_cons hi]
      intro st hst a' x' v'
      cases hst with
      | head =>
        have e1 : a' = a := by have := v'.arc; rw [vs.arc] at this; exact (Option.some.inj this).symm
        have e2 : x' = x := by have := v'.given; rw [vs.given] at this; exact (Option.some.inj this).symm
        subst e1 e2
        split at h2 <;> omega
      | tail _ hst => exact h3 st hst a' x' v'
    · simp only [m143_l1]
      refine Ev.pos (by omega) (Ev.bnd (rdx_lt hi) (Ev.bnd (left_eq hc hf vs) ?_))
      rw [wrap_nat1 hwl hi]; exact h4
/-- More is given along a way. -/
theorem push_l2 (hc : ∀ a ∈ l, 0 ≤ a.Cost ∧ a.Cost ≤ 1073741824) {g : List Int} {K : List Int} (w : List S_flow_step) (hwl : Sz w) {r : Int} (hr : 0 < r) : ∀ (n i : Nat) (gc : List Int) (v : Int) (V : Int), i + n = w.length → Fit l gc → Way l g K s v (w.drop i) →
    (∀ st ∈ w.drop i, gc[st.arc.toNat]? = g[st.arc.toNat]?) → (∀ st ∈ w.drop i, ∀ a x, VS l g st a x → r ≤ lf a x st) → (∀ p : Int → Int, sumA p l gc = V * (p s - p t) + r * (p v - p t)) →
    ∃ g', Fit l g' ∧ (∀ p : Int → Int, sumA p l g' = V * (p s - p t) + r * (p s - p t)) ∧ Ev (fun k => m143_l2 w r k gc i) g'
  | 0, i, gc, v, V, hn, hf, hw, hg, hm, hb => by
    rw [List.drop_eq_nil_of_le (by omega)] at hw
    have hv : v = s := hw
    subst hv
    refine ⟨gc, hf, hb, Ev.succ (Ev.all fun k => ?_)⟩
    simp only [m143_l2]; rw [if_neg (by omega)]
  | n + 1, i, gc, v, V, hn, hf, hw, hg, hm, hb => by
    have hi : i < w.length := by omega
    rw [List.drop_eq_getElem_cons hi] at hw hg hm
    obtain ⟨a, x, vs, hp, ht, _, _, hd, hw'⟩ := hw
    have hgx : gc[w[i].arc.toNat]? = some x := by rw [hg _ (List.mem_cons_self ..)]; exact vs.given
    have hx := hf.2 _ _ _ vs.arc hgx
    have hca := hc a (List.mem_of_getElem? vs.arc)
    have hrl := hm _ (List.mem_cons_self ..) a x vs
    have hlt : w[i].arc.toNat < gc.length := (List.getElem?_eq_some_iff.1 hgx).1
    -- what the arc is given now
    obtain ⟨y, hy1, hy2, hy3⟩ : ∃ y, (0 ≤ y ∧ y ≤ a.Cost) ∧ (∀ p : Int → Int, (y - x) * (p a.From - p a.To) = r * (p (fr a w[i]) - p (tt a w[i]))) ∧ ∀ k, m143_l2 w r (k + 1) gc i = m143_l2 w r k (gc.set w[i].arc.toNat y) ((i + 1 : Nat) : Int) := by
      unfold lf at hrl
      by_cases hbk : w[i].back = true
      · rw [if_pos hbk] at hrl
        refine ⟨x - r, by omega, fun p => ?_, fun k => ?_⟩
        · simp only [fr, tt, hbk, if_true]
          rw [show x - r - x = -r by omega, Int.neg_mul, ← Int.mul_neg]; congr 1; omega
        · simp only [m143_l2]
          rw [if_pos (by omega), rdx_lt hi]
          simp only [Option.bind_some, if_pos hbk, rdx_get vs.nn hgx]
          rw [wrap_nat1 hwl hi, wrap_id (by omega) (by omega)]
      · rw [if_neg hbk] at hrl
        refine ⟨x + r, by omega, fun p => ?_, fun k => ?_⟩
        · simp only [fr, tt, hbk]
          rw [show x + r - x = r by omega]; rfl
        · simp only [m143_l2]
          rw [if_pos (by omega), rdx_lt hi]
          simp only [Option.bind_some, if_neg hbk, rdx_get vs.nn hgx]
          rw [wrap_nat1 hwl hi, wrap_id (by omega) (by omega)]
    have hf' : Fit l (gc.set w[i].arc.toNat y) := ⟨by simp [hf.1], fun j b z hj hz => by
      by_cases hji : j = w[i].arc.toNat
      · subst hji
        have e1 : b = a := by rw [vs.arc] at hj; exact (Option.some.inj hj).symm
        subst e1
        have e2 : z = y := by rw [List.getElem?_set_self hlt] at hz; exact (Option.some.inj hz).symm
        subst e2; exact hy1
      · rw [List.getElem?_set_ne (fun e => hji e.symm)] at hz
        exact hf.2 j b z hj hz⟩
    have hne : ∀ st ∈ w.drop (i + 1), st.arc.toNat ≠ w[i].arc.toNat := fun st hst e => by
      obtain ⟨a', x', v', _, _⟩ := hw'.ends st hst
      have h1 := v'.nn
      have h2 := vs.nn
      exact hd st hst (by omega)
    obtain ⟨g', k1, k2, k3⟩ := push_l2 hc w hwl hr n (i + 1) (gc.set w[i].arc.toNat y) (fr a w[i]) V (by omega) hf' hw'
      (fun st hst => by rw [List.getElem?_set_ne (fun e => hne st hst e.symm)]; exact hg st (List.mem_cons_of_mem _ hst))
      (fun st hst => hm st (List.mem_cons_of_mem _ hst))
      (fun p => by
        rw [sumA_set p vs.arc hgx, hb p, hy2 p, ht]
        rw [Int.add_assoc, ← Int.mul_add]; congr 2; omega)
    exact ⟨g', k1, k2, Ev.succ (Ev.eq k3 hy3)⟩
theorem push_ev (hc : ∀ a ∈ l, 0 ≤ a.Cost ∧ a.Cost ≤ 1073741824) (hl : l.length ≤ 1000) {g : List Int} {V : Int} (h : Inv l s t g V) (hst : s ≠ t) :
    (∃ g' r, 0 < r ∧ Inv l s t g' (V + r) ∧ Ev (fun k => m143 k l g s t) (true, g')) ∨ Ev (fun k => m143 k l g s t) (false, g) := by
  obtain ⟨m, T, e⟩ := reach_ev (s := s) hc h.fit hl
  have hml := T.len
  by_cases ht : (mget m t).isSome = true
  · left
    have htm := (ok_int m t).1 ht
    obtain ⟨w, e1, hw, hwl⟩ := way_ev T m (fun _ _ => rfl) t htm [] (by simp; omega)
    rw [List.nil_append] at e1
    cases w with
    | nil => exact absurd hw.symm hst
    | cons st w =>
      have hall : ∀ (K : List Int) (v : Int) (w : List S_flow_step), Way l g K s v w → ∀ st ∈ w, ∃ a x, VS l g st a x ∧ 0 < lf a x st := by
        intro K v w
        induction w generalizing v with
        | nil => intro _ st h; cases h
        | cons st0 w ih =>
          rintro ⟨a, x, v1, v2, _, _, _, _, v7⟩ st hs
          cases hs with
          | head => exact ⟨a, x, v1, v2⟩
          | tail _ hs => exact ih _ v7 st hs
      have hall' := hall _ _ _ hw
      obtain ⟨a, x, vs, hp⟩ := hall' st (List.mem_cons_self ..)
      have hwsz : Sz (st :: w) := by unfold Sz; omega
      obtain ⟨r, r1, r2, r3, r4⟩ := min_ev hc h.fit (st :: w) hall' hwsz (st :: w).length 0 (lf a x st) (by omega) hp
      rw [List.drop_zero] at r3
      obtain ⟨g', k1, k2, k3⟩ := push_l2 (t := t) (g := g) (K := mkeys m) hc (st :: w) hwsz r1 (st :: w).length 0 g t V (by omega) h.fit (by rw [List.drop_zero]; exact hw) (fun _ _ => rfl) (by rw [List.drop_zero]; exact r3) (fun p => by rw [h.bal p]; simp)
      refine ⟨g', r, r1, ⟨k1, fun p => by rw [k2 p, Int.add_mul]⟩, Ev.bind e (Ev.bnd (v := (mget m t).getD ⟨0, false⟩) rfl (Ev.pos ht (Ev.bind e1 (Ev.bnd (v := st) (by simp [rdx]) (Ev.bnd (left_eq hc h.fit vs) (Ev.bind r4 (Ev.bind k3 (Ev.pure _))))))))⟩
  · right
    exact Ev.bind e (Ev.bnd (v := (mget m t).getD ⟨0, false⟩) rfl (Ev.neg ht (Ev.pure _)))
/-- The size is no more than all that the arcs hold. -/
def total : List S_api_Arc → Int
  | [] => 0
  | a :: l => a.Cost + total l
theorem sumA_le (p : Int → Int) (hp : ∀ v, p v = 0 ∨ p v = 1) : ∀ {l : List S_api_Arc} {g : List Int}, Fit l g → sumA p l g ≤ total l
  | [], g, _ => by simp [sumA, total]
  | a :: l, [], h => by have := h.1; simp at this
  | a :: l, x :: g, h => by
    have hx := h.2 0 a x rfl rfl
    have ih := sumA_le p hp (l := l) (g := g) ⟨by simpa using h.1, fun i b z hi hz => h.2 (i + 1) b z (by simpa using hi) (by simpa using hz)⟩
    simp only [sumA, total]
    have : x * (p a.From - p a.To) ≤ a.Cost := by
      rcases hp a.From with e1 | e1 <;> rcases hp a.To with e2 | e2 <;> rw [e1, e2] <;> omega
    omega
theorem ind01 (c : Int → Prop) [DecidablePred c] (v : Int) : (fun v => if c v then (1 : Int) else 0) v = 0 ∨ (fun v => if c v then (1 : Int) else 0) v = 1 := by
  by_cases h : c v <;> simp [h]
theorem Inv.le {g : List Int} {V : Int} (h : Inv l s t g V) (hst : s ≠ t) : V ≤ total l := by
  have h1 := sumA_le (fun v => if v = s then 1 else 0) (ind01 (· = s)) h.fit
  rw [h.bal] at h1
  simp [Ne.symm hst] at h1; exact h1
theorem greatest_l0 (hc : ∀ a ∈ l, 0 ≤ a.Cost ∧ a.Cost ≤ 1073741824) (hl : l.length ≤ 1000) (hst : s ≠ t) : ∀ (n : Nat) (g : List Int) (V : Int), total l ≤ V + n → 0 ≤ V → Inv l s t g V → ∃ g' V', 0 ≤ V' ∧ Inv l s t g' V' ∧ Ev (fun k => m82_l0 l s t k g) g'
  | n, g, V, hn, hV, h => by
    rcases push_ev hc hl h hst with ⟨g1, r, hr, h1, e1⟩ | e1
    · have hle := h1.le hst
      cases n with
      | zero => omega
      | succ n =>
        obtain ⟨g2, V2, h0, h2, e2⟩ := greatest_l0 hc hl hst n g1 (V + r) (by omega) (by omega) h1
        refine ⟨g2, V2, h0, h2, Ev.succ ?_⟩
        simp only [m82_l0]
        exact Ev.bind e1 (Ev.pos rfl e2)
    · refine ⟨g, V, hV, h, Ev.succ ?_⟩
      simp only [m82_l0]
      exact Ev.bind e1 (Ev.neg (by simp) (Ev.pure _))
theorem sumA_zero (p : Int → Int) : ∀ (l : List S_api_Arc) (n : Nat), sumA p l (List.replicate n 0) = 0
  | [], n => by cases n <;> simp [sumA]
  | a :: l, 0 => by simp [sumA]
  | a :: l, n + 1 => by simp [List.replicate_succ, sumA, sumA_zero p l n]
theorem total_nonneg : ∀ {l : List S_api_Arc}, (∀ a ∈ l, 0 ≤ a.Cost) → 0 ≤ total l
  | [], _ => by simp [total]
  | a :: l, h => by
    have h1 := h a (List.mem_cons_self ..)
    have h2 := total_nonneg (l := l) fun b hb => h b (List.mem_cons_of_mem _ hb)
    simp only [total]; omega
/-- 'greatest'. -/
theorem greatest_ev (hc : ∀ a ∈ l, 0 ≤ a.Cost ∧ a.Cost ≤ 1073741824) (hl : l.length ≤ 1000) : ∃ o, Ev (fun k => m82 k l s t) o ∧ ∀ g, o = some g → s ≠ t ∧ ∃ V, 0 ≤ V ∧ Inv l s t g V := by
  have hsz : Sz l := by unfold Sz; omega
  obtain ⟨ns, h1, h2, h3, h4, h5⟩ := nodes_ev l hsz
  have hns : Sz ns := by unfold Sz; omega
  by_cases hst : s = t
  · exact ⟨none, Ev.bind h1 (Ev.bind (v := true) (Ev.pos hst (Ev.pure _)) (Ev.pos rfl (Ev.pure _))), fun g h => by cases h⟩
  · have hcond : Ev (fun k => if s = t then (some true) else (Option.bind (m91 k ns s) fun x74 => if x74 = true then (Option.bind (m91 k ns t) fun x77 => some (!x77)) else (some true))) (!(decide (s ∈ ns) && decide (t ∈ ns))) := by
      refine Ev.neg hst (Ev.bind (contains_ev ns s hns) ?_)
      by_cases hs : s ∈ ns
      · refine Ev.pos (by simp [hs]) (Ev.bind (contains_ev ns t hns) ?_)
        simp only [hs, decide_true, Bool.true_and]; exact Ev.pure _
      · refine Ev.neg (by simp [hs]) ?_
        simp only [hs, decide_false, Bool.false_and, Bool.not_false]; exact Ev.pure _
    by_cases hin : s ∈ ns ∧ t ∈ ns
    · have hI0 : Inv l s t (List.replicate l.length 0) 0 := by
        refine ⟨⟨by simp, fun i a x hi hx => ?_⟩, fun p => by rw [sumA_zero]; simp⟩
        have hx0 : x = 0 := (List.mem_replicate.1 (List.mem_of_getElem? hx)).2
        have := hc a (List.mem_of_getElem? hi)
        omega
      obtain ⟨g, V, h0, hI, e⟩ := greatest_l0 hc hl hst (total l).toNat _ 0 (by have := total_nonneg fun a ha => (hc a ha).1; omega) (Int.le_refl _) hI0
      refine ⟨some g, Ev.bind h1 (Ev.bind hcond (Ev.neg (by simp [hin]) (Ev.bnd (v := List.replicate l.length 0) ?_ (Ev.bind e (Ev.pure _))))), fun g' h => ?_⟩
      · simp only [mkl]; rw [if_pos ⟨by omega, by omega⟩]; simp
      · cases h; exact ⟨hst, V, h0, hI⟩
    · refine ⟨none, Ev.bind h1 (Ev.bind hcond (Ev.pos ?_ (Ev.pure _))), fun g h => by cases h⟩
      simp only [Bool.not_eq_true', Bool.and_eq_false_iff, decide_eq_false_iff_not]
      exact Classical.not_and_iff_not_or_not.1 hin
/-- 'Most' adds up. -/
theorem most_l0 (hc : ∀ a ∈ l, 0 ≤ a.Cost ∧ a.Cost ≤ 1073741824) (hne : ∀ a ∈ l, a.From ≠ a.To) (hl : l.length ≤ 1000) {g : List Int} (hf : Fit l g) : ∀ (n i : Nat) (y : Int), i + n = l.length → -1073741824 * i ≤ y → y ≤ 1073741824 * i →
    Ev (fun k => m32_l0 l s g k y i) (y + sumA (fun v => if v = s then 1 else 0) (l.drop i) (g.drop i))
  | 0, i, y, hn, h1, h2 => by
    rw [List.drop_eq_nil_of_le (by omega)]
    refine Ev.succ (Ev.all fun k => ?_)
    simp only [m32_l0]; rw [if_neg (by omega)]; simp [sumA]
  | n + 1, i, y, hn, h1, h2 => by
    have hi : i < l.length := by omega
    have hgi : i < g.length := by rw [hf.1]; exact hi
    have hx := hf.2 i l[i] g[i] (by simp [hi]) (by simp [hgi])
    have hca := hc l[i] (List.getElem_mem hi)
    have hna := hne l[i] (List.getElem_mem hi)
    have hsz : Sz l := by unfold Sz; omega
    rw [List.drop_eq_getElem_cons hi, List.drop_eq_getElem_cons hgi]
    refine Ev.succ ?_
    simp only [m32_l0]
    refine Ev.pos (by omega) (Ev.bnd (rdx_lt hi) ?_)
    rw [wrap_nat1 hsz hi]
    simp only [sumA]
    by_cases c1 : s = l[i].From
    · have c2 : ¬ l[i].To = s := fun e => hna (by rw [e, c1])
      refine Ev.bind (v := y + g[i]) (Ev.pos c1 (Ev.bnd (rdx_lt hgi) (Ev.of (by rw [wrap_id (by omega) (by omega)])))) ?_
      have := most_l0 hc hne hl hf n (i + 1) (y + g[i]) (by omega) (by omega) (by omega)
      simp only [if_pos c1.symm, if_neg c2, Int.sub_zero, Int.mul_one]
      rw [← Int.add_assoc]; exact this
    · have c1' : ¬ l[i].From = s := fun e => c1 e.symm
      by_cases c2 : s = l[i].To
      · refine Ev.bind (v := y - g[i]) (Ev.neg c1 (Ev.bind (v := y - g[i]) (Ev.pos c2 (Ev.bnd (rdx_lt hgi) (Ev.of (by rw [wrap_id (by omega) (by omega)])))) (Ev.pure _))) ?_
        have := most_l0 hc hne hl hf n (i + 1) (y - g[i]) (by omega) (by omega) (by omega)
        simp only [if_neg c1', if_pos c2.symm]
        rw [show y + (g[i] * (0 - 1) + sumA (fun v => if v = s then 1 else 0) (l.drop (i + 1)) (g.drop (i + 1))) = y - g[i] + sumA (fun v => if v = s then 1 else 0) (l.drop (i + 1)) (g.drop (i + 1)) by omega]
        exact this
      · have c2' : ¬ l[i].To = s := fun e => c2 e.symm
        refine Ev.bind (v := y) (Ev.neg c1 (Ev.bind (v := y) (Ev.neg c2 (Ev.pure _)) (Ev.pure _))) ?_
        have := most_l0 hc hne hl hf n (i + 1) y (by omega) (by omega) (by omega)
        simp only [if_neg c1', if_neg c2', Int.sub_zero, Int.mul_zero, Int.zero_add]
        exact this
theorem total_le (C : Int) : ∀ {l : List S_api_Arc}, (∀ a ∈ l, a.Cost ≤ C) → total l ≤ C * l.length
  | [], _ => by simp [total]
  | a :: l, h => by
    have h1 := h a (List.mem_cons_self ..)
    have h2 := total_le C (l := l) fun b hb => h b (List.mem_cons_of_mem _ hb)
    simp only [total, List.length_cons]
    rw [Int.natCast_add, Int.mul_add]; omega
theorem most_ev (hc : ∀ a ∈ l, 0 ≤ a.Cost ∧ a.Cost ≤ 1073741824) (hne : ∀ a ∈ l, a.From ≠ a.To) (hl : l.length ≤ 1000) : ∃ V, 0 ≤ V ∧ V ≤ 2000000000000 ∧ Ev (fun k => m32 k l s t) V ∧ (V = 0 ∨ s ≠ t ∧ ∃ g, Inv l s t g V) := by
  obtain ⟨o, h1, h2⟩ := greatest_ev (s := s) (t := t) hc hl
  cases o with
  | none => exact ⟨0, by omega, by omega, Ev.bind h1 (Ev.pure _), .inl rfl⟩
  | some g =>
    obtain ⟨hst, V, h0, hI⟩ := h2 g rfl
    have hle := hI.le hst
    have hto := total_le 1073741824 fun a ha => (hc a ha).2
    have h3 := most_l0 (s := s) hc hne hl hI.fit l.length 0 0 (by omega) (by omega) (by omega)
    rw [List.drop_zero, List.drop_zero, hI.bal] at h3
    simp only [if_true, if_neg (Ne.symm hst), Int.sub_zero, Int.mul_one, Int.zero_add] at h3
    refine ⟨V, h0, by omega, Ev.bind h1 (Ev.bind h3 (Ev.of ?_)), .inr ⟨hst, g, hI⟩⟩
    rw [wrapu_id h0 (by omega)]
/-- What a cut holds. -/
def cutSum (S : List Int) : List S_api_Arc → Int
  | [] => 0
  | a :: l => (if a.From ∈ S ∧ a.To ∉ S then a.Cost else 0) + cutSum S l
theorem cut_le (S : List Int) : ∀ {l : List S_api_Arc} {g : List Int}, Fit l g → sumA (fun v => if v ∈ S then 1 else 0) l g ≤ cutSum S l
  | [], g, _ => by simp [sumA, cutSum]
  | a :: l, [], h => by have := h.1; simp at this
  | a :: l, x :: g, h => by
    have hx := h.2 0 a x rfl rfl
    have ih := cut_le S (l := l) (g := g) ⟨by simpa using h.1, fun i b z hi hz => h.2 (i + 1) b z (by simpa using hi) (by simpa using hz)⟩
    simp only [sumA, cutSum]
    by_cases c1 : a.From ∈ S <;> by_cases c2 : a.To ∈ S <;> simp only [c1, c2, if_true, if_false, not_true, not_false_eq_true, and_true, and_false, true_and, false_and] <;> omega
theorem cut_nonneg (S : List Int) : ∀ {l : List S_api_Arc}, (∀ a ∈ l, 0 ≤ a.Cost) → 0 ≤ cutSum S l
  | [], _ => by simp [cutSum]
  | a :: l, h => by
    have h1 := h a (List.mem_cons_self ..)
    have h2 := cut_nonneg S (l := l) fun b hb => h b (List.mem_cons_of_mem _ hb)
    simp only [cutSum]; split <;> omega
theorem holds_l0 (S : List Int) (hS : Sz S) (hc : ∀ a ∈ l, 0 ≤ a.Cost ∧ a.Cost ≤ 1073741824) (hl : l.length ≤ 1000) : ∀ (n i : Nat) (y : Int), i + n = l.length → 0 ≤ y → y ≤ 1073741824 * i → Ev (fun k => m33_l0 l S k y i) (y + cutSum S (l.drop i))
  | 0, i, y, hn, h1, h2 => by
    rw [List.drop_eq_nil_of_le (by omega)]
    refine Ev.succ (Ev.all fun k => ?_)
    simp only [m33_l0]; rw [if_neg (by omega)]; simp [cutSum]
  | n + 1, i, y, hn, h1, h2 => by
    have hi : i < l.length := by omega
    have hca := hc l[i] (List.getElem_mem hi)
    have hsz : Sz l := by unfold Sz; omega
    rw [List.drop_eq_getElem_cons hi]
    simp only [cutSum]
    refine Ev.succ ?_
    simp only [m33_l0]
    refine Ev.pos (by omega) (Ev.bind (v := decide (l[i].From ∈ S ∧ l[i].To ∉ S)) ?_ ?_)
    · refine Ev.bnd (rdx_lt hi) (Ev.bind (has_ev S _ hS) ?_)
      by_cases c1 : l[i].From ∈ S
      · refine Ev.pos (by simp [c1]) (Ev.bnd (rdx_lt hi) (Ev.bind (has_ev S _ hS) (Ev.of ?_)))
        simp [c1]
      · refine Ev.neg (by simp [c1]) (Ev.of ?_)
        simp [c1]
    · rw [wrap_nat1 hsz hi]
      by_cases c : l[i].From ∈ S ∧ l[i].To ∉ S
      · refine Ev.bind (v := y + l[i].Cost) (Ev.pos (by simp [c]) (Ev.bnd (rdx_lt hi) (Ev.of (by rw [wrapu_id (n := l[i].Cost) (by omega) (by omega), wrapu_id (by omega) (by omega)])))) ?_
        have := holds_l0 S hS hc hl n (i + 1) (y + l[i].Cost) (by omega) (by omega) (by omega)
        rw [if_pos c, ← Int.add_assoc]; exact this
      · refine Ev.bind (v := y) (Ev.neg (by simp only [decide_eq_true_eq]; exact c) (Ev.pure _)) ?_
        have := holds_l0 S hS hc hl n (i + 1) y (by omega) (by omega) (by omega)
        rw [if_neg c, Int.zero_add]; exact this
end
theorem awake4 : Ev (fun k => m31 k) true := ⟨20, fun k hk => by
  obtain ⟨j, rfl⟩ : ∃ j, k = j + 20 := ⟨k - 20, by omega⟩
  have h : ∀ j, m31 (j + 20) = some true := fun j => by kernel_rfl
  exact h j⟩
theorem cost_loop (l : List S_api_Arc) (hl : Sz l) : ∀ n i : Nat, i + n = l.length → ((∀ a ∈ l.drop i, a.Cost ≤ 100) ∧ Ev (fun k => m4_l0 l k i) (.go ())) ∨ Ev (fun k => m4_l0 l k i) (.ret true)
  | 0, i, h => by
    refine .inl ⟨by rw [List.drop_eq_nil_of_le (by omega)]; simp, Ev.succ (Ev.all fun k => ?_)⟩
    simp only [m4_l0]; rw [if_neg (by omega)]
  | n + 1, i, h => by
    have hi : i < l.length := by omega
    by_cases hx : 100 < l[i].Cost
    · refine .inr (Ev.succ ?_)
      simp only [m4_l0]
      exact Ev.pos (by omega) (Ev.bnd (rdx_lt hi) (Ev.pos hx (Ev.bind awake4 (Ev.pure _))))
    · have e : ∀ {o}, Ev (fun k => m4_l0 l k ((i + 1 : Nat) : Int)) o → Ev (fun k => m4_l0 l k i) o := fun {o} he => Ev.succ (by
        simp only [m4_l0]
        refine Ev.pos (by omega) (Ev.bnd (rdx_lt hi) (Ev.neg hx ?_))
        rw [wrap_nat1 hl hi]; exact he)
      rcases cost_loop l hl n (i + 1) (by omega) with ⟨h1, h2⟩ | h2
      · refine .inl ⟨?_, e h2⟩
        rw [List.drop_eq_getElem_cons hi]
        intro a ha
        cases ha with
        | head => omega
        | tail _ ha => exact h1 a ha
      · exact .inr (e h2)
theorem flowCuts_true : flowCuts_pure := by
  intro l hgl hsz n hgn S hgS hS
  refine Ev.get (f := fun k => m4 k l n S) ?_
  have awake : ∀ {b : Nat → Option Bool}, Ev (fun k => Option.bind (m31 k) fun x => some x) true := fun {b} => Ev.bind awake4 (Ev.pure _)
  obtain ⟨bm, m1, m2⟩ := may_ev l hsz
  -- what is asked ahead
  by_cases c1 : 60 < (l.length : Int)
  · exact Ev.bind (v := true) (Ev.pos c1 (Ev.pure _)) (Ev.pos rfl (Ev.bind awake4 (Ev.pure _)))
  by_cases c2 : 70 < (S.length : Int)
  · exact Ev.bind (v := true) (Ev.neg c1 (Ev.pos c2 (Ev.pure _))) (Ev.pos rfl (Ev.bind awake4 (Ev.pure _)))
  cases bm with
  | false => exact Ev.bind (v := true) (Ev.neg c1 (Ev.neg c2 (Ev.bind m1 (Ev.neg (by simp) (Ev.pure _))))) (Ev.pos rfl (Ev.bind awake4 (Ev.pure _)))
  | true =>
    have hmay := m2.1 rfl
    by_cases c3 : n.e0 ∈ S
    · by_cases c4 : n.e1 ∈ S
      · refine Ev.bind (v := true) (Ev.neg c1 (Ev.neg c2 (Ev.bind m1 (Ev.pos rfl (Ev.bind (has_ev S _ hS) (Ev.pos (by simp [c3]) (Ev.bind (has_ev S _ hS) (Ev.of ?_)))))))) (Ev.pos rfl (Ev.bind awake4 (Ev.pure _)))
        simp [c4]
      · refine Ev.bind (v := false) (Ev.neg c1 (Ev.neg c2 (Ev.bind m1 (Ev.pos rfl (Ev.bind (has_ev S _ hS) (Ev.pos (by simp [c3]) (Ev.bind (has_ev S _ hS) (Ev.of ?_)))))))) (Ev.neg (by simp) ?_)
        · simp [c4]
        rcases cost_loop l hsz l.length 0 (by omega) with ⟨h1, h2⟩ | h2
        · refine Ev.onGo h2 ?_
          have hc : ∀ a ∈ l, 0 ≤ a.Cost ∧ a.Cost ≤ 1073741824 := fun a ha => by have := hmay.1 a ha; unfold OkA at this; omega
          have hne : ∀ a ∈ l, a.From ≠ a.To := fun a ha => by have := hmay.1 a ha; unfold OkA at this; omega
          obtain ⟨V, v0, v1, v2, v3⟩ := most_ev (s := n.e0) (t := n.e1) hc hne (by omega)
          have hh := holds_l0 S hS hc (by omega) l.length 0 0 (by omega) (by omega) (by omega)
          rw [List.drop_zero, Int.zero_add] at hh
          have hle : V ≤ cutSum S l := by
            rcases v3 with rfl | ⟨hst, g, hI⟩
            · exact cut_nonneg S fun a ha => (hc a ha).1
            · have := cut_le S hI.fit
              rw [hI.bal] at this
              simp [c3, c4] at this; exact this
          exact Ev.bind (v := true) (Ev.bind v2 (Ev.bind (Ev.bind hh (Ev.pure _)) (Ev.pos hle (Ev.bind awake4 (Ev.pure _))))) (Ev.pure _)
        · exact Ev.onRet h2 (Ev.pure _)
    · refine Ev.bind (v := true) (Ev.neg c1 (Ev.neg c2 (Ev.bind m1 (Ev.pos rfl (Ev.bind (has_ev S _ hS) (Ev.neg (by simp [c3]) (Ev.pure _))))))) (Ev.pos rfl (Ev.bind awake4 (Ev.pure _)))
end Go.Proofs.Ytbielnhpfbhkgaa
