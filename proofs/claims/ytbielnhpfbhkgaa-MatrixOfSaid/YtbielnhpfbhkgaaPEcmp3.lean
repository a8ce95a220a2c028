/- Plain facts: 'ecmp.All', run through. -/
import Derived.Test.YtbielnhpfbhkgaaPEcmp2
set_option linter.unusedVariables false
set_option linter.unusedSimpArgs false
namespace Go.Proofs.Ytbielnhpfbhkgaa
open Go Go.RowKit

def nearLt (x y : S_api_Route) : Prop := x.Cost < y.Cost ∨ (x.Cost = y.Cost ∧ x.To < y.To)
def ncmp (x y : S_api_Route) : Int := if x.Cost < y.Cost then -1 else if y.Cost < x.Cost then 1 else if x.To < y.To then -1 else if y.To < x.To then 1 else 0
theorem cmpe_eq (a b : Int) : m116 a b = some (if a < b then -1 else if b < a then 1 else 0) := by
  simp only [m116, m163, decide_true, Bool.not_true, Option.bind_some]
  by_cases h1 : a < b
  · simp [h1]
  · by_cases h2 : b < a <;> simp [h1, h2]
theorem ncmp_ev (x y : S_api_Route) : Ev (fun k => m115 k x y) (ncmp x y) := by
  refine Ev.bnd (cmpe_eq _ _) (Ev.bnd (cmp_eq _ _) (Ev.bind (or2_ev _ _) (Ev.of ?_)))
  unfold ncmp
  by_cases h1 : x.Cost < y.Cost
  · simp [h1]
  · by_cases h2 : y.Cost < x.Cost <;> simp [h1, h2]
theorem ncmp_lt (x y : S_api_Route) : (ncmp x y < 0 ↔ nearLt x y) ∧ (ncmp x y ≤ 0 ↔ ¬ nearLt y x) := by
  unfold ncmp nearLt
  repeat' split
  all_goals omega
theorem near_parts {l : List S_api_Arc} {r : Int} {rs : List S_api_Route} (hr : Routes l r rs) : Parts rs nearLt :=
  ⟨fun x _ h => by unfold nearLt at h; omega, fun x _ y _ z _ h1 h2 => by unfold nearLt at *; omega, fun x hx y hy hne => by
    have : x.To ≠ y.To := fun e => hne (hr.same hx hy e)
    unfold nearLt; omega⟩
/-- How many arcs of least ways lead to the first i nodes. -/
def PP (l : List S_api_Arc) (r : Int) (at_ : List (Int × Int)) (near : List S_api_Route) (i : Nat) : Nat := ((near.take i).map fun x => (inA l at_ r x.To).length).sum
section
variable {l : List S_api_Arc} {r : Int} {rs near : List S_api_Route} {at_ : List (Int × Int)}
theorem PP_succ {i : Nat} (hi : i < near.length) : PP l r at_ near (i + 1) = PP l r at_ near i + (inA l at_ r near[i].To).length := by
  simp only [PP]
  rw [List.take_succ_eq_append_getElem hi, List.map_append, List.sum_append]; simp
theorem PP_lt (hne : ∀ x ∈ near, inA l at_ r x.To ≠ []) : ∀ {j i : Nat}, j < i → i ≤ near.length → PP l r at_ near j < PP l r at_ near i
  | j, 0, h, _ => absurd h (Nat.not_lt_zero _)
  | j, i + 1, h, hi => by
    have h1 := List.length_pos_iff.2 (hne near[i] (List.getElem_mem (by omega)))
    rw [PP_succ (by omega)]
    rcases Nat.lt_or_ge j i with h2 | h2
    · have := PP_lt hne h2 (by omega); omega
    · obtain rfl : j = i := by omega
      omega
theorem PP_le (hd : near.Pairwise fun x y => x.To ≠ y.To) (i : Nat) : PP l r at_ near i ≤ l.length :=
  parts_sum (fun (x : S_api_Route) (a : S_api_Arc) => decide (a.To = x.To) && onB at_ r a) (near.take i) l ((hd.sublist (List.take_sublist _ _)).imp fun {x y} h a ha => by
    simp only [Bool.and_eq_true, decide_eq_true_eq] at ha
    have : ¬ a.To = y.To := fun e => h (by rw [← ha.1, e])
    simp [this])
/-- Those that are nearer by stand ahead. -/
theorem near_before (hp : near.Perm rs) (ha : Asc nearLt near) {i : Nat} (hi : i < near.length) {y : S_api_Route} (hy : y ∈ rs) (hc : y.Cost < near[i].Cost) : ∃ t, ∃ h : t < i, near[t]'(by omega) = y := by
  obtain ⟨t, ht, e⟩ := List.getElem_of_mem (hp.mem_iff.2 hy)
  refine ⟨t, ?_, e⟩
  rcases Nat.lt_trichotomy t i with h | h | h
  · exact h
  · subst h; rw [e] at hc; omega
  · have := List.pairwise_iff_getElem.1 ha i t hi ht h
    rw [e] at this
    rcases this with e' | e'
    · rw [e'] at hc; omega
    · unfold nearLt at e'; omega
/-- How many first hops stand for one node, those of one way each. -/
theorem via_len (hm : May l) (hr : Routes l r rs) (hat : AtOk l r rs at_) (hp : near.Perm rs) (ha : Asc nearLt near) (hd : near.Pairwise fun x y => x.To ≠ y.To) {vias : List (Int × List Int)} {i : Nat} (hi : i < near.length)
    (hl : ∀ t (h : t < i), ((mget vias (near[t]'(by omega)).To).getD []).length ≤ pad (PP l r at_ near (t + 1))) : ((inA l at_ r near[i].To).flatMap (bringV r vias)).length ≤ pad (PP l r at_ near (i + 1)) := by
  have hx : near[i] ∈ rs := hp.mem_iff.1 (List.getElem_mem hi)
  have hne : ∀ x ∈ near, inA l at_ r x.To ≠ [] := fun x h => inA_ne hm hr hat (hp.mem_iff.1 h)
  have hidx : ∀ t (h : t < near.length), near.findIdx (fun y => decide (y.To = near[t].To)) = t := fun t h => by
    refine (List.findIdx_eq h).2 ⟨by simp, fun j hj => ?_⟩
    have := List.pairwise_iff_getElem.1 hd j t (by omega) h hj
    simpa using this
  let q : S_api_Arc → Nat := fun a => if a.From = r then 0 else PP l r at_ near (near.findIdx (fun y => decide (y.To = a.From)) + 1)
  have hq : ∀ a ∈ inA l at_ r near[i].To, (a.From = r ∧ q a = 0) ∨ (a.From ≠ r ∧ ∃ t, ∃ h : t < i, (near[t]'(by omega)).To = a.From ∧ q a = PP l r at_ near (t + 1)) := fun a h => by
    rcases inA_from hm hr hat hx h with ⟨e, _⟩ | ⟨e, y, hy, e1, _, e3⟩
    · exact .inl ⟨e, if_pos e⟩
    · obtain ⟨t, ht, e4⟩ := near_before hp ha hi hy e3
      have e5 : (near[t]'(by omega)).To = a.From := by rw [e4, e1]
      refine .inr ⟨e, t, ht, e5, ?_⟩
      have := hidx t (by omega)
      rw [e5] at this
      simp only [q, if_neg e, this]
  have hnd : ((inA l at_ r near[i].To).map q).Nodup := by
    have hpw : (inA l at_ r near[i].To).Pairwise Lt2 := hm.2.sublist List.filter_sublist
    have hpw2 : (inA l at_ r near[i].To).Pairwise fun a b => q a ≠ q b := by
      refine hpw.imp_of_mem fun {a b} h1 h2 hab => ?_
      have t1 := (mem_inA.1 h1).2.1
      have t2 := (mem_inA.1 h2).2.1
      have hf : a.From ≠ b.From := by unfold Lt2 at hab; omega
      rcases hq a h1 with ⟨e1, q1⟩ | ⟨e1, s, hs, f1, q1⟩
      · rcases hq b h2 with ⟨e2, q2⟩ | ⟨e2, t, ht, f2, q2⟩
        · omega
        · have := PP_lt hne (show 0 < t + 1 by omega) (by omega)
          omega
      · rcases hq b h2 with ⟨e2, q2⟩ | ⟨e2, t, ht, f2, q2⟩
        · have := PP_lt hne (show 0 < s + 1 by omega) (by omega)
          omega
        · rcases Nat.lt_trichotomy s t with h | h | h
          · have := PP_lt hne (show s + 1 < t + 1 by omega) (by omega); omega
          · subst h; rw [← f1, ← f2] at hf; exact absurd rfl hf
          · have := PP_lt hne (show t + 1 < s + 1 by omega) (by omega); omega
    exact List.pairwise_map.2 hpw2
  have h1 : ((inA l at_ r near[i].To).flatMap (bringV r vias)).length ≤ ((inA l at_ r near[i].To).map (fun a => pad (q a))).sum := by
    rw [List.length_flatMap]
    refine sum_le fun a h => ?_
    unfold bringV
    rcases hq a h with ⟨e1, q1⟩ | ⟨e1, s, hs, f1, q1⟩
    · rw [if_pos e1, q1]; exact (by decide : 1 ≤ pad 0)
    · rw [if_neg e1, q1, ← f1]; exact hl s hs
  have h2 := pad_sum (PP l r at_ near i) _ hnd fun x h => by
    obtain ⟨a, h0, rfl⟩ := List.mem_map.1 h
    rcases hq a h0 with ⟨_, q1⟩ | ⟨_, s, hs, _, q1⟩
    · omega
    · rw [q1]
      rcases Nat.lt_or_ge (s + 1) i with h | h
      · exact Nat.le_of_lt (PP_lt hne h (by omega))
      · obtain rfl : s + 1 = i := by omega
        exact Nat.le_refl _
  rw [List.map_map, List.length_map] at h2
  have h3 := List.length_pos_iff.2 (hne near[i] (List.getElem_mem hi))
  obtain ⟨j, hj⟩ : ∃ j, (inA l at_ r near[i].To).length = j + 1 := ⟨_, (Nat.succ_pred_eq_of_pos h3).symm⟩
  rw [hj] at h2
  have h4 := padQ_le (PP l r at_ near i) j
  rw [PP_succ hi, hj]
  exact Nat.le_trans h1 (Nat.le_trans h2 h4)
/-- The loop over the nodes, the nearest first. -/
theorem ways_loop (hm : May l) (hl100 : l.length ≤ 100) (hr : Routes l r rs) (hat : AtOk l r rs at_) (hp : near.Perm rs) (ha : Asc nearLt near) (hd : near.Pairwise fun x y => x.To ≠ y.To) (hnz : Sz near) (hlz : Sz l) : ∀ (n i : Nat) (vias : List (Int × List Int)) (many : List (Int × Int)), i + n = near.length →
    (∀ t (h : t < i) (h' : t < near.length), (mget vias near[t].To).getD [] = (inA l at_ r near[t].To).flatMap (bringV r vias) ∧ (mget many near[t].To).getD 0 = ((inA l at_ r near[t].To).map (bringM r many)).foldl addS 0 ∧ ((mget vias near[t].To).getD []).length ≤ pad (PP l r at_ near (t + 1))) →
    (∀ t (h : i ≤ t) (h' : t < near.length), (mget vias near[t].To).getD [] = [] ∧ (mget many near[t].To).getD 0 = 0) → (∀ v, U64 ((mget many v).getD 0)) →
    ∃ vias' many', Ev (fun k => m55_l1 l r near at_ k vias many i) (vias', many') ∧ WaysOk l r rs at_ vias' many' := by
  intro n
  induction n with
  | zero =>
    intro i vias many h1 h2 h3 h4
    obtain rfl : i = near.length := by omega
    refine ⟨vias, many, Ev.succ (Ev.all fun k => by simp only [m55_l1]; rw [if_neg (by omega)]), ⟨fun x hx => ?_, fun x hx => ?_, h4, fun x hx => ?_⟩⟩ <;> obtain ⟨t, ht, rfl⟩ := List.getElem_of_mem (hp.mem_iff.2 hx)
    · exact (h2 t ht ht).1
    · exact (h2 t ht ht).2.1
    · refine Nat.le_trans (h2 t ht ht).2.2 (Nat.le_trans (pad_mono (Nat.le_trans (PP_le hd _) hl100)) pad_100)
  | succ n ih =>
    intro i vias many h1 h2 h3 h4
    have hi : i < near.length := by omega
    have hx : near[i] ∈ rs := hp.mem_iff.1 (List.getElem_mem hi)
    have hvl := via_len hm hr hat hp ha hd (vias := vias) hi fun t h => (h2 t h (by omega)).2.2
    obtain ⟨vias1, many1, e1, e2, e3, e4⟩ := join_loop hm hr hat hlz near[i] (hr.way _ hx).2 vias many h4 (h3 i (Nat.le_refl _) hi).1 (h3 i (Nat.le_refl _) hi).2 (Nat.le_trans hvl (Nat.le_trans (pad_mono (Nat.le_trans (PP_le hd _) hl100)) pad_100))
    have hdi : ∀ t (h' : t < near.length), t ≠ i → near[t].To ≠ near[i].To := fun t h' hne => by
      rcases Nat.lt_or_gt_of_ne hne with h | h
      · exact List.pairwise_iff_getElem.1 hd t i h' hi h
      · exact fun e => List.pairwise_iff_getElem.1 hd i t hi h' h e.symm
    -- the arcs to nodes that are nearer by, or just here, bring what they brought
    have hbr : ∀ t (h' : t < near.length), t ≤ i → ∀ a ∈ inA l at_ r near[t].To, bringV r vias1 a = bringV r vias a ∧ bringM r many1 a = bringM r many a := fun t h' hti a haa => by
      unfold bringV bringM
      have hy : near[t] ∈ rs := hp.mem_iff.1 (List.getElem_mem h')
      rcases inA_from hm hr hat hy haa with ⟨e, _⟩ | ⟨e, y, hy, f1, _, f3⟩
      · rw [if_pos e, if_pos e]; simp [e]
      · rw [if_neg e, if_neg e, if_neg e, if_neg e]
        obtain ⟨s, hs, f4⟩ := near_before hp ha h' hy f3
        have hne : a.From ≠ near[i].To := by
          rw [← f1, ← f4]; exact hdi s (by omega) (by omega)
        rw [(e2 _ hne).1, (e2 _ hne).2]
        exact ⟨rfl, rfl⟩
    have hfm : ∀ t (h' : t < near.length), t ≤ i → (inA l at_ r near[t].To).flatMap (bringV r vias1) = (inA l at_ r near[t].To).flatMap (bringV r vias) := fun t h' hti => by
      rw [List.flatMap_def, List.flatMap_def]
      congr 1
      exact List.map_congr_left fun a h => (hbr t h' hti a h).1
    have hmm : ∀ t (h' : t < near.length), t ≤ i → (inA l at_ r near[t].To).map (bringM r many1) = (inA l at_ r near[t].To).map (bringM r many) := fun t h' hti => List.map_congr_left fun a h => (hbr t h' hti a h).2
    have e4' : (mget many1 near[i].To).getD 0 = ((inA l at_ r near[i].To).map (bringM r many)).foldl addS 0 := by rw [e4, List.foldl_map]
    have hmu1 : ∀ v, U64 ((mget many1 v).getD 0) := fun v => by
      by_cases hv : v = near[i].To
      · rw [hv, e4']
        refine foldS_u _ _ (fun b hb => ?_) ⟨by omega, by omega⟩
        obtain ⟨a, _, rfl⟩ := List.mem_map.1 hb
        unfold bringM
        split
        · exact ⟨by omega, by omega⟩
        · exact h4 _
      · rw [(e2 v hv).2]; exact h4 v
    refine Exists.elim (ih (i + 1) vias1 many1 (by omega) (fun t ht h' => ?_) (fun t ht h' => ?_) hmu1) fun vias' g => ?_
    rotate_left 2
    · obtain ⟨many', g1, g2⟩ := g
      refine ⟨vias', many', Ev.succ ?_, g2⟩
      simp only [m55_l1]
      refine Ev.pos (by omega) (Ev.bnd (rdx_lt hi) (Ev.bind e1 ?_))
      rw [wrap_nat1 hnz hi]; exact g1
    · by_cases hti : t = i
      · subst hti
        rw [hfm t h' (Nat.le_refl _), hmm t h' (Nat.le_refl _), e3]
        exact ⟨rfl, e4', hvl⟩
      · have hne := hdi t h' hti
        rw [hfm t h' (by omega), hmm t h' (by omega), (e2 _ hne).1, (e2 _ hne).2]
        exact h2 t (by omega) h'
    · have hne := hdi t h' (by omega)
      rw [(e2 _ hne).1, (e2 _ hne).2]
      exact h3 t (by omega) h'
end
def wayOf (vias : List (Int × List Int)) (many : List (Int × Int)) (x : S_api_Route) : S_api_Ways := ⟨x.To, x.Cost, uniqP none (sortZ ((mget vias x.To).getD [])), (mget many x.To).getD 0⟩
theorem Routes.len {l : List S_api_Arc} {r : Int} {rs : List S_api_Route} (hm : May l) (hr : Routes l r rs) : rs.length ≤ 64 := by
  have := small_len (lt_nodup hr.asc) fun v hv => by
    obtain ⟨x, hx, rfl⟩ := List.mem_map.1 hv
    have := (hr.way x hx).1.pos hm
    omega
  simpa using this
/-- 'ecmp.All'. -/
theorem all_ev (l : List S_api_Arc) (hl : l.length ≤ 100) (hm : May l) (r : Int) : ∃ rs at_ vias many, Ev (fun k => m58 k l r) rs ∧ Routes l r rs ∧ AtOk l r rs at_ ∧ WaysOk l r rs at_ vias many ∧ Ev (fun k => m55 k l r) (rs.map (wayOf vias many)) := by
  obtain ⟨rs, r1, r2, _⟩ := routes_ev l (by omega) r
  have hr := r2 hm
  have hlen := hr.len hm
  have hz : Sz rs := by unfold Sz; omega
  have hlz : Sz l := by unfold Sz; omega
  obtain ⟨at_, a1, hat⟩ := at_ev l r rs hr hz
  obtain ⟨near, n1, n2, n3⟩ := sortF_ev (cmp := fun k x y => m115 k x y) (c := ncmp) (near_parts hr) (fun x _ y _ => ncmp_ev x y) (fun x _ y _ => ncmp_lt x y) (by omega)
  have hnl := n2.length_eq
  have hnz : Sz near := by unfold Sz; omega
  have hd : near.Pairwise fun x y => x.To ≠ y.To := by
    have h1 : (near.map (·.To)).Nodup := (n2.map _).nodup_iff.2 (lt_nodup hr.asc)
    exact List.pairwise_map.1 h1
  obtain ⟨vias, many, w1, w2⟩ := ways_loop hm hl hr hat n2 n3 hd hnz hlz near.length 0 [] [] (by omega) (fun t h => by omega) (fun t _ h => ⟨rfl, rfl⟩) (fun v => ⟨by simp [mget], by simp [mget]⟩)
  refine ⟨rs, at_, vias, many, r1, hr, hat, w2, Ev.bind r1 (Ev.bnd rfl (Ev.bind a1 (Ev.bnd (v := rs) ?_ (Ev.bind n1 (Ev.bind w1 (Ev.bind ?_ (Ev.pure _)))))))⟩
  · simp only [m113]
    rw [appd_ok (by simp; omega)]; rfl
  · have hds : rs.Pairwise fun x y => x.To ≠ y.To := (List.pairwise_map.1 hr.asc).imp fun h => by omega
    have loop : ∀ (n i : Nat) (hs : List Int), i + n = rs.length → (∀ t (h : i ≤ t) (h' : t < rs.length), rs[t].To ∉ hs) → Ev (fun k => m55_l3 (vias, many) rs k hs ((rs.take i).map (wayOf vias many)) i) (rs.map (wayOf vias many)) := by
      intro n
      induction n with
      | zero =>
        intro i hs h1 _
        obtain rfl : i = rs.length := by omega
        refine Ev.succ (Ev.all fun k => ?_)
        simp only [m55_l3]; rw [if_neg (by omega), List.take_length]
      | succ n ih =>
        intro i hs h1 h2
        have hi : i < rs.length := by omega
        have hxl := w2.len rs[i] (List.getElem_mem hi)
        refine Ev.succ ?_
        simp only [m55_l3]
        refine Ev.pos (by omega) (Ev.bnd (rdx_lt hi) (Ev.bnd (mgetO_ok (h2 i (Nat.le_refl _) hi)) (Ev.bnd (v := sortZ ((mget vias rs[i].To).getD [])) (if_pos (by omega)) (Ev.bnd (v := uniqP none (sortZ ((mget vias rs[i].To).getD []))) (if_pos ?_) (Ev.bnd rfl (Ev.bnd (v := (rs.take (i + 1)).map (wayOf vias many)) ?_ ?_))))))
        · rw [(sortZ_permS _).length_eq]; omega
        · rw [List.take_succ_eq_append_getElem hi, List.map_append, appd_ok (by simp; omega)]; rfl
        · rw [wrap_nat1 hz hi]
          refine ih (i + 1) _ (by omega) fun t h h' hmem => ?_
          rcases List.mem_cons.1 hmem with e | hmem
          · exact List.pairwise_iff_getElem.1 hds i t hi h' (by omega) e.symm
          · exact h2 t (by omega) h' hmem
    exact loop rs.length 0 [] (by omega) (fun t _ _ h => by cases h)
theorem uniqP_lt : ∀ (l : List Int) (p : Option Int), (∀ q, p = some q → ∀ x ∈ l, q ≤ x) → l.Pairwise (· ≤ ·) → (uniqP p l).Pairwise (· < ·) ∧ (∀ x, x ∈ uniqP p l ↔ x ∈ l ∧ p ≠ some x)
  | [], p, _, _ => ⟨List.Pairwise.nil, fun x => by simp [uniqP]⟩
  | y :: l, p, hp, h => by
    have h' := List.pairwise_cons.1 h
    obtain ⟨i1, i2⟩ := uniqP_lt l (some y) (fun q e x hx => by cases e; exact h'.1 x hx) h'.2
    simp only [uniqP]
    by_cases e : p = some y
    · rw [if_pos e]
      refine ⟨i1, fun x => ?_⟩
      rw [i2, e]
      constructor
      · exact fun ⟨h1, h2⟩ => ⟨List.mem_cons_of_mem _ h1, h2⟩
      · rintro ⟨h1, h2⟩
        rcases List.mem_cons.1 h1 with rfl | h1
        · exact absurd rfl h2
        · exact ⟨h1, h2⟩
    · rw [if_neg e]
      refine ⟨List.pairwise_cons.2 ⟨fun x hx => ?_, i1⟩, fun x => ?_⟩
      · obtain ⟨h1, h2⟩ := (i2 x).1 hx
        have := h'.1 x h1
        have : y ≠ x := fun e => h2 (by rw [e])
        omega
      · rw [List.mem_cons, i2]
        constructor
        · rintro (rfl | ⟨h1, h2⟩)
          · exact ⟨List.mem_cons_self .., e⟩
          · refine ⟨List.mem_cons_of_mem _ h1, fun e' => ?_⟩
            have h3 := hp x e' y (List.mem_cons_self ..)
            have h4 := h'.1 x h1
            have : x = y := by omega
            rw [this] at h2; exact h2 rfl
        · rintro ⟨h1, h2⟩
          rcases List.mem_cons.1 h1 with rfl | h1
          · exact .inl rfl
          · by_cases e' : x = y
            · exact .inl e'
            · exact .inr ⟨h1, fun e'' => e' (by cases e''; rfl)⟩
/-- One of the answer's. -/
theorem wayOf_spec {l : List S_api_Arc} {r : Int} {rs : List S_api_Route} {at_ : List (Int × Int)} {vias : List (Int × List Int)} {many : List (Int × Int)} (hm : May l) (hr : Routes l r rs) (hat : AtOk l r rs at_) (h : WaysOk l r rs at_ vias many) {x : S_api_Route} (hx : x ∈ rs) :
    (wayOf vias many x).Via.Pairwise (· < ·) ∧ (∀ w, w ∈ (wayOf vias many x).Via ↔ Way l r x.To w x.Cost) ∧ (wayOf vias many x).Via.length ≤ 64 ∧ ((wayOf vias many x).Via.length : Int) ≤ (wayOf vias many x).Many ∧ U64 (wayOf vias many x).Many := by
  obtain ⟨h1, h2⟩ := uniqP_lt (sortZ ((mget vias x.To).getD [])) none (fun q e => by cases e) (sortZ_sorted _)
  have h3 : ∀ w, w ∈ (wayOf vias many x).Via ↔ Way l r x.To w x.Cost := fun w => by
    show w ∈ uniqP none _ ↔ _
    rw [h2, mem_sortZ, h.mem hm hr hat _ x hx (Nat.le_refl _)]
    simp
  have h4 : (wayOf vias many x).Via.length ≤ 64 := small_len (lt_nodup h1) fun w hw => by
    have := ((h3 w).1 hw).pos hm; omega
  refine ⟨h1, h3, h4, ?_, h.u _⟩
  exact h.ge hm hr hat _ x hx (Nat.le_refl _) _ (lt_nodup h1) h4 fun w hw => (h.mem hm hr hat _ x hx (Nat.le_refl _) w).2 ((h3 w).1 hw)
end Go.Proofs.Ytbielnhpfbhkgaa
