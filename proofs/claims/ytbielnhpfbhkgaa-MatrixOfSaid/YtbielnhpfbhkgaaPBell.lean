/- Plain facts on the reference's distances ('waymarkref25.From'): they are those of 'spf.Routes'. -/
import Derived.Test.YtbielnhpfbhkgaaPEcmp3
import Derived.Test.YtbielnhpfbhkgaaR0
set_option linter.unusedVariables false
set_option linter.unusedSimpArgs false
namespace Go.Proofs.Ytbielnhpfbhkgaa
open Go Go.RowKit

abbrev DSt := (Nat → Int) × (Nat → Bool)
def condR (s : DSt) (a : S_api_Arc) : Bool := s.2 a.From.toNat && (!s.2 a.To.toNat || decide (addS (s.1 a.From.toNat) a.Cost < s.1 a.To.toNat))
def relax (s : DSt) (a : S_api_Arc) : DSt := if condR s a = true then (upd s.1 a.To (addS (s.1 a.From.toNat) a.Cost), upd s.2 a.To true) else s
/-- What holds of the distances while they are sought. -/
structure BInv (r : Int) (rs : List S_api_Route) (s : DSt) : Prop where mk ::
  u : ∀ v, U64 (s.1 v)
  root : s.2 r.toNat = true ∧ s.1 r.toNat = 0
  low : ∀ v : Int, 0 ≤ v → v < 65 → s.2 v.toNat = true → v = r ∨ ∃ x ∈ rs, x.To = v ∧ x.Cost ≤ s.1 v.toNat
def Fin_ (s : DSt) (x : S_api_Route) : Prop := s.2 x.To.toNat = true ∧ s.1 x.To.toNat = x.Cost
section
variable {l : List S_api_Arc} {r : Int} {rs near : List S_api_Route} {at_ : List (Int × Int)} {s : DSt}
theorem Routes.to_in (hm : May l) (hr : Routes l r rs) {x : S_api_Route} (hx : x ∈ rs) : 1 ≤ x.To ∧ x.To ≤ 64 ∧ 1 ≤ x.Cost ∧ x.Cost ≤ 69793218560 := by
  have := (hr.way x hx).1.pos hm
  have := hr.bnd x hx
  omega
/-- What an arc would give is not too little. -/
theorem BInv.newlow (hm : May l) (hr : Routes l r rs) (h1 : 1 ≤ r ∧ r ≤ 64) (h : BInv r rs s) {a : S_api_Arc} (ha : a ∈ l) (hf : s.2 a.From.toNat = true) (hne : a.To ≠ r) : ∃ x ∈ rs, x.To = a.To ∧ x.Cost ≤ addS (s.1 a.From.toNat) a.Cost := by
  have hok := hm.1 a ha
  unfold OkA at hok
  rcases h.low a.From (by omega) (by omega) hf with e | ⟨y, hy, e, hc⟩
  · obtain ⟨x, hx, e2, hle⟩ := hr.all _ _ _ (Way.one ha e) hne
    have hb := hr.to_in hm hx
    refine ⟨x, hx, e2, ?_⟩
    rw [e, h.root.2]
    unfold lexle at hle
    unfold addS
    split <;> omega
  · obtain ⟨x, hx, e2, hle⟩ := hr.all _ _ _ (Way.more (hr.way y hy).1 ha e.symm) hne
    have hb := hr.to_in hm hx
    refine ⟨x, hx, e2, ?_⟩
    unfold lexle at hle
    unfold addS
    split <;> omega
theorem BInv.noroot (hm : May l) (h : BInv r rs s) {a : S_api_Arc} (ha : a ∈ l) (hc : condR s a = true) : a.To ≠ r := by
  have hok := hm.1 a ha
  unfold OkA at hok
  intro e
  have hu := h.u a.From.toNat
  unfold U64 at hu
  simp only [condR, Bool.and_eq_true, Bool.or_eq_true, Bool.not_eq_true', decide_eq_true_eq] at hc
  rw [e, h.root.1, h.root.2] at hc
  rcases hc.2 with h' | h'
  · cases h'
  · unfold addS at h'
    split at h' <;> omega
theorem BInv.relax (hm : May l) (hr : Routes l r rs) (h1 : 1 ≤ r ∧ r ≤ 64) (h : BInv r rs s) {a : S_api_Arc} (ha : a ∈ l) : BInv r rs (Go.Proofs.Ytbielnhpfbhkgaa.relax s a) := by
  have hok := hm.1 a ha
  unfold OkA at hok
  unfold Go.Proofs.Ytbielnhpfbhkgaa.relax
  by_cases hc : condR s a = true
  · rw [if_pos hc]
    have hne := h.noroot hm ha hc
    have hf : s.2 a.From.toNat = true := by
      simp only [condR, Bool.and_eq_true] at hc; exact hc.1
    obtain ⟨x, hx, e, hle⟩ := h.newlow hm hr h1 ha hf hne
    have hu : U64 (addS (s.1 a.From.toNat) a.Cost) := addS_u (h.u _) ⟨by omega, by omega⟩
    refine ⟨fun v => ?_, ?_, fun v v0 v1 hv => ?_⟩
    · simp only [upd]
      split
      · exact hu
      · exact h.u v
    · simp only [upd]
      rw [if_neg (by omega), if_neg (by omega)]
      exact h.root
    · simp only [upd] at hv ⊢
      by_cases e' : v.toNat = a.To.toNat
      · rw [if_pos e']
        exact .inr ⟨x, hx, by omega, hle⟩
      · rw [if_neg e'] at hv ⊢
        exact h.low v v0 v1 hv
  · rw [if_neg hc]; exact h
theorem BInv.fold (hm : May l) (hr : Routes l r rs) (h1 : 1 ≤ r ∧ r ≤ 64) : ∀ (xs : List S_api_Arc), (∀ a ∈ xs, a ∈ l) → ∀ (s : DSt), BInv r rs s → BInv r rs (xs.foldl Go.Proofs.Ytbielnhpfbhkgaa.relax s)
  | [], _, s, h => h
  | a :: xs, hs, s, h => BInv.fold hm hr h1 xs (fun b hb => hs b (List.mem_cons_of_mem _ hb)) _ (h.relax hm hr h1 (hs a (List.mem_cons_self ..)))
theorem fin_relax (hm : May l) (hr : Routes l r rs) (h1 : 1 ≤ r ∧ r ≤ 64) (h : BInv r rs s) {x : S_api_Route} (hx : x ∈ rs) (hF : Fin_ s x) {a : S_api_Arc} (ha : a ∈ l) : Fin_ (relax s a) x := by
  have hok := hm.1 a ha
  unfold OkA at hok
  unfold relax
  by_cases hc : condR s a = true
  · rw [if_pos hc]
    have hne := h.noroot hm ha hc
    have hb := hr.to_in hm hx
    have hc' := hc
    simp only [condR, Bool.and_eq_true, Bool.or_eq_true, Bool.not_eq_true', decide_eq_true_eq] at hc'
    obtain ⟨y, hy, e, hle⟩ := h.newlow hm hr h1 ha hc'.1 hne
    by_cases e' : x.To.toNat = a.To.toNat
    · have : x.To = a.To := by omega
      have hyx := hr.same hy hx (by rw [e, this])
      subst hyx
      rw [← e', hF.1, hF.2] at hc'
      rcases hc'.2 with h' | h'
      · cases h'
      · omega
    · unfold Fin_
      simp only [upd]
      rw [if_neg e', if_neg e']; exact hF
  · rw [if_neg hc]; exact hF
theorem fin_fold (hm : May l) (hr : Routes l r rs) (h1 : 1 ≤ r ∧ r ≤ 64) {x : S_api_Route} (hx : x ∈ rs) : ∀ (xs : List S_api_Arc), (∀ a ∈ xs, a ∈ l) → ∀ (s : DSt), BInv r rs s → Fin_ s x → Fin_ (xs.foldl relax s) x
  | [], _, s, _, hF => hF
  | a :: xs, hs, s, h, hF => fin_fold hm hr h1 hx xs (fun b hb => hs b (List.mem_cons_of_mem _ hb)) _ (h.relax hm hr h1 (hs a (List.mem_cons_self ..))) (fin_relax hm hr h1 h hx hF (hs a (List.mem_cons_self ..)))
theorem fin_get (hm : May l) (hr : Routes l r rs) (h1 : 1 ≤ r ∧ r ≤ 64) (hat : AtOk l r rs at_) (h : BInv r rs s) {x : S_api_Route} (hx : x ∈ rs) {a : S_api_Arc} (ha : a ∈ inA l at_ r x.To) (hfrom : ∀ y ∈ rs, y.To = a.From → Fin_ s y) : Fin_ (relax s a) x := by
  obtain ⟨hal, hto, _⟩ := mem_inA.1 ha
  have hok := hm.1 a hal
  unfold OkA at hok
  have hb := hr.to_in hm hx
  have hfc : s.2 a.From.toNat = true ∧ addS (s.1 a.From.toNat) a.Cost = x.Cost := by
    rcases inA_from hm hr hat hx ha with ⟨e, e2⟩ | ⟨e, y, hy, e1, e2, _⟩
    · rw [e, h.root.1, h.root.2, ← e2]
      refine ⟨rfl, ?_⟩
      unfold addS; rw [if_pos (by omega)]; omega
    · have hF := hfrom y hy e1
      unfold Fin_ at hF
      rw [e1] at hF
      rw [hF.1, hF.2, ← e2]
      refine ⟨rfl, ?_⟩
      unfold addS; rw [if_pos (by omega)]
  unfold relax
  by_cases hc : condR s a = true
  · rw [if_pos hc]
    unfold Fin_
    simp only [upd]
    rw [if_pos (by rw [hto]), if_pos (by rw [hto])]
    exact ⟨rfl, hfc.2⟩
  · rw [if_neg hc]
    have hc' : condR s a = false := by simpa using hc
    simp only [condR, hfc.1, Bool.true_and, Bool.or_eq_false_iff, Bool.not_eq_false', decide_eq_false_iff_not] at hc'
    rw [hfc.2, hto] at hc'
    refine ⟨hc'.1, ?_⟩
    rcases h.low x.To (by omega) (by omega) hc'.1 with e | ⟨y, hy, e, hle⟩
    · exact absurd e (hr.way x hx).2
    · rw [hr.same hy hx e] at hle; omega
/-- A round: one more stands for good. -/
theorem fin_round (hm : May l) (hr : Routes l r rs) (h1 : 1 ≤ r ∧ r ≤ 64) (hat : AtOk l r rs at_) (hp : near.Perm rs) (ha : Asc nearLt near) (h : BInv r rs s) {j : Nat} (hj : j < near.length) (hF : ∀ t (ht : t < j), Fin_ s (near[t]'(by omega))) : Fin_ (l.foldl relax s) near[j] := by
  have hx : near[j] ∈ rs := hp.mem_iff.1 (List.getElem_mem hj)
  obtain ⟨a, haA⟩ := List.exists_mem_of_ne_nil _ (inA_ne hm hr hat hx)
  have hal := (mem_inA.1 haA).1
  obtain ⟨l1, l2, e⟩ := List.append_of_mem hal
  have s1 : ∀ b ∈ l1, b ∈ l := fun b hb => by rw [e]; simp [hb]
  have s2 : ∀ b ∈ l2, b ∈ l := fun b hb => by rw [e]; simp [hb]
  have hB1 := BInv.fold hm hr h1 l1 s1 s h
  have hfin : Fin_ (relax (l1.foldl relax s) a) near[j] := fin_get hm hr h1 hat hB1 hx haA fun y hy ey => by
    rcases inA_from hm hr hat hx haA with ⟨e1, _⟩ | ⟨_, z, hz, e2, _, e3⟩
    · exact absurd (ey.trans e1) (hr.way y hy).2
    · have hyz := hr.same hy hz (by rw [ey, e2])
      subst hyz
      obtain ⟨t, ht, e4⟩ := near_before hp ha hj hy e3
      have := hF t ht
      rw [e4] at this
      exact fin_fold hm hr h1 hy l1 s1 s h this
  have := fin_fold hm hr h1 hx l2 s2 _ (hB1.relax hm hr h1 hal) hfin
  have e5 : l.foldl relax s = l2.foldl relax (relax (l1.foldl relax s) a) := by
    conv => lhs; rw [e]
    rw [List.foldl_append, List.foldl_cons]
  rw [e5]; exact this
theorem fold_same : ∀ (xs : List S_api_Arc) (s : DSt) (b : Bool), (xs.foldl (fun (p : DSt × Bool) a => (relax p.1 a, p.2 || condR p.1 a)) (s, b)).2 = false → xs.foldl relax s = s ∧ b = false
  | [], s, b, h => ⟨rfl, h⟩
  | a :: xs, s, b, h => by
    simp only [List.foldl_cons] at h
    obtain ⟨h1, h2⟩ := fold_same xs _ _ h
    rw [Bool.or_eq_false_iff] at h2
    have : relax s a = s := by unfold relax; rw [if_neg (by rw [h2.2]; simp)]
    rw [List.foldl_cons]
    rw [this] at h1 ⊢
    exact ⟨h1, h2.1⟩
theorem fold_fst : ∀ (xs : List S_api_Arc) (s : DSt) (b : Bool), (xs.foldl (fun (p : DSt × Bool) a => (relax p.1 a, p.2 || condR p.1 a)) (s, b)).1 = xs.foldl relax s
  | [], _, _ => rfl
  | a :: xs, s, b => by simp only [List.foldl_cons]; exact fold_fst xs _ _
/-- One round of the code. -/
theorem round_ev (hm : May l) (hlz : Sz l) (s : DSt) (hu : ∀ v, U64 (s.1 v)) : Ev (fun k => m90_l1 l k s.1 s.2 false 0) ((l.foldl (fun (p : DSt × Bool) a => (relax p.1 a, p.2 || condR p.1 a)) (s, false)).2, l.foldl relax s) := by
  have := ev_list0 (xs := l) hlz (L := fun k (p : DSt × Bool) i => m90_l1 l k p.1.1 p.1.2 p.2 i) (fun (p : DSt × Bool) a => (relax p.1 a, p.2 || condR p.1 a)) (fun p => (p.2, p.1)) (fun _ p => ∀ v, U64 (p.1.1 v)) (fun i hi p hv => ?_) (fun p _ => ?_) (s, false) hu
  · rw [fold_fst] at this; exact this
  · have hok := hm.1 _ (List.getElem_mem hi)
    unfold OkA at hok
    have hn : U64 (addS (p.1.1 l[i].From.toNat) l[i].Cost) := addS_u (hv _) ⟨by omega, by omega⟩
    refine ⟨fun v => ?_, fun o h => ?_⟩
    · simp only [relax]
      split
      · simp only [upd]
        split
        · exact hn
        · exact hv v
      · exact hv v
    · refine Ev.succ ?_
      simp only [m90_l1]
      refine Ev.pos (by omega) (Ev.bnd (rdx_lt hi) (Ev.pos (by omega) (Ev.bnd (v := addS (p.1.1 l[i].From.toNat) l[i].Cost) (by rw [wrapu_id (by omega) (by omega)]; exact addR_eq (hv _) ⟨by omega, by omega⟩) (Ev.bind (v := condR p.1 l[i]) ?_ (Ev.bind (v := ((relax p.1 l[i]).1, (relax p.1 l[i]).2, p.2 || condR p.1 l[i])) ?_ ?_)))))
      · refine Ev.pos (by omega) ?_
        simp only [condR]
        cases h1 : p.1.2 l[i].From.toNat with
        | false => exact Ev.neg (by simp) (Ev.pure _)
        | true =>
          refine Ev.pos rfl (Ev.pos (by omega) ?_)
          cases h2 : p.1.2 l[i].To.toNat with
          | false => exact Ev.neg (by simp) (Ev.pure _)
          | true => exact Ev.pos rfl (Ev.pos (by omega) (Ev.of (by simp)))
      · by_cases hc : condR p.1 l[i] = true
        · have e : relax p.1 l[i] = (upd p.1.1 l[i].To (addS (p.1.1 l[i].From.toNat) l[i].Cost), upd p.1.2 l[i].To true) := if_pos hc
          rw [e]
          exact Ev.pos hc (Ev.pos (by omega) (Ev.pos (by omega) (Ev.of (by simp [hc]))))
        · have e : relax p.1 l[i] = p.1 := if_neg hc
          rw [e]
          exact Ev.neg hc (Ev.of (by simp [Bool.eq_false_iff.2 hc]))
      · rw [wrap_nat1 hlz hi]; exact h
  · refine Ev.succ (Ev.all fun k => ?_)
    simp only [m90_l1]; rw [if_neg (by omega)]
end
/-- The reference's distances. -/
structure DistOk (r : Int) (rs : List S_api_Route) (s : DSt) : Prop where mk ::
  u : ∀ v, U64 (s.1 v)
  root : s.2 r.toNat = true ∧ s.1 r.toNat = 0
  is : ∀ v : Int, 0 ≤ v → v < 65 → (s.2 v.toNat = true ↔ v = r ∨ ∃ x ∈ rs, x.To = v)
  cost : ∀ x ∈ rs, s.1 x.To.toNat = x.Cost
theorem dist_ev (l : List S_api_Arc) (hl : l.length ≤ 5000) (hm : May l) (r : Int) (h1 : 1 ≤ r ∧ r ≤ 64) {rs : List S_api_Route} (hr : Routes l r rs) : ∃ s : DSt, Ev (fun k => m90 k l r) s ∧ DistOk r rs s := by
  have hlen := hr.len hm
  have hz : Sz rs := by unfold Sz; omega
  have hlz : Sz l := by unfold Sz; omega
  obtain ⟨at_, a1, hat⟩ := at_ev l r rs hr hz
  obtain ⟨near, n1, n2, n3⟩ := sortF_ev (cmp := fun k x y => m115 k x y) (c := ncmp) (near_parts hr) (fun x _ y _ => ncmp_ev x y) (fun x _ y _ => ncmp_lt x y) (by omega)
  have hnl := n2.length_eq
  have good : ∀ s, BInv r rs s → (∀ t (h' : t < near.length), Fin_ s near[t]) → DistOk r rs s := fun s hB hF => by
    have hall : ∀ x ∈ rs, Fin_ s x := fun x hx => by
      obtain ⟨t, ht, e⟩ := List.getElem_of_mem (n2.mem_iff.2 hx)
      rw [← e]; exact hF t ht
    refine ⟨hB.u, hB.root, fun v v0 v1 => ⟨fun h => ?_, fun h => ?_⟩, fun x hx => (hall x hx).2⟩
    · rcases hB.low v v0 v1 h with e | ⟨x, hx, e, _⟩
      · exact .inl e
      · exact .inr ⟨x, hx, e⟩
    · rcases h with e | ⟨x, hx, e⟩
      · rw [e]; exact hB.root.1
      · rw [← e]; exact (hall x hx).1
  have loop : ∀ (n y : Nat) (s : DSt), y + n = 65 → BInv r rs s → (∀ t (h : t < y) (h' : t < near.length), Fin_ s near[t]) → ∃ s', DistOk r rs s' ∧ ∃ o, Ev (fun k => m90_l0 l k s.1 s.2 y) o ∧ (o = .ret s' ∨ o = .go s') := by
    intro n
    induction n with
    | zero =>
      intro y s h hB hF
      refine ⟨s, good s hB fun t h' => hF t (by omega) h', .go s, Ev.succ (Ev.all fun k => ?_), .inr rfl⟩
      simp only [m90_l0]; rw [if_neg (by omega)]
    | succ n ih =>
      intro y s h hB hF
      have hB' := BInv.fold hm hr h1 l (fun a ha => ha) s hB
      have hre := round_ev hm hlz s hB.u
      cases hb : (l.foldl (fun (p : DSt × Bool) a => (relax p.1 a, p.2 || condR p.1 a)) (s, false)).2 with
      | true =>
        rw [hb] at hre
        obtain ⟨s', d, o, o1, o2⟩ := ih (y + 1) (l.foldl relax s) (by omega) hB' fun t ht h' => by
          rcases Nat.lt_or_ge t y with h2 | h2
          · exact fin_fold hm hr h1 (n2.mem_iff.1 (List.getElem_mem h')) l (fun a ha => ha) s hB (hF t h2 h')
          · obtain rfl : t = y := by omega
            exact fin_round hm hr h1 hat n2 n3 hB h' fun t' ht' => hF t' ht' (by omega)
        refine ⟨s', d, o, Ev.succ ?_, o2⟩
        simp only [m90_l0]
        refine Ev.pos (by omega) (Ev.bind hre (Ev.pos rfl ?_))
        rw [show IntKind.i64.wrap ((y : Int) + 1) = ((y + 1 : Nat) : Int) from by rw [wrap_id (by omega) (by omega)]; omega]
        exact o1
      | false =>
        rw [hb] at hre
        have hsame := (fold_same l s false hb).1
        rw [hsame] at hre
        have hall : ∀ (j t : Nat), t < j → ∀ h' : t < near.length, Fin_ s near[t] := by
          intro j
          induction j with
          | zero => intro t h; omega
          | succ j ihj =>
            intro t ht h'
            rcases Nat.lt_or_ge t j with h2 | h2
            · exact ihj t h2 h'
            · obtain rfl : t = j := by omega
              have := fin_round hm hr h1 hat n2 n3 hB h' fun t' ht' => ihj t' ht' (by omega)
              rw [hsame] at this; exact this
        refine ⟨s, good s hB fun t h' => hall (t + 1) t (by omega) h', .ret s, Ev.succ ?_, .inl rfl⟩
        simp only [m90_l0]
        exact Ev.pos (by omega) (Ev.bind hre (Ev.neg (by simp) (Ev.pure _)))
  obtain ⟨s', d, o, o1, o2⟩ := loop 65 0 ((fun _ => 0), upd (fun _ => false) r true) (by omega) ⟨fun v => ⟨by simp, by simp⟩, ⟨by simp [upd], rfl⟩, fun v v0 v1 hv => by
    simp only [upd] at hv
    split at hv
    · exact .inl (by omega)
    · cases hv⟩ (fun t h => by omega)
  refine ⟨s', Ev.bind (v := false) (Ev.neg (by omega) (Ev.of (by simp; omega))) (Ev.neg (by simp) (Ev.pos (by omega) (Ev.bind o1 ?_))), d⟩
  rcases o2 with e | e <;> subst e <;> exact Ev.pure _
end Go.Proofs.Ytbielnhpfbhkgaa
