/- The plain law of EcmpAll: of each node the first hops of all least ways, and how many ways there are, as the reference has them. -/
import Derived.Test.YtbielnhpfbhkgaaArgsEcmpAll
import Derived.Test.YtbielnhpfbhkgaaPBell
import Derived.KernelRfl
set_option linter.unusedVariables false
set_option linter.unusedSimpArgs false
namespace Go.Proofs.Ytbielnhpfbhkgaa
open Go Go.RowKit

theorem awake54 : Ev (fun k => m54 k) true := ⟨60, fun k hk => by
  obtain ⟨j, rfl⟩ : ∃ j, k = j + 60 := ⟨k - 60, by omega⟩
  kernel_rfl⟩
section
variable {l : List S_api_Arc} {r : Int} {rs : List S_api_Route} {at_ : List (Int × Int)} {vias : List (Int × List Int)} {many : List (Int × Int)} {d : DSt}
theorem May.uniq (hm : May l) {a b : S_api_Arc} (ha : a ∈ l) (hb : b ∈ l) (hf : a.From = b.From) (ht : a.To = b.To) : a = b := by
  obtain ⟨i, hi, e1⟩ := List.getElem_of_mem ha
  obtain ⟨j, hj, e2⟩ := List.getElem_of_mem hb
  rcases Nat.lt_trichotomy i j with h | h | h
  · have := List.pairwise_iff_getElem.1 hm.2 i j hi hj h
    rw [e1, e2] at this
    unfold Lt2 at this; omega
  · subst h; rw [← e1, ← e2]
  · have := List.pairwise_iff_getElem.1 hm.2 j i hj hi h
    rw [e1, e2] at this
    unfold Lt2 at this; omega
/-- A way's first arc. -/
theorem Way.head {v via c : Int} (h : Way l r v via c) : ∃ a ∈ l, a.From = r ∧ a.To = via ∧ ((v = via ∧ c = a.Cost) ∨ ∃ via', Way l via v via' (c - a.Cost)) := by
  induction h with
  | @one a ha hf => exact ⟨a, ha, hf, rfl, .inl ⟨rfl, rfl⟩⟩
  | @more v via c b h hb hf ih =>
    obtain ⟨a, ha, e1, e2, e3⟩ := ih
    refine ⟨a, ha, e1, e2, .inr ?_⟩
    rcases e3 with ⟨e4, e5⟩ | ⟨via', hw⟩
    · refine ⟨b.To, ?_⟩
      rw [e5, show a.Cost + b.Cost - a.Cost = b.Cost by omega]
      exact Way.one hb (by rw [hf, e4])
    · refine ⟨via', ?_⟩
      rw [show c + b.Cost - a.Cost = (c - a.Cost) + b.Cost by omega]
      exact Way.more hw hb hf
theorem Way.cons {a : S_api_Arc} (ha : a ∈ l) (hf : a.From = r) {s v via c : Int} (h : Way l s v via c) (hs : s = a.To) : Way l r v a.To (a.Cost + c) := by
  induction h with
  | @one b hb hfb => exact Way.more (Way.one ha hf) hb (by rw [hfb, hs])
  | @more v via c b h hb hfb ih =>
    rw [← Int.add_assoc]
    exact Way.more ih hb hfb
/-- The reference counts as many. -/
theorem many_ev (hm : May l) (hlz : Sz l) (h1 : 1 ≤ r ∧ r ≤ 64) (hr : Routes l r rs) (hat : AtOk l r rs at_) (hw : WaysOk l r rs at_ vias many) (hd : DistOk r rs d) : ∀ (n : Nat) (x : S_api_Route), x ∈ rs → x.Cost.toNat ≤ n → Ev (fun k => m121 k l d r x.To) ((mget many x.To).getD 0) := by
  have hroot : Ev (fun k => m121 k l d r r) 1 := by
    refine Ev.succ ?_
    simp only [m121, m121b]
    exact Ev.pos trivial (Ev.pure _)
  intro n
  induction n with
  | zero =>
    intro x hx hn
    have := hr.to_in hm hx
    omega
  | succ n ih =>
    intro x hx hn
    have hb := hr.to_in hm hx
    have hxr := (hr.way x hx).2
    let p : S_api_Arc → Bool := fun a => decide (a.To = x.To) && onB at_ r a
    let step : Int → S_api_Arc → Int := fun s a => if p a = true then addS s (bringM r many a) else s
    have hbu : ∀ a, U64 (bringM r many a) := fun a => by
      unfold bringM
      split
      · exact ⟨by omega, by omega⟩
      · exact hw.u _
    have hloop := ev2_list (xs := l) (L := fun j k (s : Int) i => m121_l0 (m121 j) l d r x.To k s i) step (fun s => s) (fun _ s => U64 s) (fun i hi s hs => ?_) (fun s hs => ?_) l.length 0 0 (by omega) ⟨by omega, by omega⟩
    · have e : (l.drop 0).foldl step 0 = (mget many x.To).getD 0 := by
        rw [List.drop_zero, hw.m x hx, List.foldl_map]
        simp only [inA]
        rw [List.foldl_filter]
      rw [e] at hloop
      refine Ev.succ ?_
      simp only [m121, m121b]
      exact Ev.neg hxr (Ev.bind hloop.diag (Ev.pure _))
    · have ha := List.getElem_mem hi
      have hok := hm.1 _ ha
      unfold OkA at hok
      refine ⟨?_, fun o h => ?_⟩
      · simp only [step]
        split
        · exact addS_u hs (hbu _)
        · exact hs
      · refine Ev2.succ ?_
        simp only [m121_l0]
        refine Ev2.pos (by omega) (Ev2.bnd (rdx_lt hi) (Ev2.bind (v := p l[i]) ?_ (Ev2.bind (v := step s l[i]) ?_ ?_)))
        · by_cases ht : l[i].To = x.To
          · refine Ev2.pos ht (Ev2.pos (by omega) ?_)
            cases hf : d.2 l[i].From.toNat with
            | false =>
              refine Ev2.neg (by simp) (Ev2.of ?_)
              have : p l[i] = false := by
                simp only [p, Bool.and_eq_false_iff]
                refine .inr (Bool.eq_false_iff.2 fun hon => ?_)
                rcases (on_iff hm hr hat ha hx ht).1 hon with ⟨e, _⟩ | ⟨y, hy, e, _⟩
                · have := (hd.is l[i].From (by omega) (by omega)).2 (.inl e)
                  rw [hf] at this; cases this
                · have := (hd.is l[i].From (by omega) (by omega)).2 (.inr ⟨y, hy, e⟩)
                  rw [hf] at this; cases this
              rw [this]
            | true =>
              refine Ev2.pos rfl (Ev2.pos (by omega) (Ev2.bnd (v := addS (d.1 l[i].From.toNat) l[i].Cost) (by rw [wrapu_id (by omega) (by omega)]; exact addR_eq (hd.u _) ⟨by omega, by omega⟩) (Ev2.pos (by omega) (Ev2.of ?_))))
              rw [hd.cost x hx]
              have key : (addS (d.1 l[i].From.toNat) l[i].Cost = x.Cost) ↔ onB at_ r l[i] = true := by
                rw [on_iff hm hr hat ha hx ht]
                constructor
                · intro e
                  rcases (hd.is l[i].From (by omega) (by omega)).1 hf with e1 | ⟨y, hy, e1⟩
                  · left
                    rw [e1, hd.root.2] at e
                    unfold addS at e
                    rw [if_pos (by omega)] at e
                    exact ⟨e1, by omega⟩
                  · right
                    have hy1 := hr.to_in hm hy
                    rw [← e1, hd.cost y hy] at e
                    unfold addS at e
                    rw [if_pos (by omega)] at e
                    exact ⟨y, hy, e1, e⟩
                · rintro (⟨e1, e2⟩ | ⟨y, hy, e1, e2⟩)
                  · rw [e1, hd.root.2]
                    unfold addS
                    rw [if_pos (by omega)]; omega
                  · have hy1 := hr.to_in hm hy
                    rw [← e1, hd.cost y hy]
                    unfold addS
                    rw [if_pos (by omega)]; omega
              congr 1
              rw [Bool.eq_iff_iff, decide_eq_true_eq, key]
              simp [p, ht]
          · refine Ev2.neg ht (Ev2.of ?_)
            simp [p, ht]
        · by_cases hp : p l[i] = true
          · have e : step s l[i] = addS s (bringM r many l[i]) := if_pos hp
            rw [e]
            refine Ev2.pos hp ?_
            have hin : l[i] ∈ inA l at_ r x.To := List.mem_filter.2 ⟨ha, hp⟩
            have hbr : Ev (fun k => m121 k l d r l[i].From) (bringM r many l[i]) := by
              unfold bringM
              rcases inA_from hm hr hat hx hin with ⟨e1, _⟩ | ⟨e1, y, hy, e2, e3, e4⟩
              · rw [if_pos e1, e1]; exact hroot
              · rw [if_neg e1, ← e2]
                exact ih y hy (by omega)
            exact Ev2.bind (Ev2.left hbr) (Ev2.bnd (addR_eq hs (hbu _)) (Ev2.pure _))
          · have e : step s l[i] = s := if_neg hp
            rw [e]
            exact Ev2.neg hp (Ev2.pure _)
        · rw [wrap_nat1 hlz hi]; exact h
    · refine Ev2.succ ?_
      simp only [m121_l0]
      exact Ev2.neg (by omega) (Ev2.pure _)
theorem foldl_map_app {α β : Type} (g : α → β) : ∀ (xs : List α) (acc : List β), xs.foldl (fun s x => s ++ [g x]) acc = acc ++ xs.map g
  | [], acc => by simp
  | x :: xs, acc => by simp only [List.foldl_cons, List.map_cons]; rw [foldl_map_app g xs]; simp
/-- The reference's first hops. -/
theorem vias_ev (hm : May l) (hl : l.length ≤ 5000) (h1 : 1 ≤ r ∧ r ≤ 64) (hr : Routes l r rs) (hat : AtOk l r rs at_) (hw : WaysOk l r rs at_ vias many) (hd : DistOk r rs d) {x : S_api_Route} (hx : x ∈ rs) : Ev (fun k => m57_l1 l r d x.To k [] 0) (wayOf vias many x).Via := by
  have hlz : Sz l := by unfold Sz; omega
  have hb := hr.to_in hm hx
  have hxr := (hr.way x hx).2
  have least : ∀ via c, Way l r x.To via c → x.Cost ≤ c := fun via c h => by
    obtain ⟨y, hy, e, hle⟩ := hr.all _ _ _ h hxr
    rw [hr.same hy hx e] at hle
    unfold lexle at hle; omega
  let p : S_api_Arc → Bool := fun a => @decide (a.From = r ∧ Way l r x.To a.To x.Cost) (Classical.propDecidable _)
  have hp : ∀ a, p a = true ↔ a.From = r ∧ Way l r x.To a.To x.Cost := fun a => by simp only [p, decide_eq_true_eq]
  let step : List Int → S_api_Arc → List Int := fun s a => if p a = true then s ++ [a.To] else s
  have hloop := ev_list0 (xs := l) hlz (L := fun k (s : List Int) i => m57_l1 l r d x.To k s i) step (fun s => s) (fun i s => s.length ≤ i) (fun i hi s hs => ?_) (fun s hs => ?_) [] (Nat.le_refl _)
  · have e : l.foldl step [] = (wayOf vias many x).Via := by
      have e1 : l.foldl step [] = (l.filter p).map (·.To) := by
        have := foldl_map_app (fun a : S_api_Arc => a.To) (l.filter p) []
        rw [List.foldl_filter] at this
        simpa using this
      obtain ⟨s1, s2, _⟩ := wayOf_spec hm hr hat hw hx
      rw [e1]
      refine lt_unique ?_ s1 fun w => ?_
      · refine List.pairwise_map.2 ?_
        have hpw : (l.filter p).Pairwise Lt2 := hm.2.sublist List.filter_sublist
        refine hpw.imp_of_mem fun {a b} ha hb' hab => ?_
        have fa := ((hp a).1 (List.mem_filter.1 ha).2).1
        have fb := ((hp b).1 (List.mem_filter.1 hb').2).1
        unfold Lt2 at hab; omega
      · rw [s2, List.mem_map]
        constructor
        · rintro ⟨a, ha, rfl⟩
          exact ((hp a).1 (List.mem_filter.1 ha).2).2
        · intro h
          obtain ⟨a, ha, e2, e3, _⟩ := h.head
          exact ⟨a, List.mem_filter.2 ⟨ha, (hp a).2 ⟨e2, by rw [e3]; exact h⟩⟩, e3⟩
    rw [e] at hloop; exact hloop
  · have ha := List.getElem_mem hi
    have hok := hm.1 _ ha
    unfold OkA at hok
    refine ⟨?_, fun o h => ?_⟩
    · simp only [step]
      split
      · simp; omega
      · omega
    · refine Ev.succ ?_
      simp only [m57_l1]
      refine Ev.pos (by omega) (Ev.bind (v := step s l[i]) (Ev.bnd (rdx_lt hi) ?_) ?_)
      · by_cases hf : l[i].From = r
        · obtain ⟨rs', r1, r2, _⟩ := routes_ev l hl l[i].To
          have hr' := r2 hm
          obtain ⟨d', d1, hd'⟩ := dist_ev l hl hm l[i].To ⟨by omega, by omega⟩ hr'
          refine Ev.pos hf (Ev.bnd (rdx_lt hi) (Ev.bind d1 (Ev.bind (v := p l[i]) (Ev.pos (by omega) ?_) (Ev.bind (v := step s l[i]) ?_ (Ev.pure _)))))
          · -- the test
            cases his : d'.2 x.To.toNat with
            | false =>
              refine Ev.neg (by simp) (Ev.of ?_)
              have : p l[i] = false := Bool.eq_false_iff.2 fun hpt => by
                obtain ⟨_, hway⟩ := (hp _).1 hpt
                have hno : ¬ (x.To = l[i].To ∨ ∃ y ∈ rs', y.To = x.To) := fun h' => by
                  have := (hd'.is x.To (by omega) (by omega)).2 h'
                  rw [his] at this; cases this
                obtain ⟨b, hb', _, _, e4⟩ := hway.head
                rcases e4 with ⟨e5, _⟩ | ⟨via', hw'⟩
                · exact hno (.inl e5)
                · by_cases e6 : x.To = l[i].To
                  · exact hno (.inl e6)
                  · obtain ⟨y, hy, e7, _⟩ := hr'.all _ _ _ hw' e6
                    exact hno (.inr ⟨y, hy, e7⟩)
              rw [this]
            | true =>
              refine Ev.pos rfl (Ev.bnd (rdx_lt hi) (Ev.pos (by omega) (Ev.bnd (v := addS l[i].Cost (d'.1 x.To.toNat)) (by rw [wrapu_id (by omega) (by omega)]; exact addR_eq ⟨by omega, by omega⟩ (hd'.u _)) (Ev.pos (by omega) (Ev.of ?_)))))
              rw [hd.cost x hx]
              congr 1
              rw [Bool.eq_iff_iff, decide_eq_true_eq, hp]
              constructor
              · intro e
                refine ⟨hf, ?_⟩
                rcases (hd'.is x.To (by omega) (by omega)).1 his with e1 | ⟨y, hy, e1⟩
                · rw [e1, hd'.root.2] at e
                  unfold addS at e
                  rw [if_pos (by omega)] at e
                  have := Way.one ha hf
                  rw [e1, ← e, Int.add_zero]; exact this
                · have hy1 := hr'.to_in hm hy
                  rw [← e1, hd'.cost y hy] at e
                  unfold addS at e
                  rw [if_pos (by omega)] at e
                  have := Way.cons ha hf (hr'.way y hy).1 rfl
                  rw [e, e1] at this; exact this
              · rintro ⟨_, hway⟩
                obtain ⟨b, hb', e2, e3, e4⟩ := hway.head
                obtain rfl := hm.uniq hb' ha (by rw [e2, hf]) e3
                rcases e4 with ⟨e5, e6⟩ | ⟨via', hw'⟩
                · rw [e5, hd'.root.2, e6]
                  unfold addS; rw [if_pos (by omega)]; omega
                · have hpos := hw'.pos hm
                  by_cases e7 : x.To = l[i].To
                  · have hone := Way.one ha hf
                    rw [← e7] at hone
                    have := least _ _ hone
                    omega
                  · obtain ⟨y, hy, e8, hle⟩ := hr'.all _ _ _ hw' e7
                    have hy1 := hr'.to_in hm hy
                    have hc := Way.cons ha hf (hr'.way y hy).1 rfl
                    rw [e8] at hc
                    have h2 := least _ _ hc
                    rw [← e8, hd'.cost y hy]
                    unfold lexle at hle
                    unfold addS; rw [if_pos (by omega)]; omega
          · by_cases hpt : p l[i] = true
            · have e : step s l[i] = s ++ [l[i].To] := if_pos hpt
              rw [e]
              exact Ev.pos hpt (Ev.bnd (rdx_lt hi) (Ev.bnd (appd_ok (by simp; omega)) (Ev.pure _)))
            · have e : step s l[i] = s := if_neg hpt
              rw [e]
              exact Ev.neg hpt (Ev.pure _)
        · have hpt : ¬ p l[i] = true := fun h' => hf ((hp _).1 h').1
          have e : step s l[i] = s := if_neg hpt
          rw [e]
          exact Ev.neg hf (Ev.pure _)
      · rw [wrap_nat1 hlz hi]; exact h
  · refine Ev.succ (Ev.all fun k => ?_)
    simp only [m57_l1]; rw [if_neg (by omega)]
/-- Those of a range, one by one. -/
theorem ints_find {β : Type} (g : S_api_Route → β) : ∀ (n : Nat) (a : Int) (rs : List S_api_Route), (rs.map (·.To)).Pairwise (· < ·) → (∀ x ∈ rs, a ≤ x.To ∧ x.To < a + n) → (ints a n).flatMap (fun v => match rs.find? (fun x => decide (x.To = v)) with | some x => [g x] | none => []) = rs.map g
  | 0, a, rs, _, h => by
    cases rs with
    | nil => rfl
    | cons x rs => have := h x (List.mem_cons_self ..); omega
  | n + 1, a, rs, hp, h => by
    simp only [ints, List.flatMap_cons]
    cases rs with
    | nil =>
      have := ints_find g n (a + 1) [] List.Pairwise.nil (fun x hx => by cases hx)
      simp
    | cons x rs =>
      rw [List.map_cons] at hp
      have hp' := List.pairwise_cons.1 hp
      have hx := h x (List.mem_cons_self ..)
      by_cases e : x.To = a
      · have hr : ∀ y ∈ rs, a + 1 ≤ y.To ∧ y.To < a + 1 + n := fun y hy => by
          have h1 := hp'.1 y.To (List.mem_map.2 ⟨y, hy, rfl⟩)
          have h2 := h y (List.mem_cons_of_mem _ hy)
          omega
        have ih := ints_find g n (a + 1) rs hp'.2 hr
        have e1 : (ints (a + 1) n).flatMap (fun v => match (x :: rs).find? (fun x => decide (x.To = v)) with | some x => [g x] | none => []) = (ints (a + 1) n).flatMap (fun v => match rs.find? (fun x => decide (x.To = v)) with | some x => [g x] | none => []) := by
          rw [List.flatMap_def, List.flatMap_def]
          congr 1
          refine List.map_congr_left fun v hv => ?_
          have hv := mem_ints.1 hv
          have : decide (x.To = v) = false := by simp; omega
          rw [List.find?_cons, this]
        rw [e1, ih, List.find?_cons, e]
        simp
      · have ih := ints_find g n (a + 1) (x :: rs) (by rw [List.map_cons]; exact hp) (fun y hy => by
          have h2 := h y hy
          rcases List.mem_cons.1 hy with e' | hy
          · rw [e'] at h2 ⊢; omega
          · have h1 := hp'.1 y.To (List.mem_map.2 ⟨y, hy, rfl⟩)
            omega)
        rw [ih]
        have : (x :: rs).find? (fun x => decide (x.To = a)) = none := List.find?_eq_none.2 fun y hy e' => by
          have e' : y.To = a := by simpa using e'
          rcases List.mem_cons.1 hy with e2 | hy
          · rw [e2] at e'; exact e e'
          · have h1 := hp'.1 y.To (List.mem_map.2 ⟨y, hy, rfl⟩)
            omega
        rw [this]; simp
/-- 'waymarkref36.All' gives the same. -/
theorem refAll_ev (hm : May l) (hl : l.length ≤ 100) (h1 : 1 ≤ r ∧ r ≤ 64) (hr : Routes l r rs) (hat : AtOk l r rs at_) (hw : WaysOk l r rs at_ vias many) : Ev (fun k => m57 k l r) (rs.map (wayOf vias many)) := by
  have hlz : Sz l := by unfold Sz; omega
  obtain ⟨d, d1, hd⟩ := dist_ev l (by omega) hm r h1 hr
  let G : Int → List S_api_Ways := fun v => match rs.find? (fun x => decide (x.To = v)) with | some x => [wayOf vias many x] | none => []
  have hloop := ev_ints (lo := 1) (hi := 64) (L := fun k (s : List S_api_Ways) y => m57_l0 l r d k s y) (fun s v => s ++ G v) (fun s => s) (fun y s => (s.length : Int) ≤ y) (fun y s hlo hhi hs => ?_) (fun s hs => ?_) 64 1 [] (by omega) (by omega) (by simp)
  · have e : (ints 1 64).foldl (fun s v => s ++ G v) [] = rs.map (wayOf vias many) := by
      rw [foldl_flatMap, List.nil_append]
      exact ints_find (wayOf vias many) 64 1 rs hr.asc fun x hx => by have := hr.to_in hm hx; omega
    rw [e] at hloop
    exact Ev.bind d1 (Ev.bind hloop (Ev.pure _))
  · have hG : (G y).length ≤ 1 := by
      simp only [G]
      split <;> simp
    refine ⟨by rw [List.length_append]; omega, fun o h => ?_⟩
    refine Ev.succ ?_
    simp only [m57_l0]
    refine Ev.pos (by omega) (Ev.bind (v := s ++ G y) (Ev.bind (v := decide (y = r) || !d.2 y.toNat) ?_ ?_) ?_)
    · by_cases e : y = r
      · exact Ev.pos e (Ev.of (by simp [e]))
      · exact Ev.neg e (Ev.pos (by omega) (Ev.of (by simp [e])))
    · cases hf : rs.find? (fun x => decide (x.To = y)) with
      | none =>
        have hno : ∀ x ∈ rs, x.To ≠ y := fun x hx e => by
          have := List.find?_eq_none.1 hf x hx
          simp [e] at this
        have hg : G y = [] := by simp only [G, hf]
        rw [hg, List.append_nil]
        refine Ev.pos ?_ (Ev.pure _)
        by_cases e : y = r
        · simp [e]
        · have : d.2 y.toNat = false := Bool.eq_false_iff.2 fun ht => by
            rcases (hd.is y (by omega) (by omega)).1 ht with e' | ⟨x, hx, e'⟩
            · exact e e'
            · exact hno x hx e'
          simp [this]
      | some x =>
        have hx := List.mem_of_find?_eq_some hf
        have hxy : x.To = y := by simpa using List.find?_some hf
        have hg : G y = [wayOf vias many x] := by simp only [G, hf]
        have hne : ¬ y = r := fun e => (hr.way x hx).2 (by rw [hxy, e])
        have hty : d.2 y.toNat = true := (hd.is y (by omega) (by omega)).2 (.inr ⟨x, hx, hxy⟩)
        rw [hg]
        refine Ev.neg (by simp [hne, hty]) (Ev.pos (by omega) ?_)
        subst hxy
        refine Ev.bind (many_ev hm hlz h1 hr hat hw hd _ x hx (Nat.le_refl _)) (Ev.bind (vias_ev hm (by omega) h1 hr hat hw hd hx) (Ev.bnd (v := s ++ [wayOf vias many x]) ?_ (Ev.pure _)))
        rw [hd.cost x hx]
        exact appd_ok (by simp; omega)
    · rw [wrap_id (by omega) (by omega)]; exact h
  · refine Ev.succ (Ev.all fun k => ?_)
    simp only [m57_l0]; rw [if_neg (by omega)]
end
/-- The same, shown to be the same. -/
theorem same_ev (ws : List S_api_Ways) (hz : Sz ws) (hv : ∀ w ∈ ws, w.Via.length ≤ 64) : Ev (fun k => m56 k ws ws) true := by
  have inner : ∀ (i : Nat) (hi : i < ws.length) (n j : Nat), j + n = ws[i].Via.length → Ev (fun k => m56_l1 ws ws i k j) (.go ()) := by
    intro i hi n
    have hvi := hv _ (List.getElem_mem hi)
    induction n with
    | zero =>
      intro j h
      refine Ev.succ ?_
      simp only [m56_l1]
      exact Ev.bnd (rdx_lt hi) (Ev.neg (by omega) (Ev.pure _))
    | succ n ih =>
      intro j h
      have hj : j < ws[i].Via.length := by omega
      refine Ev.succ ?_
      simp only [m56_l1]
      refine Ev.bnd (rdx_lt hi) (Ev.pos (by omega) (Ev.bnd (rdx_lt hi) (Ev.bnd (rdx_lt hj) (Ev.bnd (rdx_lt hi) (Ev.bnd (rdx_lt hj) (Ev.pos rfl ?_))))))
      rw [show IntKind.i64.wrap ((j : Int) + 1) = ((j + 1 : Nat) : Int) from by rw [wrap_id (by omega) (by omega)]; omega]
      exact ih (j + 1) (by omega)
  have loop : ∀ (n i : Nat), i + n = ws.length → Ev (fun k => m56_l0 ws ws k i) (.go ()) := by
    intro n
    induction n with
    | zero =>
      intro i h
      refine Ev.succ (Ev.all fun k => ?_)
      simp only [m56_l0]; rw [if_neg (by omega)]
    | succ n ih =>
      intro i h
      have hi : i < ws.length := by omega
      refine Ev.succ ?_
      simp only [m56_l0]
      refine Ev.pos (by omega) (Ev.bind (v := false) (Ev.bnd (rdx_lt hi) (Ev.bnd (rdx_lt hi) (Ev.pos rfl (Ev.bnd (rdx_lt hi) (Ev.bnd (rdx_lt hi) (Ev.pos rfl (Ev.bnd (rdx_lt hi) (Ev.bnd (rdx_lt hi) (Ev.pos rfl (Ev.bnd (rdx_lt hi) (Ev.bnd (rdx_lt hi) (Ev.of (by simp))))))))))))) (Ev.neg (by simp) (Ev.onGo (inner i hi ws[i].Via.length 0 (by omega)) ?_)))
      rw [wrap_nat1 hz hi]; exact ih (i + 1) (by omega)
  exact Ev.pos rfl (Ev.onGo (loop ws.length 0 (by omega)) (Ev.pure _))
/-- 'ecmp.All' where the arcs may not be. -/
theorem all_none (l : List S_api_Arc) (hl : l.length ≤ 100) (hm : ¬ May l) (r : Int) : Ev (fun k => m55 k l r) [] := by
  obtain ⟨rs, r1, _, r3⟩ := routes_ev l (by omega) r
  have e := r3 hm
  subst e
  refine Ev.bind r1 (Ev.bnd rfl (Ev.bind (v := mput [] r 0) (Ev.succ (Ev.all fun k => ?_)) (Ev.bnd (v := []) ?_ (Ev.bind (v := []) (Ev.all fun k => ?_) (Ev.bind (v := ([], [])) (Ev.succ (Ev.all fun k => ?_)) (Ev.bind (v := []) (Ev.succ (Ev.all fun k => ?_)) (Ev.pure _)))))))
  · simp [m55_l0]
  · simp [m113, appd]
  · rfl
  · simp [m55_l1]
  · simp [m55_l3]
theorem ecmpAll_true : ecmpAll_pure := by
  intro l hgl hsz r wr
  refine Ev.get (f := fun k => m9 k l r) ?_
  have aw : Ev (fun k => Option.bind (m54 k) fun x => some x) true := Ev.bind awake54 (Ev.pure _)
  by_cases c0 : 34 < (l.length : Int)
  · exact Ev.pos c0 aw
  have hl : l.length ≤ 100 := by omega
  refine Ev.neg c0 ?_
  obtain ⟨bm, m1, m2⟩ := may_ev l hsz
  cases bm with
  | false =>
    have hm : ¬ May l := fun h => by have := m2.2 h; cases this
    refine Ev.bind (all_none l hl hm r) (Ev.bind (v := true) (Ev.bind m1 (Ev.neg (by simp) (Ev.pure _))) (Ev.pos rfl (Ev.bind (v := true) (Ev.pos (by simp) aw) (Ev.pure _))))
  | true =>
  have hm := m2.1 rfl
  obtain ⟨rs, at_, vias, many, r1, hr, hat, hw, a1⟩ := all_ev l hl hm r
  have hlen := hr.len hm
  refine Ev.bind a1 ?_
  by_cases hroot : 1 ≤ r ∧ r ≤ 64
  · refine Ev.bind (v := false) (Ev.bind m1 (Ev.pos rfl (Ev.neg (by omega) (Ev.of (by simp; omega))))) (Ev.neg (by simp) ?_)
    obtain ⟨ns, n1, n2, n3, n4⟩ := nodesR_ev l hsz
    refine Ev.bind n1 ?_
    by_cases c7 : 7 < (ns.length : Int)
    · exact Ev.pos c7 aw
    · refine Ev.neg c7 (Ev.bind (v := true) (Ev.bind (refAll_ev hm hl hroot hr hat hw) (Ev.bind (same_ev _ (by unfold Sz; simp; omega) fun w hwm => ?_) (Ev.pos rfl aw))) (Ev.pure _))
      obtain ⟨x, hx, rfl⟩ := List.mem_map.1 hwm
      exact (wayOf_spec hm hr hat hw hx).2.2.1
  · have hnil : rs = [] := by
      cases rs with
      | nil => rfl
      | cons x rs =>
        obtain ⟨a, ha, e, _⟩ := (hr.way x (List.mem_cons_self ..)).1.head
        have hok := hm.1 a ha
        unfold OkA at hok
        omega
    refine Ev.bind (v := true) (Ev.bind m1 (Ev.pos rfl ?_)) (Ev.pos rfl (Ev.bind (v := true) (Ev.pos (by simp [hnil]) aw) (Ev.pure _)))
    by_cases e : r < 1
    · exact Ev.pos e (Ev.pure _)
    · exact Ev.neg e (Ev.of (by simp; omega))
end Go.Proofs.Ytbielnhpfbhkgaa
