/- Plain facts on 'kpath.Paths', and on the law's own example. -/
import Derived.Test.YtbielnhpfbhkgaaPKpath
import Derived.KernelRfl
set_option linter.unusedVariables false
set_option linter.unusedSimpArgs false
namespace Go.Proofs.Ytbielnhpfbhkgaa
open Go Go.RowKit

/-- 'kpath.Paths'. -/
theorem paths_ev (l : List S_api_Arc) (hsz : Sz l) (hl : l.length ≤ 24) (f t most : Int) : ∃ ns, Ev (fun k => m86 k l) ns ∧ ns.Pairwise (· < ·) ∧ (May l → ∀ x, x ∈ ns ↔ IsNode l x) ∧ (¬ May l → ns = []) ∧
    ∃ p, Ev (fun k => m41 k l f t most) p ∧ ((f = t ∨ most < 1 ∨ 8 < ns.length ∨ f ∉ ns ∨ t ∉ ns) → p = []) ∧
      ((f ≠ t ∧ 1 ≤ most ∧ ns.length ≤ 8 ∧ f ∈ ns ∧ t ∈ ns) → ∃ ys, ys.Perm (walk l t 8 ⟨[f], 0⟩) ∧ Asc (fun x y => pathLt x y = true) ys ∧ p = ys.take (min (min ys.length most.toNat) 20)) := by
  obtain ⟨ns, n1, n2, n3, n4, n5⟩ := nodes_ev l hsz
  refine ⟨ns, n1, n2, n4, n5, ?_⟩
  have hnz : Sz ns := by unfold Sz; omega
  by_cases hg : f = t ∨ most < 1 ∨ 8 < ns.length ∨ f ∉ ns ∨ t ∉ ns
  · refine ⟨[], Ev.bind n1 (Ev.bind (v := true) ?_ (Ev.pos rfl (Ev.pure _))), fun _ => rfl, fun h => ?_⟩
    · by_cases c1 : f = t
      · exact Ev.pos c1 (Ev.pure _)
      · refine Ev.neg c1 ?_
        by_cases c2 : most < 1
        · exact Ev.pos c2 (Ev.pure _)
        · refine Ev.neg c2 ?_
          by_cases c3 : 8 < (ns.length : Int)
          · exact Ev.pos c3 (Ev.pure _)
          · refine Ev.neg c3 (Ev.bind (contains_ev ns f hnz) ?_)
            by_cases c4 : f ∈ ns
            · refine Ev.pos (by simp [c4]) (Ev.bind (contains_ev ns t hnz) (Ev.of ?_))
              have : t ∉ ns := by
                rcases hg with h | h | h | h | h
                · exact absurd h c1
                · exact absurd h c2
                · omega
                · exact absurd c4 h
                · exact h
              simp [this]
            · exact Ev.neg (by simp [c4]) (Ev.pure _)
    · exfalso
      rcases hg with h' | h' | h' | h' | h'
      · exact h.1 h'
      · omega
      · omega
      · exact h' h.2.2.2.1
      · exact h' h.2.2.2.2
  · have g : f ≠ t ∧ 1 ≤ most ∧ ns.length ≤ 8 ∧ f ∈ ns ∧ t ∈ ns := by
      simp only [not_or, Classical.not_not] at hg
      exact ⟨hg.1, by omega, by omega, hg.2.2.2.1, hg.2.2.2.2⟩
    have hm : May l := Classical.byContradiction fun h => by have := n5 h; rw [this] at g; exact absurd g.2.2.2.1 (by simp)
    have hp0 : Plain l ns ⟨[f], 0⟩ := ⟨by simp, by simp, fun x hx => by simp at hx; rw [hx]; exact g.2.2.2.1, (show U64 0 from ⟨by omega, by omega⟩)⟩
    have hw := walk_ev (to := t) hm (n4 hm) hsz hl g.2.2.1 8 ⟨[f], 0⟩ [] hp0 (by simp; omega) (by simp)
    rw [List.nil_append] at hw
    have hwl := walk_len (to := t) hl 8 ⟨[f], 0⟩
    have hnode : ∀ x ∈ walk l t 8 ⟨[f], 0⟩, Sz x.Nodes := fun x hx => by have := (walk_plain hm (n4 hm) 8 _ x hp0 hx).1.len; unfold Sz; omega
    obtain ⟨ys, y1, y2, y3⟩ := sortF_ev (cmp := fun k x y => m94 k x y) (c := pcmp) (pathLt_parts (walk l t 8 ⟨[f], 0⟩)) (fun x hx y hy => pcmp_ev x y (hnode x hx) (hnode y hy)) (fun x _ y _ => pcmp_lt x y) (by omega)
    refine ⟨ys.take (min (min ys.length most.toNat) 20), Ev.bind n1 (Ev.bind (v := false) ?_ (Ev.neg (by simp) (Ev.bind hw (Ev.bind y1 (Ev.of ?_))))), fun h => absurd h hg, fun _ => ⟨ys, y2, y3, rfl⟩⟩
    · refine Ev.neg g.1 (Ev.neg (by omega) (Ev.neg (by omega) (Ev.bind (contains_ev ns f hnz) (Ev.pos (by simp [g.2.2.2.1]) (Ev.bind (contains_ev ns t hnz) (Ev.of (by simp [g.2.2.2.2])))))))
    · have e : (if 20 < (if most < (ys.length : Int) then most else (ys.length : Int)) then (20 : Int) else (if most < (ys.length : Int) then most else (ys.length : Int))) = ((min (min ys.length most.toNat) 20 : Nat) : Int) := by
        by_cases h1 : most < (ys.length : Int)
        · simp only [if_pos h1]; split <;> omega
        · simp only [if_neg h1]; split <;> omega
      rw [e]
      unfold cutx
      rw [if_pos ⟨by omega, by omega, by omega⟩, Int.toNat_natCast]; rfl
theorem awake40 : Ev (fun k => m40 k) true := by
  refine ⟨60, fun k hk => ?_⟩
  obtain ⟨j, rfl⟩ : ∃ j, k = j + 60 := ⟨k - 60, by omega⟩
  revert j
  intro j _
  kernel_rfl
end Go.Proofs.Ytbielnhpfbhkgaa
