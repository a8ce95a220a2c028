/- Plain facts on 'ecmp.All': its answer. -/
import Derived.Test.YtbielnhpfbhkgaaPEcmp
set_option linter.unusedVariables false
set_option linter.unusedSimpArgs false
namespace Go.Proofs.Ytbielnhpfbhkgaa
open Go Go.RowKit

theorem parts_sum {α β : Type} (p : β → α → Bool) : ∀ (xs : List β) (l : List α), xs.Pairwise (fun x y => ∀ a, p x a = true → p y a = false) → (xs.map fun x => (l.filter (p x)).length).sum ≤ l.length
  | [], l, _ => by simp
  | x :: xs, l, h => by
    have h' := List.pairwise_cons.1 h
    have ih := parts_sum p xs (l.filter fun a => !p x a) h'.2
    have e : (xs.map fun y => (l.filter (p y)).length) = xs.map fun y => ((l.filter fun a => !p x a).filter (p y)).length := List.map_congr_left fun y hy => by
      rw [List.filter_filter]
      congr 1
      refine List.filter_congr fun a _ => ?_
      cases hx : p x a with
      | true => rw [h'.1 y hy a hx]; rfl
      | false => simp
    have hl : (l.filter (p x)).length + (l.filter fun a => !p x a).length = l.length := by
      rw [← List.countP_eq_length_filter, ← List.countP_eq_length_filter]
      have := List.length_eq_countP_add_countP (p x) (l := l)
      have e2 : List.countP (fun a => decide ¬p x a = true) l = List.countP (fun a => !p x a) l := by
        congr 1; funext a; cases p x a <;> rfl
      omega
    rw [List.map_cons, List.sum_cons, e]
    omega
theorem sum_le {α : Type} {f g : α → Nat} : ∀ {xs : List α}, (∀ a ∈ xs, f a ≤ g a) → (xs.map f).sum ≤ (xs.map g).sum
  | [], _ => Nat.le_refl _
  | x :: xs, h => by
    simp only [List.map_cons, List.sum_cons]
    have := h x (List.mem_cons_self ..)
    have := sum_le (xs := xs) fun a ha => h a (List.mem_cons_of_mem _ ha)
    omega
theorem foldS_u : ∀ (xs : List Int) (s : Int), (∀ b ∈ xs, U64 b) → U64 s → U64 (xs.foldl addS s)
  | [], s, _, h => h
  | x :: xs, s, hx, h => foldS_u xs _ (fun b hb => hx b (List.mem_cons_of_mem _ hb)) (addS_u h (hx x (List.mem_cons_self ..)))
/-- What holds of a saturating sum: no fewer than there are different ones. -/
theorem foldS_ge {α : Type} {f : α → List Int} {g : α → Int} : ∀ (bs : List α), (∀ a ∈ bs, U64 (g a) ∧ ∀ L : List Int, L.Nodup → L.length ≤ 64 → (∀ x ∈ L, x ∈ f a) → (L.length : Int) ≤ g a) →
    ∀ (s : Int) (A : List Int), U64 s → (∀ L : List Int, L.Nodup → L.length ≤ 64 → (∀ x ∈ L, x ∈ A) → (L.length : Int) ≤ s) →
    ∀ L : List Int, L.Nodup → L.length ≤ 64 → (∀ x ∈ L, x ∈ A ++ bs.flatMap f) → (L.length : Int) ≤ (bs.map g).foldl addS s
  | [], _, s, A, _, hs, L, h1, h2, h3 => hs L h1 h2 (by simpa using h3)
  | a :: bs, ha, s, A, hu, hs, L, h1, h2, h3 => by
    obtain ⟨hg, hf⟩ := ha a (List.mem_cons_self ..)
    refine foldS_ge bs (fun b hb => ha b (List.mem_cons_of_mem _ hb)) (addS s (g a)) (A ++ f a) (addS_u hu hg) (fun L' k1 k2 k3 => ?_) L h1 h2 (by simpa [List.flatMap_cons, List.append_assoc] using h3)
    have e := List.length_eq_countP_add_countP (fun x => decide (x ∈ A)) (l := L')
    have n1 := hs (L'.filter fun x => decide (x ∈ A)) (k1.filter _) (Nat.le_trans (List.length_filter_le _ _) k2) (fun x hx => by simpa using (List.mem_filter.1 hx).2)
    have n2 := hf (L'.filter fun x => decide ¬(decide (x ∈ A)) = true) (k1.filter _) (Nat.le_trans (List.length_filter_le _ _) k2) (fun x hx => by
      obtain ⟨h, h'⟩ := List.mem_filter.1 hx
      have := k3 x h
      simp at h' this
      exact this.resolve_left h')
    rw [← List.countP_eq_length_filter] at n1 n2
    unfold U64 at hu hg
    unfold addS
    split <;> omega
section
variable {l : List S_api_Arc} {r : Int} {rs : List S_api_Route} {at_ : List (Int × Int)}
theorem Routes.same (hr : Routes l r rs) {x y : S_api_Route} (hx : x ∈ rs) (hy : y ∈ rs) (e : x.To = y.To) : x = y := by
  have hp := hr.asc
  clear hr
  induction rs with
  | nil => cases hx
  | cons z zs ih =>
    rw [List.map_cons] at hp
    have hp' := List.pairwise_cons.1 hp
    rcases List.mem_cons.1 hx with rfl | hx
    · rcases List.mem_cons.1 hy with rfl | hy
      · rfl
      · have := hp'.1 y.To (List.mem_map.2 ⟨y, hy, rfl⟩); omega
    · rcases List.mem_cons.1 hy with e' | hy
      · have := hp'.1 x.To (List.mem_map.2 ⟨x, hx, rfl⟩); rw [e'] at e; omega
      · exact ih hx hy hp'.2
theorem mem_inA {v : Int} {a : S_api_Arc} : a ∈ inA l at_ r v ↔ a ∈ l ∧ a.To = v ∧ onB at_ r a = true := by
  simp [inA, List.mem_filter]
/-- An arc of a least way comes from the root, or from a node nearer by. -/
theorem inA_from (hm : May l) (hr : Routes l r rs) (hat : AtOk l r rs at_) {x : S_api_Route} (hx : x ∈ rs) {a : S_api_Arc} (ha : a ∈ inA l at_ r x.To) : (a.From = r ∧ a.Cost = x.Cost) ∨ (a.From ≠ r ∧ ∃ y ∈ rs, y.To = a.From ∧ y.Cost + a.Cost = x.Cost ∧ y.Cost < x.Cost) := by
  obtain ⟨h1, h2, h3⟩ := mem_inA.1 ha
  have hok := hm.1 a h1
  unfold OkA at hok
  rcases (on_iff hm hr hat h1 hx h2).1 h3 with h | ⟨y, hy, e1, e2⟩
  · exact .inl h
  · exact .inr ⟨fun e => (hr.way y hy).2 (by rw [e1, e]), y, hy, e1, e2, by omega⟩
theorem way_iff (hm : May l) (hr : Routes l r rs) (hat : AtOk l r rs at_) {x : S_api_Route} (hx : x ∈ rs) {w : Int} : Way l r x.To w x.Cost ↔ ∃ a ∈ inA l at_ r x.To, (a.From = r ∧ w = x.To) ∨ (a.From ≠ r ∧ ∃ y ∈ rs, y.To = a.From ∧ Way l r y.To w y.Cost) := by
  constructor
  · intro h
    generalize ht : x.To = v at h
    generalize hc : x.Cost = c at h
    cases h with
    | @one a ha hf => exact ⟨a, mem_inA.2 ⟨ha, rfl, (on_iff hm hr hat ha hx ht.symm).2 (.inl ⟨hf, hc.symm⟩)⟩, .inl ⟨hf, rfl⟩⟩
    | @more v' via c' a h ha hf =>
      have hp := h.pos hm
      have hok := hm.1 a ha
      unfold OkA at hok
      have hleast : ∀ via' c'', Way l r x.To via' c'' → x.Cost ≤ c'' := fun via' c'' hw => by
        obtain ⟨y, hy, e, hle⟩ := hr.all _ _ _ hw (hr.way x hx).2
        rw [hr.same hy hx e] at hle
        unfold lexle at hle; omega
      have hnr : a.From ≠ r := fun e => by
        have := hleast a.To a.Cost (by rw [ht]; exact Way.one ha e)
        omega
      obtain ⟨y, hy, e, hle⟩ := hr.all _ _ _ h (by rw [← hf]; exact hnr)
      have h2 := hleast y.Via (y.Cost + a.Cost) (by rw [ht]; exact Way.more (hr.way y hy).1 ha (by rw [hf, e]))
      have hcy : y.Cost = c' := by unfold lexle at hle; omega
      refine ⟨a, mem_inA.2 ⟨ha, rfl, (on_iff hm hr hat ha hx ht.symm).2 (.inr ⟨y, hy, by rw [e, hf], by omega⟩)⟩, .inr ⟨hnr, y, hy, by rw [e, hf], ?_⟩⟩
      rw [e, hcy]; exact h
  · rintro ⟨a, ha, h⟩
    obtain ⟨h1, h2, h3⟩ := mem_inA.1 ha
    rcases h with ⟨e1, e2⟩ | ⟨e1, y, hy, e2, hw⟩
    · rcases inA_from hm hr hat hx ha with ⟨_, e⟩ | ⟨e, _⟩
      · have := Way.one (l := l) (r := r) h1 e1
        rw [h2, e] at this
        rw [e2]; exact this
      · exact absurd e1 e
    · rcases inA_from hm hr hat hx ha with ⟨e, _⟩ | ⟨_, z, hz, e3, e4, _⟩
      · exact absurd e e1
      · rw [hr.same hz hy (by rw [e3, e2])] at e4
        have := Way.more hw h1 e2.symm
        rw [h2, e4] at this
        exact this
theorem inA_ne (hm : May l) (hr : Routes l r rs) (hat : AtOk l r rs at_) {x : S_api_Route} (hx : x ∈ rs) : inA l at_ r x.To ≠ [] := by
  obtain ⟨a, ha, _⟩ := (way_iff hm hr hat hx).1 (hr.way x hx).1
  exact List.ne_nil_of_mem ha
/-- What the maps hold at the end. -/
structure WaysOk (l : List S_api_Arc) (r : Int) (rs : List S_api_Route) (at_ : List (Int × Int)) (vias : List (Int × List Int)) (many : List (Int × Int)) : Prop where mk ::
  v : ∀ x ∈ rs, (mget vias x.To).getD [] = (inA l at_ r x.To).flatMap (bringV r vias)
  m : ∀ x ∈ rs, (mget many x.To).getD 0 = ((inA l at_ r x.To).map (bringM r many)).foldl addS 0
  u : ∀ v, U64 ((mget many v).getD 0)
  len : ∀ x ∈ rs, ((mget vias x.To).getD []).length ≤ 17592186044416
theorem WaysOk.mem {vias : List (Int × List Int)} {many : List (Int × Int)} (hm : May l) (hr : Routes l r rs) (hat : AtOk l r rs at_) (h : WaysOk l r rs at_ vias many) : ∀ (n : Nat) (x : S_api_Route), x ∈ rs → x.Cost.toNat ≤ n → ∀ w, w ∈ (mget vias x.To).getD [] ↔ Way l r x.To w x.Cost := by
  intro n
  induction n with
  | zero =>
    intro x hx hn w
    have := (hr.way x hx).1.pos hm
    omega
  | succ n ih =>
    intro x hx hn w
    rw [h.v x hx, way_iff hm hr hat hx, List.mem_flatMap]
    refine exists_congr fun a => and_congr_right fun ha => ?_
    have hto := (mem_inA.1 ha).2.1
    unfold bringV
    rcases inA_from hm hr hat hx ha with ⟨e, _⟩ | ⟨e, y, hy, e1, e2, e3⟩
    · rw [if_pos e, List.mem_singleton, hto]
      exact ⟨fun h => .inl ⟨e, h⟩, fun h => h.elim (·.2) fun h => absurd e h.1⟩
    · rw [if_neg e, ← e1, ih y hy (by omega) w]
      refine ⟨fun h => .inr ⟨by rw [e1]; exact e, y, hy, rfl, h⟩, fun h => h.elim (fun h => absurd h.1 (by rw [e1]; exact e)) fun ⟨_, z, hz, e4, hw⟩ => ?_⟩
      rw [hr.same hz hy e4] at hw; exact hw
theorem WaysOk.ge {vias : List (Int × List Int)} {many : List (Int × Int)} (hm : May l) (hr : Routes l r rs) (hat : AtOk l r rs at_) (h : WaysOk l r rs at_ vias many) : ∀ (n : Nat) (x : S_api_Route), x ∈ rs → x.Cost.toNat ≤ n → ∀ L : List Int, L.Nodup → L.length ≤ 64 → (∀ w ∈ L, w ∈ (mget vias x.To).getD []) → (L.length : Int) ≤ (mget many x.To).getD 0 := by
  intro n
  induction n with
  | zero =>
    intro x hx hn
    have := (hr.way x hx).1.pos hm
    omega
  | succ n ih =>
    intro x hx hn L h1 h2 h3
    rw [h.m x hx]
    refine foldS_ge (f := bringV r vias) (inA l at_ r x.To) (fun a ha => ?_) 0 [] ⟨by omega, by omega⟩ (fun L _ _ h => ?_) L h1 h2 (fun w hw => by rw [List.nil_append, ← h.v x hx]; exact h3 w hw)
    · unfold bringM bringV
      rcases inA_from hm hr hat hx ha with ⟨e, _⟩ | ⟨e, y, hy, e1, e2, e3⟩
      · rw [if_pos e, if_pos e]
        refine ⟨⟨by omega, by omega⟩, fun L k1 k2 k3 => ?_⟩
        have := nodup_le k1 k3
        simp at this; omega
      · rw [if_neg e, if_neg e]
        refine ⟨h.u _, fun L k1 k2 k3 => ?_⟩
        rw [← e1] at k3 ⊢
        exact ih y hy (by omega) L k1 k2 k3
    · cases L with
      | nil => simp
      | cons w L => have := h w (List.mem_cons_self ..); cases this
end
end Go.Proofs.Ytbielnhpfbhkgaa
