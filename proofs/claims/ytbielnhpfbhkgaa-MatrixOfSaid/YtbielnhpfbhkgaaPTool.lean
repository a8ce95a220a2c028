/- Plain facts: loops as folds; the numbers of a range; sorted lists that hold the same. -/
import Derived.Test.YtbielnhpfbhkgaaPBase
set_option linter.unusedVariables false
set_option linter.unusedSimpArgs false
namespace Go.Proofs.Ytbielnhpfbhkgaa
open Go Go.RowKit

section
variable {α β σ τ ρ : Type}
/-- A loop over a row, as a fold. -/
theorem ev_list {xs : List α} (hsz : Sz xs) {L : Nat → σ → Int → Option τ} (step : σ → α → σ) (fin : σ → τ) (inv : Nat → σ → Prop)
    (hstep : ∀ (i : Nat) (hi : i < xs.length) (s : σ), inv i s → inv (i + 1) (step s xs[i]) ∧ ∀ o, Ev (fun k => L k (step s xs[i]) ((i + 1 : Nat) : Int)) o → Ev (fun k => L k s (i : Int)) o)
    (hend : ∀ s, inv xs.length s → Ev (fun k => L k s (xs.length : Int)) (fin s)) : ∀ (n i : Nat) (s : σ), i + n = xs.length → inv i s → Ev (fun k => L k s (i : Int)) (fin ((xs.drop i).foldl step s))
  | 0, i, s, h, hv => by
    obtain rfl : i = xs.length := by omega
    rw [List.drop_eq_nil_of_le (Nat.le_refl _)]
    exact hend s hv
  | n + 1, i, s, h, hv => by
    have hi : i < xs.length := by omega
    obtain ⟨h1, h2⟩ := hstep i hi s hv
    rw [List.drop_eq_getElem_cons hi, List.foldl_cons]
    exact h2 _ (ev_list hsz step fin inv hstep hend n (i + 1) _ (by omega) h1)
theorem ev_list0 {xs : List α} (hsz : Sz xs) {L : Nat → σ → Int → Option τ} (step : σ → α → σ) (fin : σ → τ) (inv : Nat → σ → Prop)
    (hstep : ∀ (i : Nat) (hi : i < xs.length) (s : σ), inv i s → inv (i + 1) (step s xs[i]) ∧ ∀ o, Ev (fun k => L k (step s xs[i]) ((i + 1 : Nat) : Int)) o → Ev (fun k => L k s (i : Int)) o)
    (hend : ∀ s, inv xs.length s → Ev (fun k => L k s (xs.length : Int)) (fin s)) (s : σ) (h0 : inv 0 s) : Ev (fun k => L k s 0) (fin (xs.foldl step s)) := by
  have := ev_list hsz step fin inv hstep hend xs.length 0 s (by omega) h0
  rwa [List.drop_zero] at this
/-- From some number of rounds on, both within and without. -/
def Ev2 (f : Nat → Nat → Option α) (v : α) : Prop := ∃ K, ∀ j k, K ≤ j → K ≤ k → f j k = some v
section
variable {f : Nat → Nat → Option α} {g : Nat → Nat → α → Option β} {v : α} {u : β}
theorem Ev2.pure (v : α) : Ev2 (fun _ _ => some v) v := ⟨0, fun _ _ _ _ => rfl⟩
theorem Ev2.of {x : Option α} (h : x = some v) : Ev2 (fun _ _ => x) v := ⟨0, fun _ _ _ _ => h⟩
theorem Ev2.eq {f' : Nat → Nat → Option α} (h : Ev2 f v) (e : ∀ j k, f' j k = f j k) : Ev2 f' v := let ⟨K, a⟩ := h; ⟨K, fun j k hj hk => (e j k).trans (a j k hj hk)⟩
theorem Ev2.left {f : Nat → Option α} (h : Ev f v) : Ev2 (fun j _ => f j) v := let ⟨K, a⟩ := h; ⟨K, fun j k hj _ => a j hj⟩
theorem Ev2.right {f : Nat → Option α} (h : Ev f v) : Ev2 (fun _ k => f k) v := let ⟨K, a⟩ := h; ⟨K, fun j k _ hk => a k hk⟩
theorem Ev2.diag (h : Ev2 f v) : Ev (fun k => f k k) v := let ⟨K, a⟩ := h; ⟨K, fun k hk => a k k hk hk⟩
theorem Ev2.bind (h1 : Ev2 f v) (h2 : Ev2 (fun j k => g j k v) u) : Ev2 (fun j k => (f j k).bind (g j k)) u := by
  obtain ⟨K1, a1⟩ := h1
  obtain ⟨K2, a2⟩ := h2
  exact ⟨max K1 K2, fun j k hj hk => by show (f j k).bind (g j k) = some u; rw [a1 j k (by omega) (by omega)]; exact a2 j k (by omega) (by omega)⟩
theorem Ev2.bnd {x : Option α} (h1 : x = some v) (h2 : Ev2 (fun j k => g j k v) u) : Ev2 (fun j k => x.bind (g j k)) u := by subst h1; exact h2
theorem Ev2.succ (h : Ev2 (fun j k => f j (k + 1)) v) : Ev2 f v := by
  obtain ⟨K, a⟩ := h
  refine ⟨K + 1, fun j k hj hk => ?_⟩
  obtain ⟨i, rfl⟩ : ∃ i, k = i + 1 := ⟨k - 1, by omega⟩
  exact a j i (by omega) (by omega)
theorem Ev2.pos {c : Prop} [Decidable c] {f g : Nat → Nat → Option α} (hc : c) (h : Ev2 f v) : Ev2 (fun j k => if c then f j k else g j k) v := by
  obtain ⟨K, a⟩ := h; exact ⟨K, fun j k hj hk => (if_pos hc).trans (a j k hj hk)⟩
theorem Ev2.neg {c : Prop} [Decidable c] {f g : Nat → Nat → Option α} (hc : ¬ c) (h : Ev2 g v) : Ev2 (fun j k => if c then f j k else g j k) v := by
  obtain ⟨K, a⟩ := h; exact ⟨K, fun j k hj hk => (if_neg hc).trans (a j k hj hk)⟩
end
theorem ev2_list {xs : List α} {L : Nat → Nat → σ → Int → Option τ} (step : σ → α → σ) (fin : σ → τ) (inv : Nat → σ → Prop)
    (hstep : ∀ (i : Nat) (hi : i < xs.length) (s : σ), inv i s → inv (i + 1) (step s xs[i]) ∧ ∀ o, Ev2 (fun j k => L j k (step s xs[i]) ((i + 1 : Nat) : Int)) o → Ev2 (fun j k => L j k s (i : Int)) o)
    (hend : ∀ s, inv xs.length s → Ev2 (fun j k => L j k s (xs.length : Int)) (fin s)) : ∀ (n i : Nat) (s : σ), i + n = xs.length → inv i s → Ev2 (fun j k => L j k s (i : Int)) (fin ((xs.drop i).foldl step s))
  | 0, i, s, h, hv => by
    obtain rfl : i = xs.length := by omega
    rw [List.drop_eq_nil_of_le (Nat.le_refl _)]
    exact hend s hv
  | n + 1, i, s, h, hv => by
    have hi : i < xs.length := by omega
    obtain ⟨h1, h2⟩ := hstep i hi s hv
    rw [List.drop_eq_getElem_cons hi, List.foldl_cons]
    exact h2 _ (ev2_list step fin inv hstep hend n (i + 1) _ (by omega) h1)
/-- From a on, n numbers. -/
def ints (a : Int) : Nat → List Int
  | 0 => []
  | n + 1 => a :: ints (a + 1) n
theorem mem_ints {a x : Int} : ∀ {n : Nat}, x ∈ ints a n ↔ a ≤ x ∧ x < a + n
  | 0 => by simp [ints]
  | n + 1 => by
    simp only [ints, List.mem_cons, mem_ints (n := n)]
    omega
theorem ints_lt {a : Int} : ∀ {n : Nat}, (ints a n).Pairwise (· < ·)
  | 0 => List.Pairwise.nil
  | n + 1 => List.pairwise_cons.2 ⟨fun x hx => by have := mem_ints.1 hx; omega, ints_lt⟩
theorem ints_len {a : Int} : ∀ {n : Nat}, (ints a n).length = n
  | 0 => rfl
  | n + 1 => by simp [ints, ints_len]
/-- A loop over numbers, as a fold. -/
theorem ev_ints {lo hi : Int} {L : Nat → σ → Int → Option τ} (step : σ → Int → σ) (fin : σ → τ) (inv : Int → σ → Prop)
    (hstep : ∀ (y : Int) (s : σ), lo ≤ y → y ≤ hi → inv y s → inv (y + 1) (step s y) ∧ ∀ o, Ev (fun k => L k (step s y) (y + 1)) o → Ev (fun k => L k s y) o)
    (hend : ∀ s, inv (hi + 1) s → Ev (fun k => L k s (hi + 1)) (fin s)) : ∀ (n : Nat) (y : Int) (s : σ), lo ≤ y → y + n = hi + 1 → inv y s → Ev (fun k => L k s y) (fin ((ints y n).foldl step s))
  | 0, y, s, _, h, hv => by
    obtain rfl : y = hi + 1 := by omega
    exact hend s hv
  | n + 1, y, s, hl, h, hv => by
    obtain ⟨h1, h2⟩ := hstep y s hl (by omega) hv
    exact h2 _ (ev_ints step fin inv hstep hend n (y + 1) _ (by omega) (by omega) h1)
theorem ev2_ints {lo hi : Int} {L : Nat → Nat → σ → Int → Option τ} (step : σ → Int → σ) (fin : σ → τ) (inv : Int → σ → Prop)
    (hstep : ∀ (y : Int) (s : σ), lo ≤ y → y ≤ hi → inv y s → inv (y + 1) (step s y) ∧ ∀ o, Ev2 (fun j k => L j k (step s y) (y + 1)) o → Ev2 (fun j k => L j k s y) o)
    (hend : ∀ s, inv (hi + 1) s → Ev2 (fun j k => L j k s (hi + 1)) (fin s)) : ∀ (n : Nat) (y : Int) (s : σ), lo ≤ y → y + n = hi + 1 → inv y s → Ev2 (fun j k => L j k s y) (fin ((ints y n).foldl step s))
  | 0, y, s, _, h, hv => by
    obtain rfl : y = hi + 1 := by omega
    exact hend s hv
  | n + 1, y, s, hl, h, hv => by
    obtain ⟨h1, h2⟩ := hstep y s hl (by omega) hv
    exact h2 _ (ev2_ints step fin inv hstep hend n (y + 1) _ (by omega) (by omega) h1)
theorem foldl_filter (p : α → Bool) : ∀ (xs : List α) (acc : List α), xs.foldl (fun s x => if p x = true then s ++ [x] else s) acc = acc ++ xs.filter p
  | [], acc => by simp
  | x :: xs, acc => by
    simp only [List.foldl_cons]
    rw [foldl_filter p xs]
    by_cases h : p x = true
    · rw [if_pos h, List.filter_cons_of_pos h]; simp
    · rw [if_neg h, List.filter_cons_of_neg h]
theorem foldl_flatMap (f : α → List β) : ∀ (xs : List α) (acc : List β), xs.foldl (fun s x => s ++ f x) acc = acc ++ xs.flatMap f
  | [], acc => by simp
  | x :: xs, acc => by simp only [List.foldl_cons, List.flatMap_cons]; rw [foldl_flatMap f xs, List.append_assoc]
theorem foldl_any (p : α → Bool) : ∀ (xs : List α) (b : Bool), xs.foldl (fun s x => s || p x) b = (b || xs.any p)
  | [], b => by simp
  | x :: xs, b => by simp only [List.foldl_cons, List.any_cons]; rw [foldl_any p xs, Bool.or_assoc]
/-- Ascending, and holding the same: one list. -/
theorem lt_unique : ∀ {l k : List Int}, l.Pairwise (· < ·) → k.Pairwise (· < ·) → (∀ x, x ∈ l ↔ x ∈ k) → l = k
  | [], [], _, _, _ => rfl
  | [], y :: k, _, _, h => by have := (h y).2 (List.mem_cons_self ..); cases this
  | x :: l, [], _, _, h => by have := (h x).1 (List.mem_cons_self ..); cases this
  | x :: l, y :: k, h1, h2, h => by
    have g1 := List.pairwise_cons.1 h1
    have g2 := List.pairwise_cons.1 h2
    have hxy : x = y := by
      have hx := (h x).1 (List.mem_cons_self ..)
      have hy := (h y).2 (List.mem_cons_self ..)
      rcases List.mem_cons.1 hx with e | e
      · exact e
      · rcases List.mem_cons.1 hy with e' | e'
        · exact e'.symm
        · have := g2.1 x e
          have := g1.1 y e'
          omega
    subst hxy
    rw [lt_unique g1.2 g2.2 fun z => ⟨fun hz => ?_, fun hz => ?_⟩]
    · have := (h z).1 (List.mem_cons_of_mem _ hz)
      rcases List.mem_cons.1 this with e | e
      · have := g1.1 z hz; omega
      · exact e
    · have := (h z).2 (List.mem_cons_of_mem _ hz)
      rcases List.mem_cons.1 this with e | e
      · have := g2.1 z hz; omega
      · exact e
theorem lt_nodup {l : List Int} (h : l.Pairwise (· < ·)) : l.Nodup := h.imp fun h => by omega
end
/-- The saturating sum. -/
def Far : Int := 18446744073709551615
def addS (x y : Int) : Int := if x + y ≤ 18446744073709551615 then x + y else 18446744073709551615
def U64 (x : Int) : Prop := 0 ≤ x ∧ x ≤ 18446744073709551615
theorem addS_u {x y : Int} (hx : U64 x) (hy : U64 y) : U64 (addS x y) := by unfold addS U64 at *; split <;> omega
theorem add_eq {x y : Int} (hx : U64 x) (hy : U64 y) : m89 x y = some (addS x y) := by
  unfold U64 at hx hy
  simp only [m89, m146, Option.bind_some, addS]
  rw [wrapu_id (n := 18446744073709551615 - y) (by omega) (by omega)]
  by_cases h : x + y ≤ 18446744073709551615
  · rw [if_neg (by omega), if_pos h, wrapu_id (by omega) h]
  · rw [if_pos (by omega), if_neg h]
theorem addR_eq {x y : Int} (hx : U64 x) (hy : U64 y) : m39 x y = some (addS x y) := by
  unfold U64 at hx hy
  simp only [m39, addS]
  have e : ∀ n : Int, 0 ≤ n → n.tdiv 4294967296 = n / 4294967296 := fun n h => Int.tdiv_eq_ediv_of_nonneg h
  have f : ∀ n : Int, 0 ≤ n → n.tmod 4294967296 = n % 4294967296 := fun n h => Int.tmod_eq_emod_of_nonneg h
  have w : ∀ n : Int, 0 ≤ n → n ≤ 18446744073709551615 → IntKind.u64.wrap n = n := fun n => wrapu_id
  rw [e x hx.1, e y hy.1, f x hx.1, f y hy.1]
  rw [w (x / 4294967296) (by omega) (by omega), w (y / 4294967296) (by omega) (by omega), w (x / 4294967296 + y / 4294967296) (by omega) (by omega), w (x % 4294967296 + y % 4294967296) (by omega) (by omega)]
  rw [e _ (by omega), f _ (by omega), w ((x % 4294967296 + y % 4294967296) / 4294967296) (by omega) (by omega)]
  rw [w (x / 4294967296 + y / 4294967296 + (x % 4294967296 + y % 4294967296) / 4294967296) (by omega) (by omega)]
  by_cases h : x + y ≤ 18446744073709551615
  · rw [if_neg (by omega), if_pos h]
    rw [w ((x / 4294967296 + y / 4294967296 + (x % 4294967296 + y % 4294967296) / 4294967296) * 4294967296) (by omega) (by omega)]
    rw [w _ (by omega) (by omega)]
    congr 1; omega
  · rw [if_pos (by omega), if_neg h]
/-- The nodes, as the document counts them. -/
theorem nodesR_ev (l : List S_api_Arc) (hl : Sz l) : ∃ ns, Ev (fun k => m36 k l) ns ∧ ns.Pairwise (· < ·) ∧ ns.length ≤ 64 ∧ ∀ x, x ∈ ns ↔ (1 ≤ x ∧ x ≤ 64 ∧ IsNode l x) := by
  have h1 : ∀ y : Int, Ev (fun k => m36_l1 l y k false 0) (l.any fun a => decide (a.From = y) || decide (a.To = y)) := fun y => by
    have := ev_list0 hl (L := fun k (s : Bool) i => m36_l1 l y k s i) (fun s a => s || (decide (a.From = y) || decide (a.To = y))) (fun s => s) (fun _ _ => True) (fun i hi s _ => ⟨trivial, fun o h => ?_⟩) (fun s _ => ?_) false trivial
    · rw [foldl_any] at this; simpa using this
    · refine Ev.succ ?_
      simp only [m36_l1]
      refine Ev.pos (by omega) ?_
      rw [wrap_nat1 hl hi]
      refine Ev.bind (v := s || (decide (l[i].From = y) || decide (l[i].To = y))) (Ev.of ?_) h
      cases s with
      | true => simp
      | false =>
        rw [rdx_lt hi]
        by_cases h1 : l[i].From = y <;> simp [h1]
    · refine Ev.succ ?_
      simp only [m36_l1]
      exact Ev.neg (by omega) (Ev.pure _)
  let p : Int → Bool := fun y => l.any fun a => decide (a.From = y) || decide (a.To = y)
  refine ⟨(ints 1 64).filter p, ?_, ints_lt.filter _, ?_, fun x => ?_⟩
  · have := ev_ints (lo := 1) (hi := 64) (L := fun k (s : List Int) y => m36_l0 l k s y) (fun s y => if p y = true then s ++ [y] else s) (fun s => s) (fun y s => (s.length : Int) ≤ y - 1) (fun y s h1' h2 hv => ⟨?_, fun o h => ?_⟩) (fun s _ => ?_) 64 1 [] (by omega) (by omega) (by simp)
    · rw [foldl_filter] at this
      exact Ev.bind this (Ev.pure _)
    · split <;> simp <;> omega
    · refine Ev.succ ?_
      simp only [m36_l0]
      refine Ev.pos h2 (Ev.bind (h1 y) ?_)
      rw [wrap_id (n := y + 1) (by omega) (by omega)]
      refine Ev.bind (v := if p y = true then s ++ [y] else s) (Ev.of ?_) h
      by_cases hp : p y = true
      · rw [if_pos hp, if_pos hp, appd_ok (by simp; omega)]; rfl
      · rw [if_neg hp, if_neg hp]
    · refine Ev.succ ?_
      simp only [m36_l0]
      exact Ev.neg (by omega) (Ev.pure _)
  · exact Nat.le_trans (List.length_filter_le _ _) (by rw [ints_len]; exact Nat.le_refl _)
  · rw [List.mem_filter, mem_ints]
    simp only [p, List.any_eq_true, Bool.or_eq_true, decide_eq_true_eq, IsNode]
    constructor
    · rintro ⟨h1, a, ha, h⟩
      exact ⟨by omega, by omega, a, ha, by rcases h with h | h <;> simp [h]⟩
    · rintro ⟨h1, h2, a, ha, h⟩
      exact ⟨⟨by omega, by omega⟩, a, ha, by rcases h with h | h <;> simp [h]⟩
end Go.Proofs.Ytbielnhpfbhkgaa
