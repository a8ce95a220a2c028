/- Plain facts: a partial function that gives one value from some number of rounds on. -/
import Derived.Test.YtbielnhpfbhkgaaSlB
set_option linter.unusedVariables false
set_option linter.unusedSimpArgs false
namespace Go.Proofs.Ytbielnhpfbhkgaa
open Go Go.RowKit

/-- From some number of rounds on. -/
def Ev {α : Type} (f : Nat → Option α) (v : α) : Prop := ∃ K, ∀ k, K ≤ k → f k = some v
section
variable {α β ρ σ : Type} {f : Nat → Option α} {g : Nat → α → Option β} {v : α} {u : β}
theorem Ev.pure (v : α) : Ev (fun _ => some v) v := ⟨0, fun _ _ => rfl⟩
theorem Ev.of {x : Option α} (h : x = some v) : Ev (fun _ => x) v := ⟨0, fun _ _ => h⟩
theorem Ev.all (h : ∀ k, f k = some v) : Ev f v := ⟨0, fun k _ => h k⟩
theorem Ev.eq {f' : Nat → Option α} (h : Ev f v) (e : ∀ k, f' k = f k) : Ev f' v := let ⟨K, a⟩ := h; ⟨K, fun k hk => (e k).trans (a k hk)⟩
theorem Ev.bind (h1 : Ev f v) (h2 : Ev (fun k => g k v) u) : Ev (fun k => (f k).bind (g k)) u := by
  obtain ⟨K1, a1⟩ := h1
  obtain ⟨K2, a2⟩ := h2
  exact ⟨max K1 K2, fun k hk => by show (f k).bind (g k) = some u; rw [a1 k (by omega)]; exact a2 k (by omega)⟩
theorem Ev.bnd {x : Option α} (h1 : x = some v) (h2 : Ev (fun k => g k v) u) : Ev (fun k => x.bind (g k)) u := by subst h1; exact h2
theorem Ev.succ (h : Ev (fun k => f (k + 1)) v) : Ev f v := by
  obtain ⟨K, a⟩ := h
  refine ⟨K + 1, fun k hk => ?_⟩
  obtain ⟨j, rfl⟩ : ∃ j, k = j + 1 := ⟨k - 1, by omega⟩
  exact a j (by omega)
theorem Ev.get (h : Ev f v) : ∃ k, f k = some v := let ⟨K, a⟩ := h; ⟨K, a K (Nat.le_refl _)⟩
theorem Ev.pos {c : Prop} [Decidable c] {f g : Nat → Option α} (hc : c) (h : Ev f v) : Ev (fun k => if c then f k else g k) v := by
  obtain ⟨K, a⟩ := h; exact ⟨K, fun k hk => (if_pos hc).trans (a k hk)⟩
theorem Ev.neg {c : Prop} [Decidable c] {f g : Nat → Option α} (hc : ¬ c) (h : Ev g v) : Ev (fun k => if c then f k else g k) v := by
  obtain ⟨K, a⟩ := h; exact ⟨K, fun k hk => (if_neg hc).trans (a k hk)⟩
theorem Ev.uniq (h : Ev f v) {v' : α} (h' : Ev f v') : v = v' := by
  obtain ⟨K1, a1⟩ := h
  obtain ⟨K2, a2⟩ := h'
  have e1 := a1 (max K1 K2) (by omega)
  have e2 := a2 (max K1 K2) (by omega)
  rw [e1] at e2; cases e2; rfl
/-- A part that returns, or goes on. -/
theorem Ev.onRet {h1 : Nat → Option (Out ρ σ)} {F : Nat → ρ → Option α} {G : Nat → σ → Option α} {q : ρ} (h : Ev h1 (.ret q)) (h' : Ev (fun k => F k q) v) : Ev (fun k => (h1 k).bind fun s => s.on (F k) (G k)) v := Ev.bind h h'
theorem Ev.onGo {h1 : Nat → Option (Out ρ σ)} {F : Nat → ρ → Option α} {G : Nat → σ → Option α} {s : σ} (h : Ev h1 (.go s)) (h' : Ev (fun k => G k s) v) : Ev (fun k => (h1 k).bind fun s => s.on (F k) (G k)) v := Ev.bind h h'
end
theorem ite_t (c : Prop) [Decidable c] (x : Bool) : (if c then some true else some x) = some (decide c || x) := by by_cases h : c <;> simp [h]
theorem ite_f (c : Prop) [Decidable c] (x : Bool) : (if c then some x else some false) = some (decide c && x) := by by_cases h : c <;> simp [h]
theorem wrap_id {n : Int} (h1 : -9223372036854775808 ≤ n) (h2 : n ≤ 9223372036854775807) : IntKind.i64.wrap n = n := by rw [IntKind.wrap_i64]; omega
theorem wrapu_id {n : Int} (h1 : 0 ≤ n) (h2 : n ≤ 18446744073709551615) : IntKind.u64.wrap n = n := by rw [IntKind.wrap_u64]; omega
section
variable {α : Type}
theorem rdx_nat (xs : List α) (i : Nat) : rdx xs (i : Int) = xs[i]? := by simp [rdx]
theorem rdx_lt {xs : List α} {i : Nat} (h : i < xs.length) : rdx xs (i : Int) = some xs[i] := by rw [rdx_nat]; simp [h]
theorem rdx_of {xs : List α} {i : Int} (h0 : 0 ≤ i) (h1 : i < xs.length) : ∃ x, rdx xs i = some x ∧ xs[i.toNat]? = some x := by
  have hlt : i.toNat < xs.length := by omega
  refine ⟨xs[i.toNat], ?_, by simp [hlt]⟩
  simp [rdx, h0, hlt]
theorem appd_ok {N : Nat} {xs ys : List α} (h : xs.length + ys.length ≤ N) : appd N xs ys = some (xs ++ ys) := by simp [appd, h]
theorem mput_len (m : List (Int × α)) (k : Int) (x : α) : (mput m k x).length ≤ m.length + 1 := by
  induction m with
  | nil => simp [mput]
  | cons p m ih =>
    obtain ⟨j, y⟩ := p
    simp only [mput]
    split
    · simp
    · simp; omega
theorem mem_mput {m : List (Int × α)} {k j : Int} {x : α} (h : j ∈ mkeys (mput m k x)) : j = k ∨ j ∈ mkeys m := by
  by_cases hk : k ∈ mkeys m
  · rw [mput_old m k x hk] at h; exact .inr h
  · rw [mput_new m k x hk] at h
    simp only [mkeys, List.map_append, List.mem_append, List.map_cons, List.map_nil, List.mem_singleton] at h ⊢
    rcases h with h | h
    · exact .inr h
    · exact .inl h
theorem skeys_ok {m : List (Int × α)} (h1 : m.length ≤ 17592186044416) (h2 : ∀ k ∈ mkeys m, -9223372036854775808 ≤ k ∧ k ≤ 9223372036854775807) : skeys m = some (sortZ (mkeys m)) := by
  unfold skeys; rw [if_pos ⟨h1, h2⟩]
theorem mem_mput_iff {m : List (Int × α)} {k j : Int} {x : α} : j ∈ mkeys (mput m k x) ↔ j = k ∨ j ∈ mkeys m := by
  refine ⟨mem_mput, fun h => ?_⟩
  by_cases hk : k ∈ mkeys m
  · rw [mput_old m k x hk]
    rcases h with rfl | h
    · exact hk
    · exact h
  · rw [mput_new m k x hk]
    simp only [mkeys, List.map_append, List.mem_append, List.map_cons, List.map_nil, List.mem_singleton] at h ⊢
    exact h.symm
theorem mput_nodup {m : List (Int × α)} {k : Int} {x : α} (h : (mkeys m).Nodup) : (mkeys (mput m k x)).Nodup := by
  by_cases hk : k ∈ mkeys m
  · rw [mput_old m k x hk]; exact h
  · rw [mput_new m k x hk]
    simp only [mkeys, List.map_append, List.map_cons, List.map_nil] at h hk ⊢
    exact List.nodup_append.2 ⟨h, by simp, fun a ha b hb => by simp at hb; subst hb; exact fun e => hk (by rw [← e]; exact ha)⟩
theorem mem_sortZ {l : List Int} {x : Int} : x ∈ sortZ l ↔ x ∈ l := (sortZ_permS l).mem_iff
theorem sortZ_lt {l : List Int} (h : l.Nodup) : (sortZ l).Pairwise (· < ·) := by
  have h1 := sortZ_sorted l
  have h2 : (sortZ l).Nodup := (sortZ_permS l).nodup_iff.2 h
  exact (h1.and h2).imp fun ⟨a, b⟩ => by omega
/-- No more different ones than there are. -/
theorem nodup_le [DecidableEq α] : ∀ {l L : List α}, l.Nodup → (∀ x ∈ l, x ∈ L) → l.length ≤ L.length
  | [], _, _, _ => Nat.zero_le _
  | x :: l, L, h, hs => by
    have h' := List.nodup_cons.1 h
    have hx : x ∈ L := hs x (List.mem_cons_self ..)
    have ih := nodup_le (l := l) (L := L.erase x) h'.2 fun y hy => by
      have hne : y ≠ x := fun e => h'.1 (by rw [← e]; exact hy)
      exact (List.mem_erase_of_ne hne).2 (hs y (List.mem_cons_of_mem _ hy))
    rw [List.length_erase_of_mem hx] at ih
    have : 0 < L.length := List.length_pos_of_mem hx
    simp only [List.length_cons]; omega
end
end Go.Proofs.Ytbielnhpfbhkgaa
