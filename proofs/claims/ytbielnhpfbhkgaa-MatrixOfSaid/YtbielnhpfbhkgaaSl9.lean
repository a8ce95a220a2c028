/- The keys of a map, sorted. -/
import Derived.Test.YtbielnhpfbhkgaaSl8
import Derived.Shelf.SlIterI.Nil
import Derived.Shelf.SortM.Plain
import Derived.Shelf.SortM.SortNone
set_option linter.unusedVariables false
set_option linter.unusedSimpArgs false
namespace Go.Proofs.Ytbielnhpfbhkgaa
open Go Go.RowKit

def insZ (x : Int) : List Int → List Int
  | [] => [x]
  | y :: l => if x ≤ y then x :: y :: l else y :: insZ x l
def sortZ : List Int → List Int
  | [] => []
  | x :: l => insZ x (sortZ l)
theorem insZ_perm (x : Int) : ∀ l : List Int, (insZ x l).Perm (x :: l)
  | [] => List.Perm.refl _
  | y :: l => by
    simp only [insZ]
    split
    · exact List.Perm.refl _
    · exact ((insZ_perm x l).cons y).trans (List.Perm.swap x y l)
theorem sortZ_permS : ∀ l : List Int, (sortZ l).Perm l
  | [] => List.Perm.refl _
  | x :: l => (insZ_perm x _).trans ((sortZ_permS l).cons x)
theorem insZ_sorted (x : Int) : ∀ l : List Int, l.Pairwise (· ≤ ·) → (insZ x l).Pairwise (· ≤ ·)
  | [], _ => List.pairwise_singleton _ _
  | y :: l, h => by
    simp only [insZ]
    have h' := List.pairwise_cons.1 h
    split
    · rename_i hxy
      refine List.pairwise_cons.2 ⟨fun z hz => ?_, h⟩
      cases hz with
      | head => exact hxy
      | tail _ hz => exact Int.le_trans hxy (h'.1 z hz)
    · rename_i hxy
      refine List.pairwise_cons.2 ⟨fun z hz => ?_, insZ_sorted x l h'.2⟩
      rcases List.mem_cons.1 ((insZ_perm x l).mem_iff.1 hz) with rfl | hz
      · omega
      · exact h'.1 z hz
theorem sortZ_sorted : ∀ l : List Int, (sortZ l).Pairwise (· ≤ ·)
  | [] => List.Pairwise.nil
  | x :: l => insZ_sorted x _ (sortZ_sorted l)
theorem sortZ_eq (l : List Int) : (l.mergeSort fun x y => decide (x ≤ y)) = sortZ l := by
  have tr : ∀ a b c : Int, leI a b = true → leI b c = true → leI a c = true := fun a b c h1 h2 => by simp only [leI, decide_eq_true_eq] at *; exact Int.le_trans h1 h2
  have to : ∀ a b : Int, (leI a b || leI b a) = true := fun a b => by simp only [leI, Bool.or_eq_true, decide_eq_true_eq]; exact Int.le_total a b
  refine List.Perm.eq_of_pairwise (le := fun a b => leI a b = true) (fun a b _ _ h1 h2 => ?_) (List.pairwise_mergeSort tr to l) ((sortZ_sorted l).imp fun h => by simpa [leI] using h) ((List.mergeSort_perm l leI).trans (sortZ_permS l).symm)
  simp only [leI, decide_eq_true_eq] at h1 h2
  exact Int.le_antisymm h1 h2
theorem sortZ_perm {l l' : List Int} (h : l.Perm l') : (l.mergeSort fun x y => decide (x ≤ y)) = sortZ l' := (mergeSort_of_perm_i h).trans (sortZ_eq l')
/-- What 'slices.Sorted(maps.Keys(m))' gives, as long as it fits memory. -/
def skeys {α : Type} (m : List (Int × α)) : Option (List Int) := if m.length ≤ 17592186044416 ∧ ∀ k ∈ mkeys m, -9223372036854775808 ≤ k ∧ k ≤ 9223372036854775807 then some (sortZ (mkeys m)) else none
theorem skeys_some {α : Type} {m : List (Int × α)} {r : List Int} (h : skeys m = some r) : r = sortZ (mkeys m) ∧ m.length ≤ 17592186044416 ∧ ∀ k ∈ mkeys m, -9223372036854775808 ≤ k ∧ k ≤ 9223372036854775807 := by
  unfold skeys at h
  split at h
  · rename_i hc; cases h; exact ⟨rfl, hc.1, hc.2⟩
  · cases h
abbrev Rtriv : Value → Option (DataW Unit × List MemPlace) := fun _ => some (.lit (.bool true), [])
section
variable {P : Program} {α : Type} {c : Cod α} {g : Bool} {w w' z : World} {I : Hp} {r : List Asn} {m : List (Int × α)} {b : Nat}
theorem ents_key {es : List MapEntry} {m : List (Int × α)} (h : Ents c g I es m) : es.map (·.key) = (mkeys m).map encZ := by
  induction h with
  | nil => rfl
  | cons h _ ih => simp only [List.map_cons, mkeys] at ih ⊢; rw [ih, h.key]
theorem St.ownsMap {kt : TypeId} (hk : P.underlying kt = some (.int .i64)) (H : St z I w r) (i : Nat) (hi : r[i]? = some (MapR c g b m)) (hl : m.length ≤ 17592186044416) (hw : ∀ k ∈ mkeys m, -9223372036854775808 ≤ k ∧ k ≤ 9223372036854775807) :
    ∃ D0 : DataW Unit, w.ownsMap P kt Rtriv b m.length D0 ∧ (intKeys D0).Perm (mkeys m) ∧ Maps.size D0 = m.length := by
  obtain ⟨es, clock, J, _, _, hb, s, e⟩ := H.map_at i hi
  have hkeys := ents_key e
  have hlen := e.len
  have hrd : ∀ x ∈ es.toList, ∃ k, x.key = encZ k ∧ k ∈ mkeys m := fun x hx => by
    have : x.key ∈ es.toList.map (·.key) := List.mem_map.2 ⟨x, hx, rfl⟩
    rw [hkeys] at this
    obtain ⟨k, h1, h2⟩ := List.mem_map.1 this
    exact ⟨k, h2.symm, h1⟩
  have hrdx : ∀ x ∈ es.toList, ∃ k, x.key = encZ k ∧ WideElems.rd P kt Rtriv x = some (.int .i64 k, .lit (.bool true)) := fun x hx => by
    obtain ⟨k, hk1, hk2⟩ := hrd x hx
    obtain ⟨h1, h2⟩ := hw k hk2
    refine ⟨k, hk1, ?_⟩
    have hwf : (Lit.int .i64 k).wf = true := by
      have e1 : IntKind.i64.min = -9223372036854775808 := by decide
      have e2 : IntKind.i64.max = 9223372036854775807 := by decide
      simp [Lit.wf, e1, e2, h1, h2]
    simp [WideElems.rd, keyOf, hk, mapKey, hk1, hwf]
  have hfit : WideElems.Fit P kt Rtriv es clock := ⟨by
      have : es.size = m.length := by simpa using hlen
      rw [this]; exact Nat.le_trans hl (by decide), s, fun x hx => by
      obtain ⟨k, _, h⟩ := hrdx x hx
      exact ⟨_, h⟩⟩
  refine ⟨_, ⟨es, clock, hb, hfit, by simpa using Nat.le_of_eq hlen, rfl⟩, ?_, ?_⟩
  · have hp := WideShapes.sorted_perm (es.toList.map (WideElems.rg P kt Rtriv))
    refine (hp.map _).trans ?_
    rw [List.map_map]
    refine List.Perm.of_eq ?_
    have : (es.toList.map ((fun p : Lit × DataW Unit => Go.intOf p.1) ∘ WideElems.rg P kt Rtriv)).map encZ = (mkeys m).map encZ := by
      rw [← hkeys, List.map_map]
      refine List.map_congr_left fun x hx => ?_
      obtain ⟨k, h1, h2⟩ := hrdx x hx
      simp [WideElems.rg, h2, h1, Go.intOf]
    exact (List.map_inj_right (fun x y h => encZ_inj h)).1 this
  · have hp := (WideShapes.sorted_perm (es.toList.map (WideElems.rg P kt Rtriv))).length_eq
    simp only [List.length_map] at hp
    show List.length _ = _
    rw [hp]; exact hlen
/-- A new row, and nothing else has turned. -/
theorem St.newRow {e n : Nat} {v : Value} {xs : List Int} (H : St z I w r) (hb : Below w.heap.size w w') (hz : z.drawn = 0) (ho : w'.ownsRow w.heap.size e 1 v n (xs.map encZ)) : St z I w' (OwnSl (cInt .i64) v xs :: r) := by
  have H1 : St z I w (Pk [] :: r) := H.shut (k := [])
  obtain ⟨hlen, ho⟩ := ho
  have hxl : xs.length = n := by simpa using hlen
  rcases ho with ⟨rfl, h0⟩ | ⟨g, cap, cur, rfl, hg, hh, hcap, hm, hsz, htk⟩
  · refine H1.turn hb.os hb.tape hb.output (by omega) fun J h1 _ _ _ _ => ⟨fun _ => none, .inl ⟨List.eq_nil_of_length_eq_zero (by omega), none, rfl⟩, Hp.le_nil _, fun _ => .inl rfl, fun b _ hlt => hb.block b hlt⟩
  · refine H1.turn hb.os hb.tape hb.output (by omega) fun J h1 _ _ _ _ => ⟨one g (.cells cur e (0, 0)), .inr ⟨g, 0, cap, cur.toList, e, by rw [hxl]; rfl, by omega, ?_, by simp [one], fun i x hx => ?_⟩, one_le hh, fun b => ?_, fun b _ hlt => hb.block b hlt⟩
    · show 0 + cap * 1 ≤ cur.toList.length
      simp [hsz]
    · refine ⟨[encZ x], fun j u hj => ?_, rfl⟩
      have hj0 : j = 0 := by
        cases j with
        | zero => rfl
        | succ j => simp at hj
      subst hj0
      simp at hj; subst hj
      have hi := (List.getElem?_eq_some_iff.1 hx).1
      have h2 : (cur.toList.take (n * 1))[i]? = some (encZ x) := by rw [htk]; simp [hx]
      rw [List.getElem?_take] at h2
      split at h2
      · show (cur.toList.toArray)[0 + i * 1 + 0]? = _
        simpa using h2
      · cases h2
    · by_cases hbg : b = g
      · subst hbg; exact .inr (.inr hg)
      · exact .inl (by simp [one, hbg])
end
end Go.Proofs.Ytbielnhpfbhkgaa
