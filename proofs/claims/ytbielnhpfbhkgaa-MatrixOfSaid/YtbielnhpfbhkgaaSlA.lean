/- A law's arguments: what reads as data lies as its codec says; and what is left behind. -/
import Derived.Test.YtbielnhpfbhkgaaSlB
import Derived.OpenShut
import Derived.ProofKit
import Derived.ShutString
import Derived.ChangeOld
import Derived.SizedLaws
import Derived.Carry
set_option linter.unusedVariables false
set_option linter.unusedSimpArgs false
namespace Go.Proofs.Ytbielnhpfbhkgaa
open Go Go.RowKit

section
variable {H : Type} {enc : TypeId × Value → H} {P : Program} {w : World} {sp : Nat → Bool} {hd : Bool}
/-- What reads as data of this type lies as its codec says. -/
def Opens (enc : TypeId × Value → H) (P : Program) (w : World) (sp : Nat → Bool) (hd : Bool) {α : Type} (t : TypeId) (c : Cod α) (g : α → Prop) : Prop :=
  ∀ (fuel : Nat) (cs : List Value) (x : DataW H × List MemPlace), DataW.trod enc P w 0 sp hd fuel t cs = some x → ∃ y, c.rd (hp w) cs y ∧ g y
def I64 (n : Int) : Prop := -9223372036854775808 ≤ n ∧ n ≤ 9223372036854775807
theorem wf_i64 {n : Int} (h : (Lit.int .i64 n).wf = true) : I64 n := by
  have e1 : IntKind.i64.min = -9223372036854775808 := by decide
  have e2 : IntKind.i64.max = 9223372036854775807 := by decide
  simp only [Lit.wf, e1, e2, Bool.and_eq_true, decide_eq_true_eq] at h
  exact h
theorem opens_int' {t : TypeId} {k : IntKind} (ht : P.underlying t = some (.int k)) : Opens enc P w sp hd t (cInt k) (fun n => (Lit.int k n).wf = true) := fun fuel cs x h => by
  cases fuel with
  | zero => simp [DataW.trod] at h
  | succ n =>
    unfold DataW.trod at h
    rw [ht] at h
    split at h <;> simp_all
    rename_i k' m _ _
    obtain ⟨⟨rfl, hw⟩, _⟩ := h
    exact ⟨_, rfl, hw⟩
theorem opens_int {t : TypeId} (ht : P.underlying t = some (.int .i64)) : Opens enc P w sp hd t (cInt .i64) I64 := fun fuel cs x h => by
  obtain ⟨y, h1, h2⟩ := opens_int' ht fuel cs x h
  exact ⟨y, h1, wf_i64 h2⟩
theorem opens_bool {t : TypeId} (ht : P.underlying t = some .bool) : Opens enc P w sp hd t cBool (fun _ => True) := fun fuel cs x h => by
  cases fuel with
  | zero => simp [DataW.trod] at h
  | succ n =>
    unfold DataW.trod at h
    rw [ht] at h
    split at h <;> try (simp_all; done)
    exact ⟨_, rfl, trivial⟩
theorem opens_str {t : TypeId} (ht : P.underlying t = some .string) : Opens enc P w sp hd t cStr (fun s => s.size ≤ maxLen) := fun fuel cs x h => by
  cases fuel with
  | zero => simp [DataW.trod] at h
  | succ n =>
    unfold DataW.trod at h
    rw [ht] at h
    split at h <;> simp_all
    exact ⟨_, rfl, h.1⟩
theorem cells_sec {a : Addr} {n : Nat} {cs : List Value} (h : w.cells? 0 a n = some cs) : cs.length = n ∧ ∀ j v, cs[j]? = some v → w.cell? (a.add j) = some v := by
  unfold World.cells? at h
  rw [if_pos (Nat.zero_le _)] at h
  refine ⟨by simpa using mapM_some_length h, fun j v hj => ?_⟩
  have hlt : j < n := by
    have h1 := (List.getElem?_eq_some_iff.1 hj).1
    have h2 := mapM_some_length h
    simp at h2; omega
  have := mapM_some_get h j j (by simp [hlt])
  rw [this]; exact hj
theorem add_add (a : Addr) (i j : Nat) : (a.add i).add j = a.add (i + j) := by
  unfold Addr.add
  by_cases hi : i = 0
  · subst hi; simp
  · by_cases hj : j = 0
    · subst hj; simp [hi]
    · simp [hi, hj, Nat.add_assoc]
/-- A slice. -/
theorem opens_sl {α : Type} {c : Cod α} {g : α → Prop} {t e : TypeId} (ht : P.underlying t = some (.slice e)) (hc : P.cellsOf e = c.n) (h0 : 0 < c.n) (ho : Opens enc P w sp hd e c g) {fuel : Nat} {cs : List Value} {x : DataW H × List MemPlace} (h : DataW.trod enc P w 0 sp hd fuel t cs = some x) :
    ∃ v xs, cs = [v] ∧ RdSl c (hp w) (hp w) v xs ∧ (∀ y ∈ xs, g y) ∧ xs.length ≤ 9223372036854775807 := by
  rcases DataW.trod_slice ht h with ⟨rfl, _⟩ | ⟨a, len, cap, elems, rest, n, _, rfl, _, _, hl, hm, hlen, hel, _, _⟩
  · exact ⟨_, [], rfl, ⟨⟨none, 0, rfl, Nat.le_refl _⟩, fun i x h => by cases h⟩, (fun y hy => nomatch hy), Nat.zero_le _⟩
  · have each : ∀ i, i < len → ∃ cs y, w.cells? 0 (a.add (i * c.n)) c.n = some cs ∧ c.rd (hp w) cs y ∧ g y := fun i hi => by
      have h1 := hel i hi
      rw [hc] at h1
      have h2 : ∃ z, elems[i]? = some z := ⟨elems[i]'(by omega), by simp⟩
      obtain ⟨z, hz⟩ := h2
      rw [hz] at h1
      obtain ⟨cs, e1, e2⟩ := Option.bind_eq_some_iff.1 h1
      obtain ⟨y, e3, e4⟩ := ho _ _ _ e2
      exact ⟨cs, y, e1, e3, e4⟩
    have build : ∀ m, m ≤ len → ∃ xs : List α, xs.length = m ∧ ∀ i y, xs[i]? = some y → ∃ cs, w.cells? 0 (a.add (i * c.n)) c.n = some cs ∧ c.rd (hp w) cs y ∧ g y := by
      intro m
      induction m with
      | zero => exact fun _ => ⟨[], rfl, fun i y h => by cases h⟩
      | succ m ih =>
        intro hm
        obtain ⟨xs, h1, h2⟩ := ih (by omega)
        obtain ⟨cs, y, e1, e2, e3⟩ := each m (by omega)
        refine ⟨xs ++ [y], by simp [h1], fun i u hu => ?_⟩
        rcases Nat.lt_or_ge i xs.length with hi | hi
        · rw [List.getElem?_append_left hi] at hu; exact h2 i u hu
        · rw [List.getElem?_append_right hi] at hu
          have hi0 : i - xs.length = 0 := by
            have := (List.getElem?_eq_some_iff.1 hu).1
            simp at this; omega
          rw [hi0] at hu; simp at hu; subst hu
          have : i = m := by omega
          subst this
          exact ⟨cs, e1, e2, e3⟩
    obtain ⟨xs, hxl, hx⟩ := build len (Nat.le_refl _)
    have hspot : 0 < len → a.spot = none := fun hlt => by
      obtain ⟨cs, y, e1, e2, _⟩ := each 0 hlt
      obtain ⟨hcl, hcell⟩ := cells_sec e1
      have hcs : ∃ v, cs[0]? = some v := ⟨cs[0]'(by omega), by simp⟩
      obtain ⟨v, hv⟩ := hcs
      have := hcell 0 v hv
      rw [add_add] at this
      simp only [Nat.zero_mul, Nat.zero_add, Addr.add, if_true] at this
      unfold World.cell? at this
      split at this
      · split at this
        · cases this
        · rename_i hs; simpa using hs
      · cases this
    refine ⟨_, xs, rfl, ⟨⟨some a, cap, by rw [hxl], by omega⟩, fun i y hy => ?_⟩, fun y hy => ?_, by rw [hxl]; have : maxLen = 9223372036854775807 := by decide
                                                                                                     omega⟩
    · obtain ⟨cs, e1, e2, _⟩ := hx i y hy
      have hilt := (List.getElem?_eq_some_iff.1 hy).1
      have hs := hspot (by omega)
      obtain ⟨hcl, hcell⟩ := cells_sec e1
      have haddr : ∀ j, (a.add (i * c.n)).add j = ad a.block (a.off + i * c.n + j) := fun j => by
        rw [add_add]
        have : a = ad a.block a.off := by cases a; simp only [ad] at *; subst hs; rfl
        rw [this, ad_add]; simp only [ad, Nat.add_assoc]
      have hcs : ∃ v, cs[0]? = some v := ⟨cs[0]'(by omega), by simp⟩
      obtain ⟨v, hv⟩ := hcs
      have h1 := hcell 0 v hv
      rw [haddr 0] at h1
      unfold World.cell? at h1
      split at h1
      · rename_i cells T fr hb
        refine ⟨a, len, cap, cells, T, fr, rfl, hs, hb, cs, fun j u hj => ?_, e2⟩
        have h2 := hcell j u hj
        rw [haddr j, cell_ad (show w.heap[a.block]? = _ from hb)] at h2
        exact h2
      · cases h1
    · obtain ⟨i, hi⟩ := List.getElem?_of_mem hy
      obtain ⟨_, _, _, h3⟩ := hx i y hi
      exact h3
theorem opens_slice {α : Type} {c : Cod α} {g : α → Prop} {t e : TypeId} (ht : P.underlying t = some (.slice e)) (hc : P.cellsOf e = c.n) (h0 : 0 < c.n) (ho : Opens enc P w sp hd e c g) {v : Value} {d : DataW H} {p : List MemPlace} (h : DataW.Trod enc P w 0 sp hd t v d p) {b : Nat} (hv : Value.okWide P w .any b t v) :
    ∃ xs, RdSl c (hp w) (hp w) v xs ∧ (∀ y ∈ xs, g y) ∧ xs.length ≤ 9223372036854775807 := by
  obtain ⟨fuel, hf⟩ := h
  obtain ⟨a0, len0, cap0, rfl⟩ := WideShapes.okWide_slice ht hv
  obtain ⟨v', xs, e1, h1, h2, h3⟩ := opens_sl ht hc h0 ho hf
  simp [Value.cells] at e1
  subst e1
  exact ⟨xs, h1, h2, h3⟩
/-- The parts of a struct. -/
theorem trod_fields {fs : Array Field} {t : TypeId} {l : List (Nat × Nat × Nat)} (ht : P.underlying t = some (.struct fs)) (hs : (fs.toList.map fun f => (f.type, f.offset, P.cellsOf f.type)) = l) {fuel : Nat} {cs : List Value} {x : DataW H × List MemPlace} (h : DataW.trod enc P w 0 sp hd fuel t cs = some x) :
    cs.length = P.cellsOf t ∧ ∃ n, ∀ (i tt o k : Nat), l[i]? = some (tt, o, k) → ∃ y, DataW.trod enc P w 0 sp hd n tt ((cs.drop o).take k) = some y := by
  obtain ⟨xs, n, _, _, hl, hxl, each⟩ := DataW.trod_struct ht h
  refine ⟨hl, n, fun i tt o k hi => ?_⟩
  rw [← hs, List.getElem?_map] at hi
  obtain ⟨f, hf, e⟩ := Option.map_eq_some_iff.1 hi
  cases e
  have hf' : fs[i]? = some f := by simpa using hf
  have := each i f hf'
  have hlt : i < xs.length := by rw [hxl]; exact (Array.getElem?_eq_some_iff.1 hf').1
  rw [List.getElem?_eq_getElem hlt] at this
  exact ⟨_, this⟩
theorem trod_elems {n k : Nat} {e t : TypeId} (ht : P.underlying t = some (.array n e)) (hk : P.cellsOf e = k) {fuel : Nat} {cs : List Value} {x : DataW H × List MemPlace} (h : DataW.trod enc P w 0 sp hd fuel t cs = some x) :
    cs.length = P.cellsOf t ∧ ∃ m, ∀ i, i < n → ∃ y, DataW.trod enc P w 0 sp hd m e ((cs.drop (i * k)).take k) = some y := by
  subst hk
  obtain ⟨xs, m, _, _, hl, hxl, each⟩ := DataW.trod_array ht h
  refine ⟨hl, m, fun i hi => ?_⟩
  have := each i hi
  rw [List.getElem?_eq_getElem (by omega)] at this
  exact ⟨_, this⟩
theorem len1 {l : List Value} (h : l.length = 1) : ∃ a, l = [a] := by match l, h with | [a], _ => exact ⟨a, rfl⟩
theorem len2 {l : List Value} (h : l.length = 2) : ∃ a b, l = [a, b] := by match l, h with | [a, b], _ => exact ⟨a, b, rfl⟩
theorem len3 {l : List Value} (h : l.length = 3) : ∃ a b c, l = [a, b, c] := by match l, h with | [a, b, c], _ => exact ⟨a, b, c, rfl⟩
theorem len4 {l : List Value} (h : l.length = 4) : ∃ a b c d, l = [a, b, c, d] := by match l, h with | [a, b, c, d], _ => exact ⟨a, b, c, d, rfl⟩
theorem len5 {l : List Value} (h : l.length = 5) : ∃ a b c d e, l = [a, b, c, d, e] := by match l, h with | [a, b, c, d, e], _ => exact ⟨a, b, c, d, e, rfl⟩
end
/-- The world at the begin: all that lies there is known for good. -/
theorem St.begin_ (w : World) : St { w with drawn := 0 } (hp w) w [] := ⟨rfl, rfl, rfl, Nat.zero_le _, hp w, fun _ => none, Hp.le_refl _, Hp.le_refl _, fun _ => .inl rfl, Hp.le_nil _, trivial⟩
theorem St.below {I : Hp} {z w w' : World} {l : List Asn} (H : St z I w' l) (hz : I = hp w) (h1 : z.os = w.os) (h2 : z.tape = w.tape) (h3 : z.output = w.output) : Below w.heap.size w w' := by
  subst hz
  have hb : ∀ k, k < w.heap.size → w'.heap[k]? = w.heap[k]? := fun k hk => by
    have : (hp w) k = some w.heap[k] := by simp [hp, hk]
    have h := H.know.out this
    rw [show w'.heap[k]? = some w.heap[k] from h]; simp [hk]
  refine ⟨H.os.trans h1, H.tape.trans h2, H.output.trans h3, ?_, hb⟩
  rcases Nat.eq_zero_or_pos w.heap.size with h0 | h0
  · omega
  · have := hb (w.heap.size - 1) (by omega)
    rw [Array.getElem?_eq_getElem (show w.heap.size - 1 < w.heap.size by omega)] at this
    have := (Array.getElem?_eq_some_iff.1 this).1
    omega
end Go.Proofs.Ytbielnhpfbhkgaa
