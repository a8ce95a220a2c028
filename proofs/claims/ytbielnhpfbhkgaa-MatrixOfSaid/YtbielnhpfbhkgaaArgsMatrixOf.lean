/- What is to be shown of the plain function of MatrixOf, and its arguments. -/
import Derived.Test.YtbielnhpfbhkgaaM0
import Derived.Test.YtbielnhpfbhkgaaSlA
set_option linter.unusedVariables false
set_option linter.unusedSimpArgs false
namespace Go.Proofs.Ytbielnhpfbhkgaa
open Go Go.RowKit
def ok_S_api_Arc (x : S_api_Arc) : Prop := I64 x.From ∧ I64 x.To ∧ I64 x.Cost
theorem opens60 {H : Type} {enc : TypeId × Value → H} {w : World} {sp : Nat → Bool} {hd : Bool} : Opens enc Try.prog w sp hd 60 c_api_Arc ok_S_api_Arc := by
  intro fuel cs x h
  obtain ⟨hl, n, each⟩ := trod_fields Try.underlying60 (l := [(3, 0, 1), (3, 1, 1), (3, 2, 1)]) (by kernel_rfl) h
  obtain ⟨a, b, c, rfl⟩ := len3 (hl.trans (by kernel_rfl))
  obtain ⟨y0, e0⟩ := each 0 3 0 1 rfl
  obtain ⟨z0, f0, g0⟩ := (opens_int Try.underlying3) _ _ _ e0
  have f0 : [a] = [(.int .i64 z0)] := f0
  simp only [List.cons.injEq, and_true] at f0
  obtain rfl := f0
  obtain ⟨y1, e1⟩ := each 1 3 1 1 rfl
  obtain ⟨z1, f1, g1⟩ := (opens_int Try.underlying3) _ _ _ e1
  have f1 : [b] = [(.int .i64 z1)] := f1
  simp only [List.cons.injEq, and_true] at f1
  obtain rfl := f1
  obtain ⟨y2, e2⟩ := each 2 3 2 1 rfl
  obtain ⟨z2, f2, g2⟩ := (opens_int Try.underlying3) _ _ _ e2
  have f2 : [c] = [(.int .i64 z2)] := f2
  simp only [List.cons.injEq, and_true] at f2
  obtain rfl := f2
  exact ⟨⟨z0, z1, z2⟩, rfl, g0, g1, g2⟩
def matrixOf_pure : Prop := ∀ (a0 : List S_api_Arc) (hg0 : ∀ y ∈ a0, ok_S_api_Arc y) (hl0 : a0.length ≤ 9223372036854775807), ∃ k, m5 k a0 = some true
end Go.Proofs.Ytbielnhpfbhkgaa
