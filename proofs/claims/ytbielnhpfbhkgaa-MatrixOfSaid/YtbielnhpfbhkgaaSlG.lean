/- A struct of two rows of 65: numbers and marks, each as a function. -/
import Derived.Test.YtbielnhpfbhkgaaSlF
set_option linter.unusedVariables false
set_option linter.unusedSimpArgs false
namespace Go.Proofs.Ytbielnhpfbhkgaa
open Go

def bigc (c : Nat → Int) (f : Nat → Bool) : List Value := (List.range 65).map (fun j => Value.int .u64 (c j)) ++ (List.range 65).map (fun j => Value.bool (f j))
def bigv (c : Nat → Int) (f : Nat → Bool) : Value := .agg (bigc c f).toArray
def upd {α : Type} (f : Nat → α) (i : Int) (x : α) : Nat → α := fun j => if j = i.toNat then x else f j
section
variable {c c0 : Nat → Int} {f f0 : Nat → Bool} {i : Int}
theorem bigc_len : (bigc c f).length = 130 := by simp [bigc]
theorem bigc_c (h : 0 ≤ i ∧ i < 65) : (bigc c f)[0 + i.toNat]? = some (.int .u64 (c i.toNat)) := by
  have : i.toNat < 65 := by omega
  unfold bigc
  rw [Nat.zero_add, List.getElem?_append_left (by simpa using this)]
  simp [this]
theorem bigc_f (h : 0 ≤ i ∧ i < 65) : (bigc c f)[65 + i.toNat]? = some (.bool (f i.toNat)) := by
  have : i.toNat < 65 := by omega
  unfold bigc
  rw [List.getElem?_append_right (by simp)]
  simp [this]
theorem bigc_get (j : Nat) : (bigc c f)[j]? = if j < 65 then some (.int .u64 (c j)) else if j < 130 then some (.bool (f (j - 65))) else none := by
  by_cases h : j < 65
  · rw [if_pos h]; unfold bigc; rw [List.getElem?_append_left (by simpa using h)]; simp [h]
  · rw [if_neg h]
    by_cases h2 : j < 130
    · rw [if_pos h2]; unfold bigc; rw [List.getElem?_append_right (by simp; omega)]
      simp [show j - 65 < 65 by omega]
    · rw [if_neg h2, List.getElem?_eq_none (by rw [bigc_len]; omega)]
theorem bigc_setc (h : 0 ≤ i ∧ i < 65) (x : Int) : setL (bigc c f) (0 + i.toNat) [.int .u64 x] = bigc (upd c i x) f := by
  refine List.ext_getElem? fun j => ?_
  rw [setL_get _ _ _ _ (by rw [bigc_len]; simp; omega), bigc_get, bigc_get]
  simp only [List.length_cons, List.length_nil, upd]
  by_cases e : j = i.toNat
  · rw [if_pos (by omega), if_pos (by omega), if_pos e, show j - (0 + i.toNat) = 0 by omega]; rfl
  · rw [if_neg (by omega), if_neg e]
theorem bigc_setf (h : 0 ≤ i ∧ i < 65) (x : Bool) : setL (bigc c f) (65 + i.toNat) [.bool x] = bigc c (upd f i x) := by
  refine List.ext_getElem? fun j => ?_
  rw [setL_get _ _ _ _ (by rw [bigc_len]; simp; omega), bigc_get, bigc_get]
  simp only [List.length_cons, List.length_nil, upd]
  by_cases e : j = 65 + i.toNat
  · rw [if_pos (by omega), if_neg (by omega), if_pos (by omega), if_pos (by omega), show j - (65 + i.toNat) = 0 by omega]; rfl
  · rw [if_neg (by omega)]
    by_cases h1 : j < 65
    · rw [if_pos h1, if_pos h1]
    · rw [if_neg h1, if_neg h1, if_neg (show ¬ j - 65 = i.toNat by omega)]
theorem bigc_all : setL (bigc c0 f0) 0 (bigc c f) = bigc c f := by
  refine List.ext_getElem? fun j => ?_
  rw [setL_get _ _ _ _ (by rw [bigc_len, bigc_len]; omega), bigc_len]
  by_cases h : j < 130
  · rw [if_pos (by omega), Nat.sub_zero]
  · rw [if_neg (by omega), List.getElem?_eq_none (by rw [bigc_len]; omega), List.getElem?_eq_none (by rw [bigc_len]; omega)]
theorem sec_all : ∀ xs : List Value, sec xs 0 xs.length = some xs
  | [] => rfl
  | x :: xs => by simp only [List.length_cons, sec, sec_all xs]
theorem bigc_one : ∀ u ∈ bigc c f, u.oneCell' = true := fun u h => by
  unfold bigc at h
  rcases List.mem_append.1 h with h | h <;> obtain ⟨j, _, rfl⟩ := List.mem_map.1 h <;> rfl
end
section
variable {P : Program} {a : Act} {w z : World} {I : Hp} {N : Nat} {l : List (Nat × Value)} {r : List Asn} {d : Option Nat} {ty : TypeId} {pos : String} {af : Array Edge} {x y : Operand} {b k t T : Nat} {i : Int} {c c0 : Nat → Int} {f f0 : Nat → Bool}
theorem d_indexB {e : TypeId} (ht : P.underlying t = some (.array 65 e)) (hs : ∀ w : World, (sizeOf e).run P w = .ok 1 w) (hE : Env a N l) (hx : ev l x = some (.pointer (some (ad b k)))) (hy : ev l y = some (.int .i64 i)) (h : 0 ≤ i ∧ i < 65) :
    Does P ⟨d, .indexAddr t x y, ty, pos, af, none⟩ a w (Is (.pointer (some (ad b (k + i.toNat)))) w) := by
  refine does_value (w' := w) (v := .pointer (some ((ad b k).add (i.toNat * 1)))) ?_ ⟨by rw [ad_add, Nat.mul_one], rfl⟩
  have h1 : i < ((65 : Nat) : Int) := by omega
  simp [execOp, hE.ev hx, hE.ev hy, Instr.indexAt, Instr.sureAddr, asIntOf, underlying, ht, hs, h.1, h.2]
theorem d_storeB {n : Nat} (ht : ∀ w : World, (sizeOf t).run P w = .ok n w) (h130 : n = 130) (hE : Env a N l) (hx : ev l x = some (.pointer (some (ad b 0)))) (hy : ev l y = some (bigv c f)) (H : St z I w (Bl b T (bigc c0 f0) :: r)) :
    Does P ⟨d, .store t x y, ty, pos, af, none⟩ a w (fun _ w' => St z I w' (Bl b T (bigc c f) :: r)) := by
  have h := d_store (P := P) (d := d) (ty := ty) (pos := pos) (af := af) ht hE hx hy (by show (bigc c f).toArray.size = n; rw [List.size_toArray, bigc_len, h130]) bigc_one H (by rw [bigc_len, h130]; rfl)
  have e : setL (bigc c0 f0) 0 (bigv c f).cells.toList = bigc c f := bigc_all
  rw [e] at h; exact h
theorem d_storeBc {n : Int} (ht : ∀ w : World, (sizeOf t).run P w = .ok 1 w) (hE : Env a N l) (hx : ev l x = some (.pointer (some (ad b (0 + i.toNat))))) (hy : ev l y = some (.int .u64 n)) (h : 0 ≤ i ∧ i < 65) (H : St z I w (Bl b T (bigc c f) :: r)) :
    Does P ⟨d, .store t x y, ty, pos, af, none⟩ a w (fun _ w' => St z I w' (Bl b T (bigc (upd c i n) f) :: r)) := by
  have h' := d_store (P := P) (d := d) (ty := ty) (pos := pos) (af := af) ht hE hx hy rfl (fun u hu => by simp [Value.cells] at hu; subst hu; rfl) H (by rw [bigc_len, Nat.ble_eq]; omega)
  have e : setL (bigc c f) (0 + i.toNat) (Value.int .u64 n).cells.toList = _ := bigc_setc h n
  rw [e] at h'; exact h'
theorem d_storeBf {n : Bool} (ht : ∀ w : World, (sizeOf t).run P w = .ok 1 w) (hE : Env a N l) (hx : ev l x = some (.pointer (some (ad b (65 + i.toNat))))) (hy : ev l y = some (.bool n)) (h : 0 ≤ i ∧ i < 65) (H : St z I w (Bl b T (bigc c f) :: r)) :
    Does P ⟨d, .store t x y, ty, pos, af, none⟩ a w (fun _ w' => St z I w' (Bl b T (bigc c (upd f i n)) :: r)) := by
  have h' := d_store (P := P) (d := d) (ty := ty) (pos := pos) (af := af) ht hE hx hy rfl (fun u hu => by simp [Value.cells] at hu; subst hu; rfl) H (by rw [bigc_len, Nat.ble_eq]; omega)
  have e : setL (bigc c f) (65 + i.toNat) (Value.bool n).cells.toList = _ := bigc_setf h n
  rw [e] at h'; exact h'
theorem d_loadB (ht : Aggr P t 130) (hE : Env a N l) (hx : ev l x = some (.pointer (some (ad b 0)))) (H : St z I w r) (j : Nat) (hi : r[j]? = some (Bl b T (bigc c f))) :
    Does P ⟨d, .load t x, ty, pos, af, none⟩ a w (Is (bigv c f) w) :=
  d_loadA ht hE hx H j hi (by have := sec_all (bigc c f); rw [bigc_len] at this; exact this)
theorem d_loadBc (ht : Scal P t) (hE : Env a N l) (hx : ev l x = some (.pointer (some (ad b (0 + i.toNat))))) (H : St z I w r) (j : Nat) (hi : r[j]? = some (Bl b T (bigc c f))) (h : 0 ≤ i ∧ i < 65) :
    Does P ⟨d, .load t x, ty, pos, af, none⟩ a w (Is (.int .u64 (c i.toNat)) w) := d_load ht hE hx H j hi (bigc_c h)
theorem d_loadBf (ht : Scal P t) (hE : Env a N l) (hx : ev l x = some (.pointer (some (ad b (65 + i.toNat))))) (H : St z I w r) (j : Nat) (hi : r[j]? = some (Bl b T (bigc c f))) (h : 0 ≤ i ∧ i < 65) :
    Does P ⟨d, .load t x, ty, pos, af, none⟩ a w (Is (.bool (f i.toNat)) w) := d_load ht hE hx H j hi (bigc_f h)
theorem aggB (ht : Aggr P t 130) : Aggr P t (bigc c f).length := by rw [bigc_len]; exact ht
end
end Go.Proofs.Ytbielnhpfbhkgaa
