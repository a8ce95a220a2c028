/- Operations: what each does, from what is known of the slots and of memory. -/
import Derived.Test.YtbielnhpfbhkgaaSl1
import Derived.KernelRfl
set_option linter.unusedVariables false
set_option linter.unusedSimpArgs false
namespace Go.Proofs.Ytbielnhpfbhkgaa
open Go

/-- An address in a row of cells. -/
def ad (b k : Nat) : Addr := ⟨b, k, none⟩
theorem ad_add (b k n : Nat) : (ad b k).add n = ad b (k + n) := by unfold ad Addr.add; split <;> simp_all
theorem cell_ad {w : World} {b k : Nat} {cells : Array Value} {T : TypeId} {fr : Nat × Nat} (h : w.heap[b]? = some (.cells cells T fr)) : w.cell? (ad b k) = cells[k]? := by simp [World.cell?, ad, h]
theorem frozen_ad {w : World} {b k : Nat} {cells : Array Value} {T : TypeId} (h : w.heap[b]? = some (.cells cells T (0, 0))) : w.frozen? (ad b k) = false := by simp [World.frozen?, ad, h]

/-- n of the elements from k on. -/
def sec : List Value → Nat → Nat → Option (List Value)
  | _, _, 0 => some []
  | [], _, _ + 1 => none
  | x :: xs, 0, n + 1 => match sec xs 0 n with
    | some l => some (x :: l)
    | none => none
  | _ :: xs, k + 1, n + 1 => sec xs k (n + 1)
def setL : List Value → Nat → List Value → List Value
  | xs, _, [] => xs
  | [], _, _ :: _ => []
  | _ :: xs, 0, v :: vs => v :: setL xs 0 vs
  | x :: xs, k + 1, v :: vs => x :: setL xs k (v :: vs)
theorem sec_spec : ∀ {xs : List Value} {k n : Nat} {l : List Value}, sec xs k n = some l → l.length = n ∧ ∀ j v, l[j]? = some v → xs[k + j]? = some v
  | xs, k, 0, l, h => by
    have h : sec xs k 0 = some [] := by cases xs <;> rfl
    rename_i h'; rw [h] at h'; cases h'; simp
  | [], k, n + 1, l, h => by cases h
  | x :: xs, 0, n + 1, l, h => by
    simp only [sec] at h
    split at h
    · rename_i m hm; cases h
      obtain ⟨h1, h2⟩ := sec_spec hm
      refine ⟨by simp [h1], fun j v hj => ?_⟩
      cases j with
      | zero => simpa using hj
      | succ j =>
        have := h2 j v (by simpa using hj)
        simpa [Nat.add_comm] using this
    · cases h
  | x :: xs, k + 1, n + 1, l, h => by
    simp only [sec] at h
    obtain ⟨h1, h2⟩ := sec_spec h
    refine ⟨h1, fun j v hj => ?_⟩
    have := h2 j v hj
    rw [show k + 1 + j = (k + j) + 1 from by omega]; simpa using this
theorem setL_nil (xs : List Value) (k : Nat) : setL xs k [] = xs := by cases xs <;> rfl
theorem setL_length : ∀ (xs : List Value) (k : Nat) (vs : List Value), (setL xs k vs).length = xs.length
  | xs, _, [] => by rw [setL_nil]
  | [], _, _ :: _ => rfl
  | _ :: xs, 0, v :: vs => by simp [setL, setL_length xs 0 vs]
  | x :: xs, k + 1, v :: vs => by simp [setL, setL_length xs k (v :: vs)]
theorem setL_cons : ∀ (xs : List Value) (k : Nat) (v : Value) (vs : List Value), setL xs k (v :: vs) = setL (xs.set k v) (k + 1) vs
  | [], _, _, [] => rfl
  | [], _, _, _ :: _ => rfl
  | x :: xs, 0, v, [] => by simp [setL, setL_nil]
  | x :: xs, 0, v, u :: vs => by simp [setL]
  | x :: xs, k + 1, v, [] => by
    have := setL_cons xs k v []
    simp only [setL_nil] at this
    simp [setL, this]
  | x :: xs, k + 1, v, u :: vs => by
    have := setL_cons xs k v (u :: vs)
    simp only [setL, List.set_cons_succ]
    rw [this]

theorem oneAll {l : List Value} (h : (l.all fun v => v.oneCell') = true) : ∀ u ∈ l, u.oneCell' = true := List.all_eq_true.1 h
/-- A block of one's own, its cells as a list. -/
abbrev Bl (b : Nat) (T : TypeId) (cs : List Value) : Asn := Ob b (.cells cs.toArray T (0, 0))

section
variable {P : Program}
theorem run_loadCells {w : World} {b : Nat} {cells : Array Value} {T : TypeId} {fr : Nat × Nat} (h : w.heap[b]? = some (.cells cells T fr)) :
    ∀ (n k i : Nat) (vs : List Value) (acc : Array Value), vs.length = n → (∀ j v, vs[j]? = some v → cells[k + i + j]? = some v) → (loadCellsFrom (ad b k) i n acc).run P w = .ok (acc ++ vs.toArray) w
  | 0, k, i, vs, acc, hl, _ => by obtain rfl := List.eq_nil_of_length_eq_zero hl; simp [loadCellsFrom]
  | n + 1, k, i, [], acc, hl, _ => by simp at hl
  | n + 1, k, i, v :: vs, acc, hl, hv => by
    have h0 := hv 0 v rfl
    simp only [loadCellsFrom, Sem.run_bind, run_load, ad_add, cell_ad h]
    rw [show cells[k + i]? = some v from by simpa using h0]
    simp only [Result.andThen_ok]
    rw [run_loadCells h n k (i + 1) vs (acc.push v) (by simpa using hl) (fun j u hj => by
      have := hv (j + 1) u (by simpa using hj)
      rw [show k + (i + 1) + j = k + i + (j + 1) from by omega]; exact this)]
    simp [← Array.append_singleton_assoc]
theorem run_storeCells : ∀ (vs : List Value) {w : World} {b : Nat} {cs : List Value} {T : TypeId} (k i : Nat), w.heap[b]? = some (.cells cs.toArray T (0, 0)) → k + i + vs.length ≤ cs.length → (∀ v ∈ vs, v.oneCell' = true) →
    ∃ w', (storeCells (ad b k) vs i).run P w = .ok () w' ∧ w'.os = w.os ∧ w'.tape = w.tape ∧ w'.output = w.output ∧ w'.drawn = w.drawn ∧ w'.heap = w.heap.setIfInBounds b (.cells (setL cs (k + i) vs).toArray T (0, 0))
  | [], w, b, cs, T, k, i, h, _, _ => ⟨w, by simp [storeCells], rfl, rfl, rfl, rfl, by
      rw [setL_nil]
      apply Array.ext_getElem?
      intro j
      by_cases hj : b = j
      · subst hj
        have hb : b < w.heap.size := (Array.getElem?_eq_some_iff.1 h).1
        rw [h, Array.getElem?_setIfInBounds_self_of_lt hb]
      · rw [Array.getElem?_setIfInBounds_ne hj]⟩
  | v :: vs, w, b, cs, T, k, i, h, hl, h1 => by
    have hb : b < w.heap.size := (Array.getElem?_eq_some_iff.1 h).1
    have hlt : k + i < cs.length := by simp at hl; omega
    have hc : w.cell? (ad b (k + i)) = some cs[k + i] := by rw [cell_ad h]; simp [hlt]
    have hs : (store ((ad b k).add i) v).run P w = .ok () (w.setCell (ad b (k + i)) v) := by
      rw [run_store P w _ v _ (h1 v (by simp)), ad_add, hc]
      simp [frozen_ad h]
    have hw : (w.setCell (ad b (k + i)) v).heap = w.heap.setIfInBounds b (.cells (cs.set (k + i) v).toArray T (0, 0)) := by
      apply Array.ext_getElem?
      intro j
      simp only [World.setCell, ad, Array.getElem?_modify]
      by_cases hj : b = j
      · subst hj; rw [if_pos rfl, h, Array.getElem?_setIfInBounds_self_of_lt hb]; simp
      · rw [if_neg hj, Array.getElem?_setIfInBounds_ne hj]
    have h' : (w.setCell (ad b (k + i)) v).heap[b]? = some (.cells (cs.set (k + i) v).toArray T (0, 0)) := by rw [hw]; simp [hb]
    obtain ⟨w', hr, e1, e2, e3, e5, e4⟩ := run_storeCells vs k (i + 1) h' (by simp at hl ⊢; omega) (fun u hu => h1 u (by simp [hu]))
    refine ⟨w', ?_, e1, e2, e3, e5, ?_⟩
    · simp only [storeCells, Sem.run_bind, hs, Result.andThen_ok]; exact hr
    · rw [e4, hw, setL_cons]
      simp [Nat.add_assoc]

/-- Closed facts on types. -/
def Scal (P : Program) (t : TypeId) : Prop := ∀ w : World, (isAgg t).run P w = .ok false w ∧ (sizeOf t).run P w = .ok 1 w
def Aggr (P : Program) (t : TypeId) (n : Nat) : Prop := ∀ w : World, (isAgg t).run P w = .ok true w ∧ (sizeOf t).run P w = .ok n w
def Slc (P : Program) (t e : TypeId) (n : Nat) : Prop := P.underlying t = some (.slice e) ∧ ∀ w : World, (sizeOf e).run P w = .ok n w
end

section
variable {P : Program} {a : Act} {w : World} {N : Nat} {l : List (Nat × Value)} {d : Option Nat} {ty : TypeId} {pos : String} {af : Array Edge}
theorem d_move {x : Operand} {v : Value} (hE : Env a N l) (hx : ev l x = some v) : Does P ⟨d, .move x, ty, pos, af, none⟩ a w (Is v w) :=
  does_value (w' := w) (by simp only [execOp, Sem.run_pure, hE.ev hx]) ⟨rfl, rfl⟩
theorem d_assign {x : Operand} {v : Value} (hE : Env a N l) (hx : ev l x = some v) : Does P ⟨d, .assign x, ty, pos, af, none⟩ a w (Is v w) :=
  does_value (w' := w) (by simp only [execOp, Sem.run_pure, hE.ev hx]) ⟨rfl, rfl⟩
theorem d_pickT {c x y : Operand} {v : Value} (hE : Env a N l) (hc : ev l c = some (.bool true)) (hx : ev l x = some v) : Does P ⟨d, .pick c x y, ty, pos, af, none⟩ a w (Is v w) :=
  does_value (w' := w) (by simp [execOp, hE.ev hc, hE.ev hx, asBool]) ⟨rfl, rfl⟩
theorem d_pickF {c x y : Operand} {v : Value} (hE : Env a N l) (hc : ev l c = some (.bool false)) (hy : ev l y = some v) : Does P ⟨d, .pick c x y, ty, pos, af, none⟩ a w (Is v w) :=
  does_value (w' := w) (by simp [execOp, hE.ev hc, hE.ev hy, asBool]) ⟨rfl, rfl⟩
theorem d_pT {c x y : Operand} {v : Value} {b : Bool} (hE : Env a N l) (hc : ev l c = some (.bool b)) (hb : b = true) (hx : ev l x = some v) : Does P ⟨d, .pick c x y, ty, pos, af, none⟩ a w (Is v w) := by subst hb; exact d_pickT hE hc hx
theorem d_pF {c x y : Operand} {v : Value} {b : Bool} (hE : Env a N l) (hc : ev l c = some (.bool b)) (hb : b = false) (hy : ev l y = some v) : Does P ⟨d, .pick c x y, ty, pos, af, none⟩ a w (Is v w) := by subst hb; exact d_pickF hE hc hy
theorem d_not {x : Operand} {b : Bool} {t : TypeId} (hE : Env a N l) (hx : ev l x = some (.bool b)) : Does P ⟨d, .unOp .not t x, ty, pos, af, none⟩ a w (Is (.bool (!b)) w) :=
  does_value (w' := w) (by simp [execOp, hE.ev hx, Op.unary]) ⟨rfl, rfl⟩

section
variable {x y : Operand} {k : IntKind} {m n : Int} {t u : TypeId}
theorem d_add (hE : Env a N l) (hx : ev l x = some (.int k m)) (hy : ev l y = some (.int k n)) : Does P ⟨d, .binOp .add t x y u, ty, pos, af, none⟩ a w (Is (.int k (k.wrap (m + n))) w) :=
  does_value (w' := w) (by simp [execOp, hE.ev hx, hE.ev hy, eqGuard, binOp, Op.intArith]) ⟨rfl, rfl⟩
theorem d_sub (hE : Env a N l) (hx : ev l x = some (.int k m)) (hy : ev l y = some (.int k n)) : Does P ⟨d, .binOp .sub t x y u, ty, pos, af, none⟩ a w (Is (.int k (k.wrap (m - n))) w) :=
  does_value (w' := w) (by simp [execOp, hE.ev hx, hE.ev hy, eqGuard, binOp, Op.intArith]) ⟨rfl, rfl⟩
theorem d_mul (hE : Env a N l) (hx : ev l x = some (.int k m)) (hy : ev l y = some (.int k n)) : Does P ⟨d, .binOp .mul t x y u, ty, pos, af, none⟩ a w (Is (.int k (k.wrap (m * n))) w) :=
  does_value (w' := w) (by simp [execOp, hE.ev hx, hE.ev hy, eqGuard, binOp, Op.intArith]) ⟨rfl, rfl⟩
theorem d_quo (hE : Env a N l) (hx : ev l x = some (.int k m)) (hy : ev l y = some (.int k n)) (h0 : n ≠ 0) : Does P ⟨d, .binOp .quo t x y u, ty, pos, af, none⟩ a w (Is (.int k (k.wrap (m.tdiv n))) w) :=
  does_value (w' := w) (by simp [execOp, hE.ev hx, hE.ev hy, eqGuard, binOp, Op.intDiv, h0]) ⟨rfl, rfl⟩
theorem d_rem (hE : Env a N l) (hx : ev l x = some (.int k m)) (hy : ev l y = some (.int k n)) (h0 : n ≠ 0) : Does P ⟨d, .binOp .rem t x y u, ty, pos, af, none⟩ a w (Is (.int k (m.tmod n)) w) :=
  does_value (w' := w) (by simp [execOp, hE.ev hx, hE.ev hy, eqGuard, binOp, Op.intDiv, h0]) ⟨rfl, rfl⟩
theorem d_eql (hE : Env a N l) (hx : ev l x = some (.int k m)) (hy : ev l y = some (.int k n)) : Does P ⟨d, .binOp .eql t x y u, ty, pos, af, none⟩ a w (Is (.bool (decide (m = n))) w) :=
  does_value (w' := w) (v := .bool (m == n)) (by simp [execOp, hE.ev hx, hE.ev hy, eqGuard, binOp, Op.intCmp]) ⟨by congr 1, rfl⟩
theorem d_neq (hE : Env a N l) (hx : ev l x = some (.int k m)) (hy : ev l y = some (.int k n)) : Does P ⟨d, .binOp .neq t x y u, ty, pos, af, none⟩ a w (Is (.bool (!decide (m = n))) w) :=
  does_value (w' := w) (v := .bool (m != n)) (by simp [execOp, hE.ev hx, hE.ev hy, eqGuard, binOp, Op.intCmp]) ⟨by congr 1, rfl⟩
theorem d_lss (hE : Env a N l) (hx : ev l x = some (.int k m)) (hy : ev l y = some (.int k n)) : Does P ⟨d, .binOp .lss t x y u, ty, pos, af, none⟩ a w (Is (.bool (decide (m < n))) w) :=
  does_value (w' := w) (by simp [execOp, hE.ev hx, hE.ev hy, eqGuard, binOp, Op.intCmp]) ⟨rfl, rfl⟩
theorem d_leq (hE : Env a N l) (hx : ev l x = some (.int k m)) (hy : ev l y = some (.int k n)) : Does P ⟨d, .binOp .leq t x y u, ty, pos, af, none⟩ a w (Is (.bool (decide (m ≤ n))) w) :=
  does_value (w' := w) (by simp [execOp, hE.ev hx, hE.ev hy, eqGuard, binOp, Op.intCmp]) ⟨rfl, rfl⟩
theorem d_gtr (hE : Env a N l) (hx : ev l x = some (.int k m)) (hy : ev l y = some (.int k n)) : Does P ⟨d, .binOp .gtr t x y u, ty, pos, af, none⟩ a w (Is (.bool (decide (n < m))) w) :=
  does_value (w' := w) (v := .bool (decide (m > n))) (by simp [execOp, hE.ev hx, hE.ev hy, eqGuard, binOp, Op.intCmp]) ⟨rfl, rfl⟩
theorem d_geq (hE : Env a N l) (hx : ev l x = some (.int k m)) (hy : ev l y = some (.int k n)) : Does P ⟨d, .binOp .geq t x y u, ty, pos, af, none⟩ a w (Is (.bool (decide (n ≤ m))) w) :=
  does_value (w' := w) (v := .bool (decide (m ≥ n))) (by simp [execOp, hE.ev hx, hE.ev hy, eqGuard, binOp, Op.intCmp]) ⟨rfl, rfl⟩
end
/-- An operation that a closed fact reckons. -/
theorem d_fact {op : Op} {s : Sem Next} {v : Value} (hx : execOp a.eval ⟨d, op, ty, pos, af, none⟩ = s) (h : s.run P w = .ok (.value v) w) : Does P ⟨d, op, ty, pos, af, none⟩ a w (Is v w) :=
  does_value (w' := w) (by rw [hx]; exact h) ⟨rfl, rfl⟩
theorem d_convert {x : Operand} {v u : Value} {src dst : TypeId} (hE : Env a N l) (hx : ev l x = some v) (h : ∀ w : World, (convert src dst v).run P w = .ok u w) : Does P ⟨d, .convert src dst x, ty, pos, af, none⟩ a w (Is u w) :=
  does_value (w' := w) (by simp [execOp, hE.ev hx, h]) ⟨rfl, rfl⟩
theorem d_nilCheck {x : Operand} {p : Addr} (hE : Env a N l) (hx : ev l x = some (.pointer (some p))) : Does P ⟨d, .nilCheck x, ty, pos, af, none⟩ a w (Is (.pointer (some p)) w) :=
  does_value (w' := w) (by simp [execOp, hE.ev hx]) ⟨rfl, rfl⟩
theorem d_extract {x : Operand} {vs : Array Value} {i : Nat} {v : Value} (hE : Env a N l) (hx : ev l x = some (.tuple vs)) (hv : vs[i]? = some v) : Does P ⟨d, .extract x i, ty, pos, af, none⟩ a w (Is v w) :=
  does_value (w' := w) (by simp [execOp, hE.ev hx, Instr.extract, hv]) ⟨rfl, rfl⟩
theorem d_field {x : Operand} {v u : Value} {s : TypeId} {f : Nat} (hE : Env a N l) (hx : ev l x = some v) (h : ∀ w : World, (Instr.field s v f).run P w = .ok u w) : Does P ⟨d, .field s x f, ty, pos, af, none⟩ a w (Is u w) :=
  does_value (w' := w) (by simp [execOp, hE.ev hx, h]) ⟨rfl, rfl⟩
/-- Field f of a struct of type s lies off cells behind its begin. -/
def Fld (P : Program) (s : TypeId) (f off : Nat) : Prop := ∀ (p : Addr) (w : World), (Instr.fieldAt s (.pointer (some p)) f).run P w = .ok (.pointer (some (p.add off))) w
theorem d_fieldAddr {x : Operand} {b k s f off : Nat} (hF : Fld P s f off) (hE : Env a N l) (hx : ev l x = some (.pointer (some (ad b k)))) : Does P ⟨d, .fieldAddr s x f, ty, pos, af, none⟩ a w (Is (.pointer (some (ad b (k + off)))) w) :=
  does_value (w' := w) (by simp [execOp, hE.ev hx, hF (ad b k) w, ad_add]) ⟨rfl, rfl⟩
theorem d_call {f : FuncId} {xs : Array Operand} {ts : Array TypeId} {vs : List Value} {R : Value → World → Prop} (hf : Callable P f) (hE : Env a N l) (hx : evs l xs.toList = some vs)
    (c : Calls P f vs.toArray w (Rt R)) : Does P ⟨d, .call { callee := .value (.func f), args := xs, argTypes := ts }, ty, pos, af, none⟩ a w R := by
  refine does_enter (f := f) (vs := vs.toArray) (w' := w) ?_ c
  have hv : xs.map a.eval = vs.toArray := by rw [← hE.evs hx]; apply Array.toList_inj.1; simp
  have hfn : a.eval (.func f) = .func (.func f) #[] #[] := rfl
  simp only [execOp, resolve, Sem.run_bind, hfn, Deferred.ofValue, Sem.run_pure, Result.andThen_ok, invoke, hv, Array.empty_append, Array.append_empty]
  exact run_callFunc hf vs.toArray w
theorem d_len {x : Operand} {A : Option Addr} {n c : Nat} {t e : TypeId} (ht : P.underlying t = some (.slice e)) (hE : Env a N l) (hx : ev l x = some (.slice A n c)) :
    Does P ⟨d, .call { callee := .builtin .len, args := #[x], argTypes := #[t] }, ty, pos, af, none⟩ a w (Is (.int .i64 n) w) :=
  does_value (w' := w) (by simp [execOp, resolve, invoke, builtin, Builtin.len_, hE.ev hx, underlying, ht, goInt]) ⟨rfl, rfl⟩
theorem d_makeFunc {fn : Fn} {xs ys : Array Operand} {vs us : List Value} (hE : Env a N l) (hx : evs l xs.toList = some vs) (hy : evs l ys.toList = some us) : Does P ⟨d, .makeFunc fn xs ys, ty, pos, af, none⟩ a w (Is (.func fn vs.toArray us.toArray) w) := by
  have hv : xs.map a.eval = vs.toArray := by rw [← hE.evs hx]; apply Array.toList_inj.1; simp
  have hu : ys.map a.eval = us.toArray := by rw [← hE.evs hy]; apply Array.toList_inj.1; simp
  exact does_value (w' := w) (by simp only [execOp, Instr.makeFunc, Sem.run_bind, Sem.run_pure, Result.andThen_ok, hv, hu]) ⟨rfl, rfl⟩
end

/-! Memory. -/
section
variable {P : Program} {a : Act} {w z : World} {I : Hp} {N : Nat} {l : List (Nat × Value)} {r : List Asn} {d : Option Nat} {ty : TypeId} {pos : String} {af : Array Edge}
/-- A cell of a block of one's own. -/
theorem d_load {x : Operand} {b k T : Nat} {cs : List Value} {v : Value} {t : TypeId} (ht : Scal P t) (hE : Env a N l) (hx : ev l x = some (.pointer (some (ad b k)))) (H : St z I w r) (i : Nat) (hi : r[i]? = some (Bl b T cs)) (hv : cs[k]? = some v) :
    Does P ⟨d, .load t x, ty, pos, af, none⟩ a w (Is v w) :=
  does_value (w' := w) (by simp [execOp, hE.ev hx, Instr.loadAt, Instr.sureAddr, loadVar, (ht w).1, cell_ad (H.ob i hi), hv]) ⟨rfl, rfl⟩
theorem d_loadA {x : Operand} {b k T n : Nat} {cs vs : List Value} {t : TypeId} (ht : Aggr P t n) (hE : Env a N l) (hx : ev l x = some (.pointer (some (ad b k)))) (H : St z I w r) (i : Nat) (hi : r[i]? = some (Bl b T cs)) (hv : sec cs k n = some vs) :
    Does P ⟨d, .load t x, ty, pos, af, none⟩ a w (Is (.agg vs.toArray) w) := by
  obtain ⟨hn, hs⟩ := sec_spec hv
  have hr := run_loadCells (P := P) (H.ob i hi) n k 0 vs #[] hn (fun j v hj => by simpa using hs j v hj)
  exact does_value (w' := w) (by simp [execOp, hE.ev hx, Instr.loadAt, Instr.sureAddr, loadVar, (ht w).1, (ht w).2, loadCells, hr]) ⟨rfl, rfl⟩
/-- A new block: 'alloc', 'box', 'buildSlice', what a closed fact reckons. -/
theorem d_new {op : Op} {s : Sem Next} {vf : Nat → Value} {o : Obj} (hx : execOp a.eval ⟨d, op, ty, pos, af, none⟩ = s) (h : s.run P w = .ok (.value (vf w.heap.size)) (w.alloc o)) (H : St z I w r) :
    Does P ⟨d, op, ty, pos, af, none⟩ a w (fun v w' => ∃ b, v = vf b ∧ St z I w' (Ob b o :: r)) :=
  does_value (w' := w.alloc o) (by rw [hx]; exact h) ⟨_, rfl, H.alloc o⟩
theorem d_alloc {T : TypeId} {cs : List Value} (h : ∀ w : World, (Instr.alloc T true (.tuple #[])).run P w = .ok (.pointer (some (ad w.heap.size 0))) (w.alloc (.cells cs.toArray T))) (H : St z I w r) :
    Does P ⟨d, .alloc T, ty, pos, af, none⟩ a w (fun v w' => ∃ b, v = .pointer (some (ad b 0)) ∧ St z I w' (Bl b T cs :: r)) :=
  does_value (w' := w.alloc (.cells cs.toArray T)) (by simp [execOp, h w]) ⟨_, rfl, H.alloc _⟩
theorem d_box {T : TypeId} {x : Operand} {v : Value} (hE : Env a N l) (hx : ev l x = some v) (H : St z I w r) :
    Does P ⟨d, .box T x, ty, pos, af, none⟩ a w (fun u w' => ∃ b, u = .pointer (some (ad b 0)) ∧ St z I w' (Bl b T v.cells.toList :: r)) :=
  does_value (w' := w.alloc (.cells v.cells.toList.toArray T)) (v := .pointer (some (ad w.heap.size 0))) (by
    simp only [execOp, hE.ev hx, Instr.box, newVar, newRow, Sem.run_bind, Sem.run_pure, Result.andThen_ok, run_newObj, Array.toArray_toList]; rfl) ⟨_, rfl, H.alloc _⟩
/-- A store into a block of one's own, the first of the list. -/
theorem d_store {x y : Operand} {b k T : Nat} {cs : List Value} {v : Value} {t n : Nat} (ht : ∀ w : World, (sizeOf t).run P w = .ok n w) (hE : Env a N l) (hx : ev l x = some (.pointer (some (ad b k)))) (hy : ev l y = some v)
    (hn : v.cells.size = n) (h1 : ∀ u ∈ v.cells.toList, u.oneCell' = true) (H : St z I w (Bl b T cs :: r)) (hk : Nat.ble (k + n) cs.length = true) :
    Does P ⟨d, .store t x y, ty, pos, af, none⟩ a w (fun _ w' => St z I w' (Bl b T (setL cs k v.cells.toList) :: r)) := by
  have hk : k + n ≤ cs.length := by simpa [Nat.ble_eq] using hk
  obtain ⟨w', hr, e1, e2, e3, e5, e4⟩ := run_storeCells (P := P) v.cells.toList k 0 (H.ob 0 rfl) (by simpa [hn] using hk) h1
  refine does_skip (w' := w') ?_ ?_
  · simp [execOp, hE.ev hx, hE.ev hy, Instr.storeAt, Instr.sureAddr, storeVar, ht w, hn, hr]
  · simp only [Nat.add_zero] at e4
    exact H.put _ e1 e2 e3 (Nat.le_of_eq e5.symm) e4
end
end Go.Proofs.Ytbielnhpfbhkgaa
