/- The slots by a list, one operation at a time, and the ways of code. -/
import Derived.Test.YtbielnhpfbhkgaaSl0
import Derived.Laws.Sem
set_option linter.unusedVariables false
set_option linter.unusedSimpArgs false
namespace Go.Proofs.Ytbielnhpfbhkgaa
open Go

def lk : List (Nat × Value) → Nat → Option Value
  | [], _ => none
  | (j, v) :: l, i => match Nat.beq i j with
    | true => some v
    | false => lk l i
/-- What the slots hold. -/
structure Env (a : Act) (N : Nat) (l : List (Nat × Value)) : Prop where mk ::
  size : a.tmps.size = N
  defers : a.defers = []
  at_ : ∀ {i : Nat} {v : Value}, lk l i = some v → a.tmps[i]? = some v
def ev (l : List (Nat × Value)) : Operand → Option Value
  | .tmp t => lk l t
  | .const v => some v
  | .global g => some (.pointer (some ⟨g, 0, none⟩))
  | .func f => some (.func (.func f) #[] #[])
def evs (l : List (Nat × Value)) : List Operand → Option (List Value)
  | [] => some []
  | x :: xs => match ev l x with
    | some v => match evs l xs with
      | some vs => some (v :: vs)
      | none => none
    | none => none
def evps (l : List (Nat × Value)) : List (Nat × Operand) → Option (List (Nat × Value))
  | [] => some []
  | (i, x) :: xs => match ev l x with
    | some v => match evps l xs with
      | some vs => some ((i, v) :: vs)
      | none => none
    | none => none
section
variable {a : Act} {N : Nat} {l l' : List (Nat × Value)}
theorem Env.ev (h : Env a N l) {x : Operand} {v : Value} (e : ev l x = some v) : a.eval x = v := by
  cases x with
  | tmp t => have := h.at_ e; simp [Act.eval, this]
  | const u => simpa [Go.Proofs.Ytbielnhpfbhkgaa.ev, Act.eval] using e
  | global g => simpa [Go.Proofs.Ytbielnhpfbhkgaa.ev, Act.eval] using e
  | func f => simpa [Go.Proofs.Ytbielnhpfbhkgaa.ev, Act.eval] using e
theorem Env.evs (h : Env a N l) : ∀ {xs : List Operand} {vs : List Value}, evs l xs = some vs → xs.map a.eval = vs
  | [], vs, e => by simp [Go.Proofs.Ytbielnhpfbhkgaa.evs] at e; simp [e]
  | x :: xs, vs, e => by
    simp only [Go.Proofs.Ytbielnhpfbhkgaa.evs] at e
    split at e
    · rename_i v hv
      split at e
      · rename_i us hus
        cases e
        simp [h.ev hv, h.evs hus]
      · cases e
    · cases e
theorem Env.evps (h : Env a N l) : ∀ {xs : List (Nat × Operand)} {vs : List (Nat × Value)}, evps l xs = some vs → xs.map (fun p => (p.1, a.eval p.2)) = vs
  | [], vs, e => by simp [Go.Proofs.Ytbielnhpfbhkgaa.evps] at e; simp [e]
  | (i, x) :: xs, vs, e => by
    simp only [Go.Proofs.Ytbielnhpfbhkgaa.evps] at e
    split at e
    · rename_i v hv
      split at e
      · rename_i us hus
        cases e
        simp [h.ev hv, h.evps hus]
      · cases e
    · cases e
theorem Env.put (h : Env a N l) (d : Nat) (hd : Nat.blt d N = true) (v : Value) : Env (a.put (some d) v) N ((d, v) :: l) := by
  have hd : d < N := by simpa [Nat.blt_eq] using hd
  refine ⟨by simp [Act.put, h.size], h.defers, fun {i u} e => ?_⟩
  simp only [lk] at e
  simp only [Act.put]
  split at e
  · rename_i he
    have he : i = d := Nat.eq_of_beq_eq_true he
    cases e; subst he
    simp [h.size, hd]
  · rename_i he
    have hne : d ≠ i := fun e' => by subst e'; simp at he
    rw [Array.getElem?_setIfInBounds_ne hne]; exact h.at_ e
theorem Env.put_none (h : Env a N l) (v : Value) : Env (a.put none v) N l := h
/-- What is asked for alone. -/
def subs (l : List (Nat × Value)) : List (Nat × Value) → Prop
  | [] => True
  | (i, v) :: l' => lk l i = some v ∧ subs l l'
theorem Env.sub (h : Env a N l) (s : subs l l') : Env a N l' := by
  refine ⟨h.size, h.defers, fun {i v} e => ?_⟩
  induction l' with
  | nil => cases e
  | cons p l' ih =>
    obtain ⟨j, u⟩ := p
    simp only [lk] at e
    split at e
    · rename_i he
      have he : i = j := Nat.eq_of_beq_eq_true he
      cases e; subst he; exact h.at_ s.1
    · exact ih s.2 e
def argsEnv : Nat → List Value → List (Nat × Value)
  | _, [] => []
  | n, v :: vs => (n, v) :: argsEnv (n + 1) vs
theorem lk_args : ∀ (vs : List Value) (n i : Nat) (v : Value), lk (argsEnv n vs) i = some v → n ≤ i ∧ vs[i - n]? = some v
  | [], _, _, _, e => by cases e
  | u :: vs, n, i, v, e => by
    simp only [argsEnv, lk] at e
    split at e
    · rename_i he
      have he : i = n := Nat.eq_of_beq_eq_true he
      cases e; subst he; simp
    · rename_i he
      have hne : i ≠ n := fun e' => by subst e'; simp at he
      obtain ⟨h1, h2⟩ := lk_args vs (n + 1) i v e
      refine ⟨by omega, ?_⟩
      rw [show i - n = (i - (n + 1)) + 1 from by omega]
      simpa using h2
theorem Env.start (vs : List Value) (N : Nat) (hN : Nat.ble vs.length N = true) :
    Env { tmps := vs.toArray ++ Array.replicate (N - vs.toArray.size) undef, defers := [] } N (argsEnv 0 vs) := by
  have hN : vs.length ≤ N := by simpa [Nat.ble_eq] using hN
  refine ⟨by simp; omega, rfl, fun {i v} e => ?_⟩
  obtain ⟨_, h⟩ := lk_args vs 0 i v e
  simp only [Nat.sub_zero] at h
  have hi : i < vs.length := (List.getElem?_eq_some_iff.1 h).1
  rw [Array.getElem?_append_left (by simpa using hi)]
  simpa using h
end

/-- One operation: whatever comes, R holds of its value and the world. -/
def Does (P : Program) (o : Oper) (a : Act) (w : World) (R : Value → World → Prop) : Prop :=
  ∀ (K : Act → World → Prop) (Q : Exit → Act → World → Prop), (∀ v w', R v w' → K (a.put o.dst v) w') → o.wp P a w K Q
def Is (v : Value) (w : World) : Value → World → Prop := fun v' w' => v' = v ∧ w' = w
section
variable {P : Program} {ops : Array Oper} {Q : Exit → Act → World → Prop} {rest : List Oper} {a : Act} {w : World} {N : Nat} {l : List (Nat × Value)} {R : Value → World → Prop}
theorem Does.mono {o : Oper} {R' : Value → World → Prop} (h : Does P o a w R) (f : ∀ v w', R v w' → R' v w') : Does P o a w R' := fun K Q k => h K Q fun v w' r => k v w' (f v w' r)
theorem does_value {o : Oper} {v : Value} {w' : World} (h : (execOp a.eval o).run P w = .ok (.value v) w') (r : R v w') : Does P o a w R := fun K Q k => by
  unfold Oper.wp; rw [h]; exact k v w' r
theorem does_skip {o : Oper} {w' : World} (h : (execOp a.eval o).run P w = .ok .skip w') (r : R undef w') : Does P o a w R := fun K Q k => by
  unfold Oper.wp; rw [h]; exact k undef w' r
theorem does_enter {o : Oper} {f : FuncId} {vs : Array Value} {w' : World} (h : (execOp a.eval o).run P w = .ok (.enter f vs) w')
    (c : Calls P f vs w' fun e w'' => ∃ v, e = .returned v ∧ R v w'') : Does P o a w R := fun K Q k => by
  unfold Oper.wp; rw [h]
  refine Calls.mono c fun e w'' he => ?_
  obtain ⟨v, rfl, r⟩ := he
  exact k v w'' r
/-- An operation with a slot, the world as it was. -/
theorem s1 {d : Nat} {op : Op} {ty : TypeId} {pos : String} {af : Array Edge} {v : Value} (hE : Env a N l) (hd : Nat.blt d N = true) (h : Does P ⟨some d, op, ty, pos, af, none⟩ a w (Is v w))
    (k : ∀ a', Env a' N ((d, v) :: l) → wpList P ops Q rest a' w) : wpList P ops Q (⟨some d, op, ty, pos, af, none⟩ :: rest) a w :=
  wpList_plain rfl fun K hK => h K Q fun v' w' r => by obtain ⟨rfl, rfl⟩ := r; exact hK _ _ (k _ (hE.put d hd _))
/-- The same; what comes is said by R. -/
theorem s2 {d : Nat} {op : Op} {ty : TypeId} {pos : String} {af : Array Edge} (hE : Env a N l) (hd : Nat.blt d N = true) (h : Does P ⟨some d, op, ty, pos, af, none⟩ a w R)
    (k : ∀ a' v w', R v w' → Env a' N ((d, v) :: l) → wpList P ops Q rest a' w') : wpList P ops Q (⟨some d, op, ty, pos, af, none⟩ :: rest) a w :=
  wpList_plain rfl fun K hK => h K Q fun v' w' r => hK _ _ (k _ _ _ r (hE.put d hd _))
/-- Without a slot. -/
theorem s3 {op : Op} {ty : TypeId} {pos : String} {af : Array Edge} (h : Does P ⟨none, op, ty, pos, af, none⟩ a w R)
    (k : ∀ v w', R v w' → wpList P ops Q rest a w') : wpList P ops Q (⟨none, op, ty, pos, af, none⟩ :: rest) a w :=
  wpList_plain rfl fun K hK => h K Q fun v' w' r => hK _ _ (k _ _ r)
theorem yields {j t : Nat} {c : Bool} (hE : Env a N l) (hj : (ops[j]?).bind (·.dst) = some t) (hc : lk l t = some (.bool c)) : yielded ops a.tmps j = some c := by
  simp [yielded, hj, hE.at_ hc]
/-- A guard that lets by, and one that does not. -/
theorem sg {dst : Option Nat} {op : Op} {ty : TypeId} {pos : String} {af : Array Edge} {j t : Nat} {b : Bool} (hE : Env a N l) (hj : (ops[j]?).bind (·.dst) = some t) (hc : lk l t = some (.bool b))
    (h : wpList P ops Q (⟨dst, op, ty, pos, af, none⟩ :: rest) a w) : wpList P ops Q (⟨dst, op, ty, pos, af, some (j, b)⟩ :: rest) a w := by
  have hy := yields hE hj hc
  have e1 : ∀ o : Oper, (execOp a.eval { o with guard := some (j, b) }) = execOp a.eval { o with guard := none } := fun _ => rfl
  unfold wpList at h ⊢
  simp only [Region.wanted, hy, beq_self_eq_true, if_true] at h ⊢
  exact h
theorem sk {d : Nat} {op : Op} {ty : TypeId} {pos : String} {af : Array Edge} {j t : Nat} {b : Bool} (hE : Env a N l) (hd : Nat.blt d N = true) (hj : (ops[j]?).bind (·.dst) = some t) (hc : lk l t = some (.bool (!b)))
    (k : ∀ a', Env a' N ((d, undef) :: l) → wpList P ops Q rest a' w) : wpList P ops Q (⟨some d, op, ty, pos, af, some (j, b)⟩ :: rest) a w := by
  have hy := yields hE hj hc
  unfold wpList
  simp only [Region.wanted, hy]
  rw [if_neg (by cases b <;> simp)]
  exact k _ (hE.put d hd _)
theorem sk_none {op : Op} {ty : TypeId} {pos : String} {af : Array Edge} {j t : Nat} {b : Bool} (hE : Env a N l) (hj : (ops[j]?).bind (·.dst) = some t) (hc : lk l t = some (.bool (!b)))
    (k : wpList P ops Q rest a w) : wpList P ops Q (⟨none, op, ty, pos, af, some (j, b)⟩ :: rest) a w := by
  have hy := yields hE hj hc
  unfold wpList
  simp only [Region.wanted, hy]
  rw [if_neg (by cases b <;> simp)]
  exact k
/-- A guard on a slot that was passed over. -/
theorem sk_undef {d : Nat} {op : Op} {ty : TypeId} {pos : String} {af : Array Edge} {j t : Nat} {b : Bool} (hE : Env a N l) (hd : Nat.blt d N = true) (hj : (ops[j]?).bind (·.dst) = some t) (hc : lk l t = some undef)
    (k : ∀ a', Env a' N ((d, undef) :: l) → wpList P ops Q rest a' w) : wpList P ops Q (⟨some d, op, ty, pos, af, some (j, b)⟩ :: rest) a w := by
  have hy : yielded ops a.tmps j = none := by simp [yielded, hj, hE.at_ hc, undef]
  unfold wpList
  simp only [Region.wanted, hy]
  rw [if_neg (by simp)]
  exact k _ (hE.put d hd _)
end

section
variable {P : Program} {Q : Exit → Act → World → Prop} {a : Act} {w : World} {N : Nat} {l : List (Nat × Value)}
/-- A region in its order, then what follows. -/
theorem seqR {id : Nat} {ol : List Oper} {y : Code} (h : wpList P ol.toArray (Exit.then (y.wp P Q) Q) ol a w) : ((Code.region id ol.toArray false).seq y).wp P Q a w := wp_seq (wp_region_lit h)
theorem lastR {id : Nat} {ol : List Oper} (h : wpList P ol.toArray Q ol a w) : (Code.region id ol.toArray false).wp P Q a w := wp_region_lit h
theorem condT {x y : Code} {c : Operand} (hE : Env a N l) (hc : ev l c = some (.bool true)) (h : x.wp P Q a w) : (Code.cond c x y).wp P Q a w := wp_cond (hE.ev hc) h
theorem condF {x y : Code} {c : Operand} (hE : Env a N l) (hc : ev l c = some (.bool false)) (h : y.wp P Q a w) : (Code.cond c x y).wp P Q a w := wp_cond (hE.ev hc) h
/-- A loop, by the rounds that are left. -/
theorem loopI {c : Code} (I : Nat → Act → World → Prop) (round : ∀ k a w, I k a w → c.wp P (Exit.then (fun a' w' => ∃ j, j < k ∧ I j a' w') Q) a w) :
    ∀ k a w, I k a w → (Code.loop c).wp P Q a w := by
  intro k a w hI b kk cs
  have key : ∀ n a w, I n a w →
      ∃ e a' w', Q e a' w' ∧ Arrives P (lone (b.at a (.code c :: .inLoop c :: kk)) cs w) b kk cs e a' w' := by
    intro n
    induction n using Nat.strongRecOn with
    | _ n ih =>
      intro a w hI
      obtain ⟨e, a₁, w₁, hq, harr⟩ := round n a w hI b (.inLoop c :: kk) cs
      cases e with
      | normal =>
        obtain ⟨j, hlt, hI₁⟩ := hq
        obtain ⟨e₂, a₂, w₂, hq₂, harr₂⟩ := ih j hlt a₁ w₁ hI₁
        exact ⟨e₂, a₂, w₂, hq₂, .of_steps (Steps.trans harr (.one step_inLoop)) harr₂⟩
      | exit id => exact ⟨_, a₁, w₁, hq, .pass (x := .inLoop c) rfl (fun _ _ => .inl (by simp)) harr⟩
      | goto l => exact ⟨_, a₁, w₁, hq, .pass (x := .inLoop c) rfl (fun _ _ => .inl (by simp)) harr⟩
      | ret => exact ⟨_, a₁, w₁, hq, .pass (x := .inLoop c) rfl (fun _ _ => .inl (by simp)) harr⟩
      | panic ch => exact ⟨_, a₁, w₁, hq, .pass (x := .inLoop c) rfl (fun _ _ => .inl (by simp)) harr⟩
      | outgrown => exact ⟨_, a₁, w₁, hq, .pass (x := .inLoop c) rfl (fun _ _ => .inl (by simp)) harr⟩
  obtain ⟨e, a', w', hq, harr⟩ := key k a w hI
  exact ⟨e, a', w', hq, .of_steps (.one step_loop) harr⟩
theorem wpC_mono {c : Code} {Q' : Exit → Act → World → Prop} (h : c.wp P Q a w) (hq : ∀ e a w, Q e a w → Q' e a w) : c.wp P Q' a w := wp_mono h hq
/-- A cut: what holds behind the first part, whichever way it was gone. -/
theorem cut {x y : Code} (K : Act → World → Prop) (hx : x.wp P (Exit.then K Q) a w) (hy : ∀ a w, K a w → y.wp P Q a w) : (Code.seq x y).wp P Q a w :=
  wp_seq (wp_mono hx fun e a w q => by cases e <;> first | exact hy _ _ q | exact q)
end

section
variable {P : Program} {fn : Func} {R : Ending → World → Prop} {a : Act} {w : World} {N : Nat} {l : List (Nat × Value)}
theorem ret0 (h : fn.results = #[]) (hE : Env a N l) (hR : R (.returned (.tuple #[])) w) : bodyPost P fn R .ret a w := ⟨hE.defers, _, results_none h _ _ _, hR⟩
theorem end0 (h : fn.results = #[]) (hE : Env a N l) (hR : R (.returned (.tuple #[])) w) : bodyPost P fn R .normal a w := ⟨hE.defers, _, results_none h _ _ _, hR⟩
theorem ret1 {t : Nat} {v : Value} (h : fn.results = #[.tmp t]) (hE : Env a N l) (hv : lk l t = some v) (hR : R (.returned v) w) : bodyPost P fn R .ret a w :=
  ⟨hE.defers, v, by rw [results_tmp h]; simp [hE.at_ hv], hR⟩
theorem ret2 {t u : Nat} {v x : Value} (h : fn.results = #[.tmp t, .tmp u]) (hE : Env a N l) (hv : lk l t = some v) (hx : lk l u = some x) (hR : R (.returned (.tuple #[v, x])) w) : bodyPost P fn R .ret a w :=
  ⟨hE.defers, _, by rw [results_tmp2 h]; simp [hE.at_ hv, hE.at_ hx], hR⟩
theorem enter {f : FuncId} {c : Code} {args : List Value} (hf : P.funcs[f]? = some fn) (hb : fn.body = some c) (hN : fn.ntmps = N) (hl : Nat.ble args.length N = true)
    (h : ∀ a, Env a N (argsEnv 0 args) → c.wp P (bodyPost P fn R) a w) : Calls P f args.toArray w R :=
  calls_of_wp hf hb (h _ (by rw [hN]; exact Env.start args N hl))
end
section
variable {P : Program} {Q : Exit → Act → World → Prop} {a : Act} {w : World} {N : Nat} {l : List (Nat × Value)} {ops : Array Oper} {rest : List Oper}
theorem cT {x y : Code} {c : Operand} {b : Bool} (hE : Env a N l) (hc : ev l c = some (.bool b)) (hb : b = true) (h : x.wp P Q a w) : (Code.cond c x y).wp P Q a w := by subst hb; exact condT hE hc h
theorem cF {x y : Code} {c : Operand} {b : Bool} (hE : Env a N l) (hc : ev l c = some (.bool b)) (hb : b = false) (h : y.wp P Q a w) : (Code.cond c x y).wp P Q a w := by subst hb; exact condF hE hc h
theorem gR {dst : Option Nat} {op : Op} {ty : TypeId} {pos : String} {af : Array Edge} {j t : Nat} {b c : Bool} (hE : Env a N l) (hj : (ops[j]?).bind (·.dst) = some t) (hc : lk l t = some (.bool c)) (hb : c = b)
    (h : wpList P ops Q (⟨dst, op, ty, pos, af, none⟩ :: rest) a w) : wpList P ops Q (⟨dst, op, ty, pos, af, some (j, b)⟩ :: rest) a w := by subst hb; exact sg hE hj hc h
theorem gP {d : Nat} {op : Op} {ty : TypeId} {pos : String} {af : Array Edge} {j t : Nat} {b c : Bool} (hE : Env a N l) (hd : Nat.blt d N = true) (hj : (ops[j]?).bind (·.dst) = some t) (hc : lk l t = some (.bool c)) (hb : c = !b)
    (k : ∀ a', Env a' N ((d, undef) :: l) → wpList P ops Q rest a' w) : wpList P ops Q (⟨some d, op, ty, pos, af, some (j, b)⟩ :: rest) a w := by subst hb; exact sk hE hd hj hc k
theorem cut2 {x : Code} (K : Act → World → Prop) (hx : x.wp P (Exit.then K Q) a w) (hy : ∀ a w, K a w → Q .normal a w) : x.wp P Q a w :=
  wp_mono hx fun e a w q => by cases e <;> first | exact hy _ _ q | exact q
theorem bnd {α β : Type} {x : Option α} {f : α → Option β} {y : β} (h : x.bind f = some y) : ∃ a, x = some a ∧ f a = some y := Option.bind_eq_some_iff.1 h
end
theorem not_t {b : Bool} (h : b = false) : (!b) = true := by rw [h]; rfl
theorem not_f {b : Bool} (h : b = true) : (!b) = false := by rw [h]; rfl
theorem b_f {b : Bool} (h : ¬ b = true) : b = false := by cases b <;> simp_all
/-- A part of a function: it returns, or it goes on. -/
inductive Out (ρ σ : Type) where
  | ret (r : ρ)
  | go (s : σ)
def Out.on {ρ σ τ : Type} (o : Out ρ σ) (f : ρ → Option τ) (g : σ → Option τ) : Option τ := match o with
  | .ret r => f r
  | .go s => g s
/-- How a call ends: it returns. -/
def Rt (R : Value → World → Prop) : Ending → World → Prop := fun e w => ∃ v, e = .returned v ∧ R v w
/-- What a call asks of the callee's row. -/
def Callable (P : Program) (f : FuncId) : Prop := ∃ fn, P.funcs[f]? = some fn ∧ (fn.name == "runtime.NumGoroutine") = false ∧ fn.body.isNone = false
theorem run_callFunc {P : Program} {f : FuncId} (h : Callable P f) (args : Array Value) (w : World) : (callFunc f args).run P w = .ok (.enter f args) w := by
  obtain ⟨fn, hf, hn, hb⟩ := h
  simp only [callFunc, Sem.run_bind, run_program, Result.andThen_ok, hf, hn, hb]
  simp
end Go.Proofs.Ytbielnhpfbhkgaa
