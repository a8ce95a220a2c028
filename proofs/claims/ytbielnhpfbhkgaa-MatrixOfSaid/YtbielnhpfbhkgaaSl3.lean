/- A region whose order is drawn: whatever order comes, the same values stand at its end. -/
import Derived.Test.YtbielnhpfbhkgaaSl2
set_option linter.unusedVariables false
set_option linter.unusedSimpArgs false
namespace Go.Proofs.Ytbielnhpfbhkgaa
open Go
namespace Dr

inductive Src where
  | op (j : Nat)
  | base (t : Nat)
section
variable (ops : Array Oper) (pre : List (List Nat)) (val : List (Option Value)) (eff : List Nat) (mask : List (List Nat)) (l0 : List (Nat × Value)) (keys : List (List Nat))
def dst (i : Nat) : Option Nat := (ops[i]?).bind (·.dst)
def preAt (i : Nat) : List Nat := pre.getD i []
def valAt (i : Nat) : Option Value := val.getD i none
def maskAt (p : Nat) : List Nat := mask.getD p []
def keysAt (p : Nat) : List Nat := keys.getD p []
def dirs (i : Nat) : List Nat := ((ops[i]?).map fun o => o.after.toList.filterMap fun e => if Region.binds .any e then some e.on else none).getD []
def chkPre : Bool := (List.range ops.size).all fun i => (preAt pre i).all fun x => (dirs ops i).any fun e => e == x || (preAt pre e).contains x
def chkDirs : Bool := (List.range ops.size).all fun i => (dirs ops i).all fun e => Nat.blt e i
def chkD : Bool := (List.range ops.size).all fun i => (List.range i).all fun j => match dst ops i, dst ops j with
  | some s, some t => s != t
  | _, _ => true
def chkPure (U : List (Nat × Nat)) : Bool := (List.range mask.length).all fun p => (List.range ops.size).all fun i => eff.contains i || U.contains (i, p) ||
  !((preAt pre i).all (fun x => !eff.contains x || (maskAt mask p).contains x) && (maskAt mask p).all fun e => !(preAt pre e).contains i)
def chkEff (T : List (Nat × Nat × Nat)) : Bool := (List.range mask.length).all fun p => eff.all fun i => (maskAt mask p).contains i ||
  (T.any fun t => t.1 == p && t.2.1 == i && Nat.blt t.2.2 mask.length && eff.all fun x => (maskAt mask t.2.2).contains x == (x == i || (maskAt mask p).contains x)) ||
  !((preAt pre i).all fun x => !eff.contains x || (maskAt mask p).contains x)
def chkKeys : Bool := (List.range mask.length).all fun p => (keysAt keys p).all fun t => (List.range ops.size).all fun i => (dst ops i != some t) || (eff.contains i && (maskAt mask p).contains i)
def chkVal : Bool := (List.range ops.size).all fun i => if eff.contains i then (valAt val i).isNone else ((valAt val i).isSome && (dst ops i).isSome)
def chkSrc (src : List (List Src)) : Bool := (List.range ops.size).all fun i => (src.getD i []).all fun s => match s with
  | .op j => (preAt pre i).contains j
  | .base t => (List.range ops.size).all fun j => dst ops j != some t || j == i || (preAt pre j).contains i
def one : Src → Option (Nat × Value)
  | .op j => match dst ops j, valAt val j with
    | some t, some v => some (t, v)
    | _, _ => none
  | .base t => match lk l0 t with
    | some v => some (t, v)
    | none => none
def envAt : List Src → List (Nat × Value)
  | [] => []
  | s :: ss => match one ops val l0 s with
    | some p => p :: envAt ss
    | none => envAt ss
def outs : List Nat → List (Nat × Value)
  | [] => []
  | j :: js => match dst ops j, valAt val j with
    | some t, some v => (t, v) :: outs js
    | _, _ => outs js
def chkOuts (out : List Nat) (kF : List Nat) : Bool := (List.range ops.size).all fun i => (out.contains i && (valAt val i).isSome) || (match dst ops i with
  | some t => kF.contains t || (lk l0 t).isNone
  | none => true)
end

/-- One operation of the region: it is passed over, or it runs. -/
def DoesG (P : Program) (ops : Array Oper) (i : Nat) (a : Act) (w : World) (R : Value → World → Prop) : Prop :=
  ∃ o, ops[i]? = some o ∧ ∀ (K : Act → World → Prop) (Q : Exit → Act → World → Prop), (∀ v w', R v w' → K (a.put o.dst v) w') →
    if Region.wanted o (yielded ops a.tmps) then o.wp P a w K Q else K (a.put o.dst undef) w
section
variable {P : Program} {ops : Array Oper} {i : Nat} {a : Act} {w : World} {R : Value → World → Prop} {N : Nat} {l : List (Nat × Value)}
theorem run {d : Option Nat} {op : Op} {ty : TypeId} {pos : String} {af : Array Edge} (ho : ops[i]? = some ⟨d, op, ty, pos, af, none⟩) (h : Does P ⟨d, op, ty, pos, af, none⟩ a w R) : DoesG P ops i a w R :=
  ⟨_, ho, fun K Q k => by simp only [Region.wanted, if_true]; exact h K Q k⟩
theorem runG {d : Option Nat} {op : Op} {ty : TypeId} {pos : String} {af : Array Edge} {j t : Nat} {b : Bool} (ho : ops[i]? = some ⟨d, op, ty, pos, af, some (j, b)⟩) (hE : Env a N l) (hj : (ops[j]?).bind (·.dst) = some t) (hc : lk l t = some (.bool b))
    (h : Does P ⟨d, op, ty, pos, af, none⟩ a w R) : DoesG P ops i a w R :=
  ⟨_, ho, fun K Q k => by
    simp only [Region.wanted, yields hE hj hc, beq_self_eq_true, if_true]
    exact h K Q k⟩
theorem passG {d : Option Nat} {op : Op} {ty : TypeId} {pos : String} {af : Array Edge} {j t : Nat} {b : Bool} (ho : ops[i]? = some ⟨d, op, ty, pos, af, some (j, b)⟩) (hE : Env a N l) (hj : (ops[j]?).bind (·.dst) = some t) (hc : lk l t = some (.bool (!b)))
    (h : R undef w) : DoesG P ops i a w R :=
  ⟨_, ho, fun K Q k => by
    simp only [Region.wanted, yields hE hj hc]
    rw [if_neg (by cases b <;> simp)]
    exact k _ _ h⟩
theorem passU {d : Option Nat} {op : Op} {ty : TypeId} {pos : String} {af : Array Edge} {j t : Nat} {b : Bool} (ho : ops[i]? = some ⟨d, op, ty, pos, af, some (j, b)⟩) (hE : Env a N l) (hj : (ops[j]?).bind (·.dst) = some t) (hc : lk l t = some undef)
    (h : R undef w) : DoesG P ops i a w R :=
  ⟨_, ho, fun K Q k => by
    have hy : yielded ops a.tmps j = none := by simp [yielded, hj, hE.at_ hc, undef]
    simp only [Region.wanted, hy]
    rw [if_neg (by simp)]
    exact k _ _ h⟩
theorem rG {d : Option Nat} {op : Op} {ty : TypeId} {pos : String} {af : Array Edge} {j t : Nat} {b c : Bool} (ho : ops[i]? = some ⟨d, op, ty, pos, af, some (j, b)⟩) (hE : Env a N l) (hj : (ops[j]?).bind (·.dst) = some t) (hc : lk l t = some (.bool c)) (hb : c = b)
    (h : Does P ⟨d, op, ty, pos, af, none⟩ a w R) : DoesG P ops i a w R := by subst hb; exact runG ho hE hj hc h
theorem pG {d : Option Nat} {op : Op} {ty : TypeId} {pos : String} {af : Array Edge} {j t : Nat} {b c : Bool} (ho : ops[i]? = some ⟨d, op, ty, pos, af, some (j, b)⟩) (hE : Env a N l) (hj : (ops[j]?).bind (·.dst) = some t) (hc : lk l t = some (.bool c)) (hb : c = !b)
    (h : R undef w) : DoesG P ops i a w R := by subst hb; exact passG ho hE hj hc h
theorem DoesG.mono {R' : Value → World → Prop} (h : DoesG P ops i a w R) (f : ∀ v w', R v w' → R' v w') : DoesG P ops i a w R' := by
  obtain ⟨o, ho, h⟩ := h
  exact ⟨o, ho, fun K Q k => h K Q fun v w' r => k v w' (f v w' r)⟩
end

theorem countP_set : ∀ (l : List Bool) (i : Nat), l[i]? = some false → (l.set i true).countP (! ·) + 1 = l.countP (! ·)
  | [], i, h => by simp at h
  | b :: l, 0, h => by simp at h; subst h; simp
  | b :: l, i + 1, h => by
    have := countP_set l i (by simpa using h)
    simp only [List.set_cons_succ, List.countP_cons]
    omega
theorem countP_all : ∀ (l : List Bool), l.countP (! ·) = 0 → ∀ (i : Nat), i < l.length → l[i]? = some true
  | [], _, i, hi => by simp at hi
  | b :: l, h, i, hi => by
    simp only [List.countP_cons] at h
    cases b with
    | false => simp at h
    | true =>
      cases i with
      | zero => rfl
      | succ i => simpa using countP_all l (by simpa using h) i (by simpa using hi)

section
variable {γ : Type} {P : Program} {ops : Array Oper} {pre : List (List Nat)} {val : List (Option Value)} {eff : List Nat} {mask : List (List Nat)} {l0 : List (Nat × Value)} {keys : List (List Nat)}
  {src : List (List Src)} {z : World} {N : Nat} {ef : Nat → γ → List (Nat × Value)} {hi : Nat → γ → Hp} {rs : Nat → γ → List Asn}
/-- What is owed for an operation that always gives the same. -/
def ObP (P : Program) (ops : Array Oper) (val : List (Option Value)) (l0 : List (Nat × Value)) (src : List (List Src)) (z : World) (N : Nat) (hi : Nat → γ → Hp) (rs : Nat → γ → List Asn) (i p : Nat) : Prop :=
  ∀ (a : Act) (w : World) (g : γ), Env a N (envAt ops val l0 (src.getD i [])) → St z (hi p g) w (rs p g) →
    DoesG P ops i a w fun v w' => valAt val i = some v ∧ St z (hi p g) w' (rs p g)
/-- What is owed for one that turns memory, or gives what hangs on the order. -/
def ObE (P : Program) (ops : Array Oper) (val : List (Option Value)) (l0 : List (Nat × Value)) (src : List (List Src)) (z : World) (N : Nat) (ef : Nat → γ → List (Nat × Value)) (hi : Nat → γ → Hp) (rs : Nat → γ → List Asn) (p i p' : Nat) : Prop :=
  ∀ (a : Act) (w : World) (g : γ), Env a N (envAt ops val l0 (src.getD i [])) → Env a N (ef p g) → St z (hi p g) w (rs p g) →
    DoesG P ops i a w fun v w' => ∃ g', St z (hi p' g') w' (rs p' g') ∧ ∀ t u, lk (ef p' g') t = some u → lk (match dst ops i with | some d => (d, v) :: ef p g | none => ef p g) t = some u
def AllP (F : Nat → Nat → Prop) : List (Nat × Nat) → Prop
  | [] => True
  | x :: xs => F x.1 x.2 ∧ AllP F xs
def AllE (F : Nat → Nat → Nat → Prop) : List (Nat × Nat × Nat) → Prop
  | [] => True
  | x :: xs => F x.1 x.2.1 x.2.2 ∧ AllE F xs
theorem AllP.get {F : Nat → Nat → Prop} : ∀ {l : List (Nat × Nat)}, AllP F l → ∀ {x}, x ∈ l → F x.1 x.2
  | _ :: _, h, _, .head _ => h.1
  | _ :: _, h, _, .tail _ m => AllP.get h.2 m
theorem AllE.get {F : Nat → Nat → Nat → Prop} : ∀ {l : List (Nat × Nat × Nat)}, AllE F l → ∀ {x}, x ∈ l → F x.1 x.2.1 x.2.2
  | _ :: _, h, _, .head _ => h.1
  | _ :: _, h, _, .tail _ m => AllE.get h.2 m

structure Inv (ops : Array Oper) (pre : List (List Nat)) (val : List (Option Value)) (eff : List Nat) (mask : List (List Nat)) (l0 : List (Nat × Value)) (z : World) (N : Nat) (ef : Nat → γ → List (Nat × Value)) (hi : Nat → γ → Hp) (rs : Nat → γ → List Asn)
    (L : Nat → Bool) (a : Act) (w : World) : Prop where mk ::
  size : a.tmps.size = N
  defers : a.defers = []
  base : ∀ {t v}, lk l0 t = some v → (∀ i, i < ops.size → L i = true → dst ops i ≠ some t) → a.tmps[t]? = some v
  vals : ∀ {i t v}, i < ops.size → L i = true → dst ops i = some t → valAt val i = some v → a.tmps[t]? = some v
  down : ∀ {i}, i < ops.size → L i = true → ∀ j ∈ preAt pre i, L j = true
  phase : ∃ p g, p < mask.length ∧ (∀ i ∈ eff, L i = (maskAt mask p).contains i) ∧ Env a N (ef p g) ∧ St z (hi p g) w (rs p g)

theorem env_of {L : Nat → Bool} {a : Act} {w : World} (hS : chkSrc ops pre src = true) (hD : ∀ {i t}, dst ops i = some t → i < ops.size)
    (I : Inv ops pre val eff mask l0 z N ef hi rs L a w) {i : Nat} (hlt : i < ops.size) (hu : L i = false) (hp : ∀ j ∈ preAt pre i, L j = true) :
    Env a N (envAt ops val l0 (src.getD i [])) := by
  have hs : ∀ s ∈ src.getD i [], (match s with
      | .op j => (preAt pre i).contains j
      | .base t => (List.range ops.size).all fun j => dst ops j != some t || j == i || (preAt pre j).contains i) = true := by
    have := List.all_eq_true.1 hS i (List.mem_range.2 hlt)
    exact fun s hs => List.all_eq_true.1 this s hs
  generalize src.getD i [] = ss at hs
  refine ⟨I.size, I.defers, fun {t v} e => ?_⟩
  induction ss with
  | nil => cases e
  | cons s ss ih =>
    have ih := ih (fun s' h' => hs s' (List.mem_cons_of_mem _ h'))
    have h0 := hs s (List.mem_cons_self ..)
    simp only [envAt] at e
    split at e
    · rename_i p hp1
      simp only [lk] at e
      split at e
      · rename_i u _ heq
        have heq : t = p.1 := Nat.eq_of_beq_eq_true heq
        cases e
        cases s with
        | op j =>
          simp only [one] at hp1
          split at hp1
          · rename_i t' v' ht' hv'
            cases hp1
            simp only at heq; subst heq
            exact I.vals (hD ht') (hp j (by simpa using h0)) ht' hv'
          · cases hp1
        | base t' =>
          simp only [one] at hp1
          split at hp1
          · rename_i v' hv'
            cases hp1
            simp only at heq; subst heq
            refine I.base hv' fun j hj hl hd => ?_
            have := List.all_eq_true.1 h0 j (List.mem_range.2 hj)
            simp only [hd, bne_self_eq_false, Bool.false_or, Bool.or_eq_true, beq_iff_eq, List.contains_iff_mem] at this
            rcases this with rfl | this
            · rw [hu] at hl; cases hl
            · have := I.down hj hl i this
              rw [hu] at this; cases this
          · cases hp1
      · exact ih e
    · exact ih e

theorem inv_put {L : Nat → Bool} {a : Act} {w w' : World} (hC : chkD ops = true) (hD : ∀ {i t}, dst ops i = some t → i < ops.size)
    (I : Inv ops pre val eff mask l0 z N ef hi rs L a w) {i : Nat} (hlt : i < ops.size) (hu : L i = false) (hp : ∀ j ∈ preAt pre i, L j = true) {v : Value} (hv : ∀ u, valAt val i = some u → u = v) (hN : ∀ t, dst ops i = some t → t < N)
    (ph : ∃ p g, p < mask.length ∧ (∀ x ∈ eff, (if x = i then true else L x) = (maskAt mask p).contains x) ∧ Env (a.put (dst ops i) v) N (ef p g) ∧ St z (hi p g) w' (rs p g)) :
    Inv ops pre val eff mask l0 z N ef hi rs (fun x => if x = i then true else L x) (a.put (dst ops i) v) w' := by
  have hne : ∀ {j t s}, j < ops.size → j ≠ i → dst ops j = some t → dst ops i = some s → t ≠ s := by
    intro j t s hj hji ht hs hts
    rcases Nat.lt_or_gt_of_ne hji with h | h
    · have := List.all_eq_true.1 (List.all_eq_true.1 hC i (List.mem_range.2 hlt)) j (List.mem_range.2 h)
      simp [ht, hs, hts] at this
    · have := List.all_eq_true.1 (List.all_eq_true.1 hC j (List.mem_range.2 hj)) i (List.mem_range.2 h)
      simp [ht, hs, hts] at this
  refine ⟨?_, ?_, ?_, ?_, ?_, ph⟩
  · cases dst ops i <;> simp [Act.put, I.size]
  · cases dst ops i <;> exact I.defers
  · intro t u ht hf
    have h1 := I.base ht fun j hj hl => hf j hj (by by_cases hji : j = i <;> simp [hji, hl])
    have h2 := hf i hlt (by simp)
    cases hd : dst ops i with
    | none => exact h1
    | some s =>
      have hst : s ≠ t := fun e => h2 (by rw [hd, e])
      simp only [Act.put]
      rw [Array.getElem?_setIfInBounds_ne hst]; exact h1
  · intro j t u hj hl ht hu'
    by_cases hji : j = i
    · subst hji
      have hlt' := hN t ht
      rw [hv u hu'] at *
      simp [ht, Act.put, I.size, hlt']
    · have h1 := I.vals hj (by simpa [hji] using hl) ht hu'
      cases hd : dst ops i with
      | none => exact h1
      | some s =>
        have hst : s ≠ t := fun e => hne hj hji ht hd e.symm
        simp only [Act.put]
        rw [Array.getElem?_setIfInBounds_ne hst]; exact h1
  · intro j hj hl x hx
    by_cases hxi : x = i
    · simp [hxi]
    · simp only [hxi, if_false]
      by_cases hji : j = i
      · subst hji; exact hp x hx
      · exact I.down hj (by simpa [hji] using hl) x hx

theorem lk_append {l1 l2 : List (Nat × Value)} {t : Nat} {v : Value} : lk (l1 ++ l2) t = some v → lk l1 t = some v ∨ (lk l1 t = none ∧ lk l2 t = some v) := by
  induction l1 with
  | nil => exact fun h => .inr ⟨rfl, h⟩
  | cons p l1 ih =>
    obtain ⟨j, u⟩ := p
    simp only [List.cons_append, lk]
    split
    · exact .inl
    · exact ih
theorem lk_keys {l : List (Nat × Value)} {t : Nat} (h : t ∈ l.map (·.1)) : lk l t ≠ none := by
  induction l with
  | nil => cases h
  | cons p l ih =>
    obtain ⟨j, u⟩ := p
    simp only [lk]
    split
    · simp
    · rename_i he
      refine ih ?_
      simp only [List.map_cons, List.mem_cons] at h
      rcases h with rfl | h
      · simp at he
      · exact h
theorem lk_of_keys {l : List (Nat × Value)} {t : Nat} {v : Value} (h : lk l t = some v) : t ∈ l.map (·.1) := by
  induction l with
  | nil => cases h
  | cons p l ih =>
    obtain ⟨j, u⟩ := p
    simp only [lk] at h
    split at h
    · rename_i he
      have he : t = j := Nat.eq_of_beq_eq_true he
      simp [he]
    · simp only [List.map_cons, List.mem_cons]; exact .inr (ih h)
theorem env_keep {a : Act} {l : List (Nat × Value)} (h : Env a N l) (d : Option Nat) (v : Value) (hd : ∀ s, d = some s → s ∉ l.map (·.1)) : Env (a.put d v) N l := by
  cases d with
  | none => exact h
  | some d =>
    refine ⟨by simp [Act.put, h.size], h.defers, fun {i u} e => ?_⟩
    have hne : d ≠ i := fun e' => hd d rfl (e' ▸ lk_of_keys e)
    simp only [Act.put]
    rw [Array.getElem?_setIfInBounds_ne hne]; exact h.at_ e
theorem lk_outs {out : List Nat} {t : Nat} {v : Value} (h : lk (outs ops val out) t = some v) : ∃ j ∈ out, dst ops j = some t ∧ valAt val j = some v := by
  induction out with
  | nil => cases h
  | cons j out ih =>
    simp only [outs] at h
    split at h
    · rename_i s u hs hu
      simp only [lk] at h
      split at h
      · rename_i he
        have he : t = s := Nat.eq_of_beq_eq_true he
        cases h; subst he
        exact ⟨j, List.mem_cons_self .., hs, hu⟩
      · obtain ⟨x, hx, h⟩ := ih h; exact ⟨x, List.mem_cons_of_mem _ hx, h⟩
    · obtain ⟨x, hx, h⟩ := ih h; exact ⟨x, List.mem_cons_of_mem _ hx, h⟩
theorem outs_some {out : List Nat} {j t : Nat} {v : Value} (hj : j ∈ out) (hd : dst ops j = some t) (hv : valAt val j = some v) : lk (outs ops val out) t ≠ none := by
  refine lk_keys ?_
  induction out with
  | nil => cases hj
  | cons x out ih =>
    simp only [outs]
    cases hj with
    | head => simp [hd, hv]
    | tail _ hj =>
      split
      · simp only [List.map_cons, List.mem_cons]; exact .inr (ih hj)
      · exact ih hj

theorem region {id : Nat} {Q : Exit → Act → World → Prop} {a : Act} {w : World} (U : List (Nat × Nat)) (T : List (Nat × Nat × Nat)) (out : List Nat) (pF : Nat)
    (hm : P.follows .mixedOrders = true) (hE : Env a N l0) (g0 : γ) (e0 : ef 0 g0 = []) (H : St z (hi 0 g0) w (rs 0 g0))
    (cD : (chkD ops && chkDirs ops && chkPre ops pre && chkPure ops pre eff mask U && chkEff pre eff mask T && chkKeys ops eff mask keys && chkVal ops val eff && chkSrc ops pre src && Nat.blt 0 mask.length &&
      (maskAt mask 0).isEmpty && ((List.range mask.length).all fun p => (maskAt mask p).all fun e => eff.contains e) && eff.all fun i => Nat.blt i ops.size) = true)
    (cN : ((List.range ops.size).all fun i => match dst ops i with | some t => Nat.blt t N | none => true) = true)
    (hK : ∀ p g, (ef p g).map (·.1) = keysAt keys p)
    (oP : AllP (ObP P ops val l0 src z N hi rs) U) (oE : AllE (ObE P ops val l0 src z N ef hi rs) T)
    (cF : ((List.range mask.length).all fun p => p == pF || !eff.all fun i => (maskAt mask p).contains i) = true)
    (cO : chkOuts ops val l0 out (keysAt keys pF) = true)
    (k : ∀ a w g, Env a N (outs ops val out ++ (ef pF g ++ l0)) → St z (hi pF g) w (rs pF g) → Q .normal a w) : (Code.region id ops true).wp P Q a w := by
  simp only [Bool.and_eq_true] at cD
  obtain ⟨⟨⟨⟨⟨⟨⟨⟨⟨⟨⟨cD, cDirs⟩, cPre⟩, cPure⟩, cEff⟩, cKeys⟩, cVal⟩, cSrc⟩, cM⟩, m0⟩, cMask⟩, cLt⟩ := cD
  have m0 : maskAt mask 0 = [] := List.isEmpty_iff.1 m0
  have hlt : ∀ i ∈ eff, i < ops.size := fun i hi => by simpa [Nat.blt_eq] using List.all_eq_true.1 cLt i hi
  have hD : ∀ {i t}, dst ops i = some t → i < ops.size := by
    intro i t h
    unfold dst at h
    rcases Nat.lt_or_ge i ops.size with h' | h'
    · exact h'
    · simp [Array.getElem?_eq_none h'] at h
  have hN : ∀ i t, dst ops i = some t → t < N := by
    intro i t h
    have := List.all_eq_true.1 cN i (List.mem_range.2 (hD h))
    simpa [h, Nat.blt_eq] using this
  have hdirs : ∀ {i o}, ops[i]? = some o → ∀ e ∈ o.after, Region.binds .any e = true → e.on ∈ dirs ops i := by
    intro i o ho e he hb
    simp only [dirs, ho, Option.map_some, Option.getD_some, List.mem_filterMap]
    exact ⟨e, by simpa using he, by simp [hb]⟩
  have hdirs' : ∀ {i o}, ops[i]? = some o → ∀ x ∈ dirs ops i, ∃ e ∈ o.after, Region.binds .any e = true ∧ e.on = x := by
    intro i o ho x hx
    simp only [dirs, ho, Option.map_some, Option.getD_some, List.mem_filterMap] at hx
    obtain ⟨e, he, hx⟩ := hx
    split at hx
    · rename_i hb; cases hx; exact ⟨e, by simpa using he, hb, rfl⟩
    · cases hx
  have done : ∀ (listed : Array Bool) (a : Act) (w : World), listed.size = ops.size → Inv ops pre val eff mask l0 z N ef hi rs (fun i => listed.getD i false) a w → Region.ready .any ops listed = [] → Q .normal a w := by
    intro listed a w hsz I hr
    have all : ∀ n i, i < n → i < ops.size → listed.getD i false = true := by
      intro n
      induction n with
      | zero => intro i hi; omega
      | succ n ih =>
        intro i hi hl
        rcases Nat.lt_or_ge i n with h | h
        · exact ih i h hl
        · obtain rfl : i = n := by omega
          cases hl0 : listed.getD i false with
          | true => rfl
          | false =>
            have ho : ops[i]? = some ops[i] := by simp [hl]
            have : i ∈ Region.ready .any ops listed := mem_ready.2 ⟨by
              have h1 : i < listed.size := by omega
              simp [h1] at hl0 ⊢; exact hl0, ops[i], ho, fun e he hb => by
                have := List.all_eq_true.1 (List.all_eq_true.1 cDirs i (List.mem_range.2 hl)) e.on (hdirs ho e he hb)
                simp only [Nat.blt_eq] at this
                exact ih e.on this (by omega)⟩
            rw [hr] at this; cases this
    have all : ∀ i, i < ops.size → listed.getD i false = true := fun i hi => all (i + 1) i (by omega) hi
    obtain ⟨p, g, hp, hmask, hef, hst⟩ := I.phase
    have hpF : p = pF := by
      have := List.all_eq_true.1 cF p (List.mem_range.2 hp)
      simp only [Bool.or_eq_true, beq_iff_eq, Bool.not_eq_true'] at this
      rcases this with h | h
      · exact h
      · exfalso
        have : (eff.all fun i => (maskAt mask p).contains i) = true := List.all_eq_true.2 fun i hi => by
          rw [← hmask i hi]; exact all i (hlt i hi)
        rw [this] at h; cases h
    subst hpF
    refine k a w g ⟨I.size, I.defers, fun {t v} e => ?_⟩ hst
    rcases lk_append e with e | ⟨e1, e⟩
    · obtain ⟨j, _, hd, hv⟩ := lk_outs e
      exact I.vals (hD hd) (all j (hD hd)) hd hv
    · rcases lk_append e with e | ⟨e2, e⟩
      · exact hef.at_ e
      · refine I.base e fun i hi _ hd => ?_
        have := List.all_eq_true.1 cO i (List.mem_range.2 hi)
        simp only [hd, Bool.or_eq_true, Bool.and_eq_true, List.contains_iff_mem] at this
        rcases this with ⟨h1, h2⟩ | h | h
        · obtain ⟨u, hu⟩ := Option.isSome_iff_exists.1 h2
          exact outs_some h1 hd hu e1
        · exact lk_keys (by rw [hK]; exact h) e2
        · rw [e] at h; cases h
  have key : ∀ (fuel : Nat) (listed : Array Bool) (a : Act) (w : World), listed.size = ops.size → listed.toList.countP (! ·) ≤ fuel →
      Inv ops pre val eff mask l0 z N ef hi rs (fun i => listed.getD i false) a w → wpAny P .any ops Q fuel listed a w := by
    intro fuel
    induction fuel with
    | zero =>
      intro listed a w hsz hc I
      have hr : Region.ready .any ops listed = [] := List.eq_nil_iff_forall_not_mem.2 fun j hj => by
        obtain ⟨h0, o, ho, _⟩ := mem_ready.1 hj
        have hj : j < listed.size := by rw [hsz]; exact (Array.getElem?_eq_some_iff.1 ho).1
        have := countP_all listed.toList (by omega) j (by simpa using hj)
        simp [hj] at this h0
        rw [this] at h0; cases h0
      exact ⟨hr, done listed a w hsz I hr⟩
    | succ fuel ih =>
      intro listed a w hsz hc I
      refine ⟨done listed a w hsz I, fun i hi => ?_⟩
      obtain ⟨h0, o, ho, hafter⟩ := mem_ready.1 hi
      have hil : i < ops.size := (Array.getElem?_eq_some_iff.1 ho).1
      have hil' : i < listed.size := by omega
      have hu : listed.getD i false = false := by simp [hil'] at h0 ⊢; exact h0
      have hdl : ∀ x ∈ dirs ops i, listed.getD x false = true := fun x hx => by
        obtain ⟨e, he, hb, rfl⟩ := hdirs' ho x hx
        exact hafter e he hb
      have hp : ∀ j ∈ preAt pre i, listed.getD j false = true := fun j hj => by
        have := List.all_eq_true.1 (List.all_eq_true.1 cPre i (List.mem_range.2 hil)) j hj
        obtain ⟨e, he, h⟩ := List.any_eq_true.1 this
        simp only [Bool.or_eq_true, beq_iff_eq, List.contains_iff_mem] at h
        rcases h with rfl | h
        · exact hdl e he
        · have hel : e < ops.size := by
            have := List.all_eq_true.1 (List.all_eq_true.1 cDirs i (List.mem_range.2 hil)) e he
            simp only [Nat.blt_eq] at this; omega
          exact I.down hel (hdl e he) j h
      have henv := env_of cSrc hD I hil hu hp
      obtain ⟨p, g, hpl, hmask, hef, hst⟩ := I.phase
      have hsub : ((preAt pre i).all fun x => !eff.contains x || (maskAt mask p).contains x) = true := List.all_eq_true.2 fun x hx => by
        cases he : eff.contains x with
        | false => rfl
        | true =>
          rw [← hmask x (by simpa using he), hp x hx]; rfl
      have hL : (fun j => (listed.setIfInBounds i true).getD j false) = fun x => if x = i then true else listed.getD x false := by
        funext x
        by_cases hx : x = i
        · subst hx; simp [hil']
        · rw [getD_set_ne false (fun e => hx e.symm)]; simp [hx]
      have hcnt : (listed.setIfInBounds i true).toList.countP (! ·) ≤ fuel := by
        have h1 : listed.toList[i]? = some false := by
          have : listed[i]? = some false := by simp [hil'] at hu ⊢; exact hu
          simpa using this
        have := countP_set listed.toList i h1
        rw [Array.toList_setIfInBounds]; omega
      have fin : ∀ {R : Value → World → Prop}, DoesG P ops i a w R → (∀ v w', R v w' → wpAny P .any ops Q fuel (listed.setIfInBounds i true) (a.put o.dst v) w') → wpOp P ops Q i (wpAny P .any ops Q fuel (listed.setIfInBounds i true)) a w := by
        intro R hdo hk
        obtain ⟨o', ho', hdo⟩ := hdo
        have : o' = o := by rw [ho] at ho'; cases ho'; rfl
        subst this
        have := hdo _ Q hk
        unfold wpOp
        simp only [ho]
        split
        · rename_i hw; rw [if_pos hw] at this; exact .inl this
        · rename_i hw; rw [if_neg hw] at this; exact this
      have hdst : dst ops i = o.dst := by simp [dst, ho]
      cases hie : eff.contains i with
      | false =>
        have hU : (i, p) ∈ U := by
          have := List.all_eq_true.1 (List.all_eq_true.1 cPure p (List.mem_range.2 hpl)) i (List.mem_range.2 hil)
          simp only [hie, Bool.false_or, Bool.or_eq_true, Bool.not_eq_true', hsub, Bool.true_and, List.contains_iff_mem] at this
          rcases this with h | h
          · exact h
          · exfalso
            obtain ⟨e, he, h'⟩ := List.all_eq_false.1 h
            simp only [Bool.not_eq_true', Bool.not_eq_false, Bool.not_not, Bool.not_eq_true, List.contains_iff_mem] at h'
            have hx : e ∈ eff := by
              have := List.all_eq_true.1 (List.all_eq_true.1 cMask p (List.mem_range.2 hpl)) e he
              simpa using this
            have h1 : listed.getD e false = true := by
              have := hmask e hx
              rw [this]; simpa using he
            have h2 := I.down (hlt e hx) h1 i (by simpa using h')
            rw [hu] at h2; cases h2
        refine fin (oP.get hU a w g henv hst) fun v w' hR => ?_
        refine ih _ _ _ (by simpa using hsz) hcnt ?_
        rw [hL, ← hdst]
        refine inv_put cD hD I hil hu hp (fun u hu' => by rw [hR.1] at hu'; cases hu'; rfl) (hN i) ⟨p, g, hpl, fun x hx => ?_, ?_, hR.2⟩
        · have hne : x ≠ i := fun e => by subst e; simp at hie; exact hie hx
          simp only [hne, if_false]; exact hmask x hx
        · refine env_keep hef _ v fun s hs => ?_
          rw [hK]
          intro hmem
          have := List.all_eq_true.1 (List.all_eq_true.1 (List.all_eq_true.1 cKeys p (List.mem_range.2 hpl)) s hmem) i (List.mem_range.2 hil)
          simp [hs] at this
          simp at hie; exact hie this.1
      | true =>
        have hie' : i ∈ eff := by simpa using hie
        have hnm : (maskAt mask p).contains i = false := by rw [← hmask i hie']; exact hu
        have := List.all_eq_true.1 (List.all_eq_true.1 cEff p (List.mem_range.2 hpl)) i hie'
        simp only [hnm, Bool.false_or, hsub, Bool.not_true, Bool.or_false] at this
        obtain ⟨t, ht, hc'⟩ := List.any_eq_true.1 this
        simp only [Bool.and_eq_true, beq_iff_eq, Nat.blt_eq] at hc'
        obtain ⟨⟨⟨e1, e2⟩, hp'⟩, hset⟩ := hc'
        have hob := oE.get ht
        rw [e1, e2] at hob
        refine fin (hob a w g henv hef hst) fun v w' hR => ?_
        obtain ⟨g', hst', hef'⟩ := hR
        refine ih _ _ _ (by simpa using hsz) hcnt ?_
        rw [hL, ← hdst]
        have hvn : valAt val i = none := by
          have := List.all_eq_true.1 cVal i (List.mem_range.2 hil)
          simpa [hie'] using this
        refine inv_put cD hD I hil hu hp (fun u hu' => by rw [hvn] at hu'; cases hu') (hN i) ⟨t.2.2, g', hp', fun x hx => ?_, ?_, hst'⟩
        · have := List.all_eq_true.1 hset x hx
          simp only [beq_iff_eq] at this
          rw [this]
          by_cases hxi : x = i
          · simp [hxi]
          · simp only [hxi, if_false]
            rw [hmask x hx]
            have : (x == i) = false := by simpa using hxi
            simp [this]
        · have hx : Env (a.put (dst ops i) v) N (match dst ops i with | some d => (d, v) :: ef p g | none => ef p g) := by
            cases hd : dst ops i with
            | none => exact hef
            | some s => exact hef.put s (by simpa [Nat.blt_eq] using hN i s hd) v
          exact ⟨hx.size, hx.defers, fun {t u} h => hx.at_ (hef' t u h)⟩
  refine wp_region_any hm (key ops.size _ _ _ (by simp) (Nat.le_trans (List.countP_le_length) (by simp)) ⟨hE.size, hE.defers, fun {t v} h _ => hE.at_ h, fun {i t v} hi hl => ?_, fun {i} hi hl => ?_, 0, g0, by simpa [Nat.blt_eq] using cM, fun i hi => ?_, ?_, H.drawn _ (Nat.le_succ _)⟩)
  · simp [hi] at hl
  · simp [hi] at hl
  · simp [m0, hlt i hi]
  · rw [e0]; exact ⟨hE.size, hE.defers, fun h => by cases h⟩
end
theorem lk_app {l1 l2 : List (Nat × Value)} {t : Nat} {v : Value} : lk (l1 ++ l2) t = some v → lk l1 t = some v ∨ (lk l1 t = none ∧ lk l2 t = some v) := by
  induction l1 with
  | nil => exact fun h => .inr ⟨rfl, h⟩
  | cons p l1 ih =>
    obtain ⟨j, u⟩ := p
    simp only [List.cons_append, lk]
    split
    · exact .inl
    · exact ih
theorem env_both {a : Act} {N : Nat} {l1 l2 : List (Nat × Value)} (h1 : Env a N l1) (h2 : Env a N l2) : Env a N (l1 ++ l2) := ⟨h1.size, h1.defers, fun {t v} e => by
  rcases lk_app e with e | ⟨_, e⟩
  · exact h1.at_ e
  · exact h2.at_ e⟩
theorem lkSub {l l' : List (Nat × Value)} (s : subs l l') : ∀ t u, lk l' t = some u → lk l t = some u := fun t u e => by
  induction l' with
  | nil => cases e
  | cons p l' ih =>
    obtain ⟨j, x⟩ := p
    simp only [lk] at e
    split at e
    · rename_i he
      have he : t = j := Nat.eq_of_beq_eq_true he
      cases e; subst he; exact s.1
    · exact ih s.2 e
/-- An operation that always gives v, and leaves memory. -/
theorem is {P : Program} {ops : Array Oper} {i : Nat} {a : Act} {w z : World} {I : Hp} {r : List Asn} {v : Value} {val : List (Option Value)} (H : St z I w r) (hv : valAt val i = some v) (h : DoesG P ops i a w (Is v w)) :
    DoesG P ops i a w fun v' w' => valAt val i = some v' ∧ St z I w' r := h.mono fun v' w' ⟨e1, e2⟩ => ⟨by rw [e1]; exact hv, by rw [e2]; exact H⟩
end Dr
end Go.Proofs.Ytbielnhpfbhkgaa
