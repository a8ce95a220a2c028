/- slices.SortFunc at structs, over a comparator that parts what is not one. -/
import Derived.Test.YtbielnhpfbhkgaaSl9
import Derived.Shelf.SlSortCmp.WholeK
import Derived.Shelf.SlSortCmp.NoneTotal
set_option linter.unusedVariables false
set_option linter.unusedSimpArgs false
namespace Go.Proofs.Ytbielnhpfbhkgaa
open Go

/-- Ascending, and the same: one list. -/
theorem asc_unique {α : Type} {r : α → Nat} : ∀ {l k : List α}, l.Perm k → (∀ x ∈ l, ∀ y ∈ l, r x = r y → x = y) → l.Pairwise (fun x y => r x ≤ r y) → k.Pairwise (fun x y => r x ≤ r y) → l = k
  | [], k, p, _, _, _ => (List.nil_perm.1 p).symm
  | x :: l, [], p, _, _, _ => by have := p.length_eq; simp at this
  | x :: l, y :: k, p, hr, h1, h2 => by
    have hxy : x = y := by
      have hx : x ∈ y :: k := p.subset (List.mem_cons_self ..)
      have hy : y ∈ x :: l := p.symm.subset (List.mem_cons_self ..)
      refine hr x (List.mem_cons_self ..) y hy (Nat.le_antisymm ?_ ?_)
      · rcases List.mem_cons.1 hy with e | e
        · rw [e]; exact Nat.le_refl _
        · exact (List.pairwise_cons.1 h1).1 y e
      · rcases List.mem_cons.1 hx with e | e
        · rw [e]; exact Nat.le_refl _
        · exact (List.pairwise_cons.1 h2).1 x e
    subst hxy
    rw [asc_unique (List.Perm.cons_inv p) (fun a ha b hb => hr a (List.mem_cons_of_mem _ ha) b (List.mem_cons_of_mem _ hb)) (List.pairwise_cons.1 h1).2 (List.pairwise_cons.1 h2).2]
section plain
variable {α : Type}
/-- Insertion by a test. -/
def insF (le : α → α → Bool) (x : α) : List α → List α
  | [] => [x]
  | y :: ys => if le x y then x :: y :: ys else y :: insF le x ys
def isortF (le : α → α → Bool) : List α → List α
  | [] => []
  | x :: xs => insF le x (isortF le xs)
theorem insF_perm (le : α → α → Bool) (x : α) : ∀ l : List α, (insF le x l).Perm (x :: l)
  | [] => List.Perm.refl _
  | y :: ys => by
    unfold insF
    split
    · exact List.Perm.refl _
    · exact ((insF_perm le x ys).cons y).trans (List.Perm.swap x y ys)
theorem isortF_perm (le : α → α → Bool) : ∀ l : List α, (isortF le l).Perm l
  | [] => List.Perm.refl _
  | x :: xs => (insF_perm le x _).trans ((isortF_perm le xs).cons x)
variable [DecidableEq α]
def cmpLe (cmp : α → α → Option Int) (x y : α) : Bool := match cmp x y with
  | some c => decide (c ≤ 0)
  | none => true
/-- Two that are not one are parted, in this order. -/
def parts (cmp : α → α → Option Int) (x y : α) : Bool := match cmp x y, cmp y x with
  | some a, some b => x == y || (decide (a < 0) && decide (0 ≤ b))
  | _, _ => false
def okF (cmp : α → α → Option Int) : List α → Bool
  | [] => true
  | x :: l => (match cmp x x with
    | some c => decide (0 ≤ c)
    | none => false) && l.all (parts cmp x) && okF cmp l
/-- What slices.SortFunc leaves, where the comparator parts what is not one. -/
def sortF (cmp : α → α → Option Int) (xs : List α) : Option (List α) :=
  if okF cmp (isortF (cmpLe cmp) xs) && decide (xs.length < 4611686018427387904) then some (isortF (cmpLe cmp) xs) else none
theorem sortF_some {cmp : α → α → Option Int} {xs ys : List α} (h : sortF cmp xs = some ys) : ys = isortF (cmpLe cmp) xs ∧ ys.Perm xs ∧ okF cmp ys = true ∧ xs.length < 4611686018427387904 := by
  unfold sortF at h
  split at h
  · rename_i hc
    simp only [Bool.and_eq_true, decide_eq_true_eq] at hc
    cases h; exact ⟨rfl, isortF_perm _ _, hc.1, hc.2⟩
  · cases h
/-- The place of the first one. -/
def plc : List α → α → Nat
  | [], _ => 0
  | y :: ys, x => if x = y then 0 else plc ys x + 1
theorem plc_inj : ∀ {l : List α} {x y : α}, x ∈ l → y ∈ l → plc l x = plc l y → x = y
  | z :: l, x, y, hx, hy, h => by
    simp only [plc] at h
    by_cases h1 : x = z
    · by_cases h2 : y = z
      · rw [h1, h2]
      · rw [if_pos h1, if_neg h2] at h; omega
    · by_cases h2 : y = z
      · rw [if_neg h1, if_pos h2] at h; omega
      · rw [if_neg h1, if_neg h2] at h
        exact plc_inj ((List.mem_cons.1 hx).resolve_left h1) ((List.mem_cons.1 hy).resolve_left h2) (by omega)
theorem okF_plc {cmp : α → α → Option Int} : ∀ {l : List α}, okF cmp l = true → ∀ {x y : α}, x ∈ l → y ∈ l → ∃ c, cmp x y = some c ∧ (c < 0 ↔ plc l x < plc l y)
  | z :: l, h, x, y, hx, hy => by
    simp only [okF, Bool.and_eq_true] at h
    obtain ⟨⟨h0, h1⟩, h2⟩ := h
    have hz : ∃ c, cmp z z = some c ∧ ¬ c < 0 := by
      split at h0
      · rename_i c hc; exact ⟨c, hc, by have := of_decide_eq_true h0; omega⟩
      · cases h0
    have hzy : ∀ {y}, y ∈ l → y ≠ z → ∃ a b, cmp z y = some a ∧ cmp y z = some b ∧ a < 0 ∧ 0 ≤ b := fun {y} hy hne => by
      have := List.all_eq_true.1 h1 y hy
      unfold parts at this
      split at this
      · rename_i a b ha hb
        refine ⟨a, b, ha, hb, ?_⟩
        simp only [Bool.or_eq_true, beq_iff_eq, Bool.and_eq_true, decide_eq_true_eq] at this
        rcases this with e | e
        · exact absurd e.symm hne
        · exact e
      · cases this
    simp only [plc]
    by_cases e1 : x = z
    · by_cases e2 : y = z
      · obtain ⟨c, hc, hn⟩ := hz
        refine ⟨c, by rw [e1, e2]; exact hc, ?_⟩
        rw [if_pos e1, if_pos e2]; omega
      · obtain ⟨a, b, ha, _, h3, _⟩ := hzy ((List.mem_cons.1 hy).resolve_left e2) e2
        refine ⟨a, by rw [e1]; exact ha, ?_⟩
        rw [if_pos e1, if_neg e2]; omega
    · by_cases e2 : y = z
      · obtain ⟨a, b, _, hb, _, h3⟩ := hzy ((List.mem_cons.1 hx).resolve_left e1) e1
        refine ⟨b, by rw [e2]; exact hb, ?_⟩
        rw [if_neg e1, if_pos e2]; omega
      · obtain ⟨c, hc, hi⟩ := okF_plc h2 ((List.mem_cons.1 hx).resolve_left e1) ((List.mem_cons.1 hy).resolve_left e2)
        refine ⟨c, hc, ?_⟩
        rw [if_neg e1, if_neg e2, hi]; omega
theorem okF_asc {cmp : α → α → Option Int} : ∀ {l : List α}, okF cmp l = true → l.Pairwise fun x y => ∃ c, cmp y x = some c ∧ ¬ c < 0
  | [], _ => List.Pairwise.nil
  | x :: l, h => by
    have h' := h
    simp only [okF, Bool.and_eq_true] at h
    obtain ⟨⟨h0, h1⟩, h2⟩ := h
    refine List.pairwise_cons.2 ⟨fun y hy => ?_, okF_asc h2⟩
    obtain ⟨c, hc, hi⟩ := okF_plc h' (List.mem_cons_of_mem x hy) (List.mem_cons_self ..)
    refine ⟨c, hc, fun hlt => ?_⟩
    have := hi.1 hlt
    simp [plc] at this
theorem okF_plc_asc {cmp : α → α → Option Int} {l : List α} (h : okF cmp l = true) : l.Pairwise fun x y => plc l x ≤ plc l y := by
  refine (okF_asc h).imp_of_mem fun {x y} hx hy hc => ?_
  obtain ⟨c, hc, hn⟩ := hc
  obtain ⟨c', hc', hi⟩ := okF_plc h hy hx
  rw [hc] at hc'; cases hc'
  omega
end plain

section
variable {z w w' : World} {I J : Hp} {r l : List Asn}
theorem St.weak (h : I.le J) (H : St z J w l) : St z I w l := ⟨H.os, H.tape, H.output, H.dr, let ⟨K, g, a, b⟩ := H.own; ⟨K, g, h.le_trans a, b⟩⟩
theorem St.base {p : Hp → Prop} {m} (H : St z I w (Pu p m :: l)) : ∃ J, I.le J ∧ J.le (hp w) ∧ p J ∧ St z J w l := by
  obtain ⟨J, h, i, j, d, a, s⟩ := H.own
  exact ⟨J, i, j, s.pu.1, H.os, H.tape, H.output, H.dr, J, h, Hp.le_refl _, j, d, a, s.drop⟩
/-- What a call leaves that knows all that lies there: the world has grown, and nothing else. -/
theorem St.grown (H : St w (hp w) w' []) : ∃ q os, w' = Sort.grow (w.drewN q) os := by
  have hb : ∀ k, k < w.heap.size → w'.heap[k]? = w.heap[k]? := fun k hk => by
    have e : (hp w) k = some w.heap[k] := by simp [hp, hk]
    rw [show w'.heap[k]? = some w.heap[k] from H.know.out e]; simp [hk]
  have hs : w.heap.size ≤ w'.heap.size := by
    rcases Nat.eq_zero_or_pos w.heap.size with h0 | h0
    · omega
    · have := hb (w.heap.size - 1) (by omega)
      rw [Array.getElem?_eq_getElem (show w.heap.size - 1 < w.heap.size by omega)] at this
      have := (Array.getElem?_eq_some_iff.1 this).1
      omega
  refine ⟨w'.drawn - w.drawn, w'.heap.extract w.heap.size w'.heap.size, ?_⟩
  have hh : w'.heap = w.heap ++ w'.heap.extract w.heap.size w'.heap.size := by
    apply Array.ext_getElem?
    intro i
    rcases Nat.lt_or_ge i w.heap.size with hi | hi
    · rw [hb i hi, Array.getElem?_append_left hi]
    · rw [Array.getElem?_append_right hi]
      simp only [Array.getElem?_extract]
      rcases Nat.lt_or_ge i w'.heap.size with h | h
      · rw [if_pos (by omega), show w.heap.size + (i - w.heap.size) = i by omega]
      · rw [Array.getElem?_eq_none h, if_neg (by omega)]
  have hd := H.dr
  have h1 := H.os
  have h2 := H.tape
  have h3 := H.output
  cases w' with | mk a b c d e =>
  cases w with | mk a' b' c' d' e' =>
  simp only at *
  simp only [Sort.grow, World.drewN]
  rw [← hh, h1, h2, h3]
  congr 1
  omega
end

section
variable {P : Program} {α : Type} {c : Cod α} {z w : World} {I : Hp} {r : List Asn} {v : Value} {xs xs' : List α} {a : Act} {N : Nat} {l : List (Nat × Value)} {d : Option Nat} {ty : TypeId} {pos : String} {af : Array Edge}
theorem St.all (w : World) : St w (hp w) w [] := ⟨rfl, rfl, rfl, Nat.le_refl _, hp w, fun _ => none, Hp.le_refl _, Hp.le_refl _, fun _ => .inl rfl, Hp.le_nil _, trivial⟩
theorem St.ownCut {lo hi : Int} (hc : cutx xs lo hi = some xs') (H : St z I w (OwnSl c v xs :: r)) : St z I w (OwnSl c (slv c.n v lo hi) xs' :: r) := by
  obtain ⟨rfl, h0, h1, h2⟩ := cutx_some hc
  obtain ⟨J, _, _, hrd⟩ := (Rd.own (r := OwnSl c v xs :: r) 0 rfl).st H
  obtain ⟨A, cap, rfl, hle⟩ := hrd.form
  exact own_cut h0 h1 h2 rfl H
theorem d_callV {f : FuncId} {x : Operand} {xs : Array Operand} {ts : Array TypeId} {vs bs : List Value} {R : Value → World → Prop} (hf : Callable P f) (hE : Env a N l) (h0 : ev l x = some (.func (.func f) #[] bs.toArray)) (hx : evs l xs.toList = some vs)
    (c : Calls P f (vs ++ bs).toArray w (Rt R)) : Does P ⟨d, .call { callee := .value x, args := xs, argTypes := ts }, ty, pos, af, none⟩ a w R := by
  refine does_enter (f := f) (vs := (vs ++ bs).toArray) (w' := w) ?_ c
  have hv : xs.map a.eval = vs.toArray := by rw [← hE.evs hx]; apply Array.toList_inj.1; simp
  have hfn : a.eval x = .func (.func f) #[] bs.toArray := hE.ev h0
  have h := run_callFunc hf (vs ++ bs).toArray w
  simp only [execOp, resolve, Sem.run_bind, hfn, Deferred.ofValue, Sem.run_pure, Result.andThen_ok, invoke, hv]
  simpa using h
end

theorem rows_pick {α : Type} {cells : Array Value} {c : Cod α} {J : Hp} : ∀ {xs : List α} {Q : α → Prop} (hQ : ∀ x ∈ xs, Q x) {k : Nat} (h : ∀ (i : Nat) (x : α), xs[i]? = some x → ∃ cs, Sec cells (k + i * c.n) cs ∧ c.rd J cs x),
    ∃ ps : List {p : α × List Value // Q p.1 ∧ c.rd J p.2 p.1}, ps.map (·.1.1) = xs ∧ ∀ (i : Nat) (p : {p : α × List Value // Q p.1 ∧ c.rd J p.2 p.1}), ps[i]? = some p → Sec cells (k + i * c.n) p.1.2
  | [], Q, _, k, h => ⟨[], rfl, fun i p hp => by cases hp⟩
  | x :: xs, Q, hQ, k, h => by
    obtain ⟨cs, a, b⟩ := h 0 x rfl
    obtain ⟨ps, e1, e2⟩ := rows_pick (xs := xs) (Q := Q) (fun y hy => hQ y (List.mem_cons_of_mem _ hy)) (k := k + c.n) (fun i y hy => by
      obtain ⟨cs, a, b⟩ := h (i + 1) y (by simpa using hy)
      refine ⟨cs, ?_, b⟩
      rw [show k + c.n + i * c.n = k + (i + 1) * c.n from by rw [Nat.add_mul]; omega]; exact a)
    refine ⟨⟨(x, cs), hQ x (List.mem_cons_self ..), b⟩ :: ps, by simp [e1], fun i p hp => ?_⟩
    cases i with
    | zero => simp at hp; subst hp; simpa using a
    | succ i =>
      have := e2 i p (by simpa using hp)
      rw [show k + (i + 1) * c.n = k + c.n + i * c.n from by rw [Nat.add_mul]; omega]; exact this
section
open Go.Sort Go.Lib
variable {P : Program} {ρ : Shelf.Ren} {α : Type} [DecidableEq α] {c : Cod α} {z w : World} {I : Hp} {r : List Asn} {v : Value} {xs ys : List α} {cmp : α → α → Option Int} {g : Nat} {t : TypeId}
/-- What is asked of a comparator of structs. -/
def CmpOk (P : Program) (g : Nat) (c : Cod α) (cmp : α → α → Option Int) : Prop := ∀ (x y : α) (a : Int), cmp x y = some a → ∀ (cs ds : List Value) (w : World), c.rd (hp w) cs x → c.rd (hp w) ds y →
  Calls P g #[.agg cs.toArray, .agg ds.toArray] w (Rt fun v w' => v = .int .i64 a ∧ St w (hp w) w' [])
theorem flat_at {β : Type} [Inhabited β] {enc : β → List Value} {n : Nat} (hk : ∀ x, (enc x).length = n) {d : Array β} {i j : Nat} {x : β} {u : Value} (hx : d[i]? = some x) (hu : (enc x)[j]? = some u) : (flatK enc n d)[i * n + j]? = some u ∧ i * n + j < d.size * n := by
  have hi := (Array.getElem?_eq_some_iff.1 hx).1
  have hj : j < n := by rw [← hk x]; exact (List.getElem?_eq_some_iff.1 hu).1
  have hle : i * n + n ≤ d.size * n := by
    have := Nat.mul_le_mul_right n (show i + 1 ≤ d.size from hi); rwa [Nat.add_mul, Nat.one_mul] at this
  have e1 : (i * n + j) / n = i := (blk_iff n i _ (by omega)).1 ⟨by omega, by omega⟩
  have e2 : (i * n + j) % n = j := by rw [Nat.mod_eq_sub_div_mul, e1]; omega
  refine ⟨?_, by omega⟩
  have hlt : i * n + j < (flatK enc n d).size := by rw [size_flatK]; omega
  have hg := get_flatK enc n d (i * n + j) (by omega)
  have hx' : d[i]! = x := by rw [getElem!_pos d i hi]; exact (Array.getElem?_eq_some_iff.1 hx).2
  rw [Array.getElem?_eq_getElem hlt, show (flatK enc n d)[i * n + j] = (flatK enc n d)[i * n + j]! from (getElem!_pos (flatK enc n d) (i * n + j) hlt).symm, hg, e1, e2, hx']
  obtain ⟨h1, h2⟩ := List.getElem?_eq_some_iff.1 hu
  rw [List.getElem!_eq_getElem?_getD, hu]; rfl
set_option maxHeartbeats 1000000 in
theorem sortF_row (L : SlLaysF0.n6 P ρ) (ht : Aggr P (ρ.t 24) c.n) (eg : ∀ args w, (callFunc g args).run P w = .ok (.enter g args) w) (hg : CmpOk P g c cmp) (hs : sortF cmp xs = some ys) (H : St z I w (OwnSl c v xs :: r)) :
    Calls P (ρ.f 6) #[v, .func (.func g) #[] #[]] w (Rt fun u w' => u = .tuple #[] ∧ St z I w' (OwnSl c v ys :: r)) := by
  obtain ⟨hys, hperm, hok, hlen⟩ := sortF_some hs
  have none : ∀ A cap, v = .slice A 0 cap → xs = [] → Calls P (ρ.f 6) #[v, .func (.func g) #[] #[]] w (Rt fun u w' => u = .tuple #[] ∧ St z I w' (OwnSl c v ys :: r)) := fun A cap hv hx => by
    subst hv hx
    obtain rfl : ys = [] := List.perm_nil.1 hperm
    refine (AnyF.slices_SortFunc_none L A cap _ w).mono fun e w' h => ?_
    obtain ⟨rfl, rfl⟩ := h
    exact ⟨_, rfl, rfl, H⟩
  rcases H.own_cases with ⟨rfl, A, rfl⟩ | ⟨b, k, cap, cells, T, hv, p1, p2, H1⟩
  · exact none A 0 rfl rfl
  · rcases List.eq_nil_or_concat xs with h0 | ⟨l0, x0, h0⟩
    · exact none (some (ad b k)) cap (by rw [hv, h0]; rfl) h0
    · have hblk := H1.ob 0 rfl
      obtain ⟨J, iJ, jw, hx, H2⟩ := (H1.get 1 rfl).base
      have H2 : St z J w (Bl b T cells :: r) := H2
      obtain ⟨ps, e1, e2⟩ := rows_pick (c := c) (J := J) (xs := xs) (Q := fun x => x ∈ xs) (fun x h => h) hx
      let β := {p : α × List Value // p.1 ∈ xs ∧ c.rd J p.2 p.1}
      have hne : ∃ p0 : β, p0 ∈ ps := by
        cases ps with
        | nil => rw [← e1] at h0; simp at h0
        | cons p0 _ => exact ⟨p0, List.mem_cons_self ..⟩
      obtain ⟨p0, _⟩ := hne
      haveI : Inhabited β := ⟨p0⟩
      let enc : β → List Value := fun p => p.1.2
      have hk : ∀ p : β, (enc p).length = c.n := fun p => c.len p.2.2
      have h1 : ∀ p : β, ∀ u ∈ enc p, u.oneCell' = true := fun p => c.one p.2.2
      let d : Array β := ps.toArray
      have hdn : d.size = xs.length := by rw [← e1]; simp [d]
      let cf : β → β → Int := fun p q => (cmp p.1.1 q.1.1).getD 0
      have hmem : ∀ p : β, p.1.1 ∈ ys := fun p => hperm.symm.subset p.2.1
      have hcf : ∀ p q : β, ltOf cf p q = decide (plc ys p.1.1 < plc ys q.1.1) := fun p q => by
        obtain ⟨a, ha, hi⟩ := okF_plc hok (hmem p) (hmem q)
        simp only [ltOf, cf, ha, Option.getD_some, hi]
      have hO : SWO (ltOf cf) := ⟨fun x => by rw [hcf]; simp, fun x y z h1 h2 => by rw [hcf] at *; simp at *; omega, fun x y z h1 h2 => by rw [hcf] at *; simp at *; omega⟩
      have hcell : ∀ j u, (flatK enc c.n d)[j]? = some u → cells.toArray[k + j]? = some u := fun j u hj => by
        have hlt := (Array.getElem?_eq_some_iff.1 hj).1
        rw [size_flatK] at hlt
        have hn : 0 < c.n := by rcases Nat.eq_zero_or_pos c.n with h | h; · rw [h] at hlt; omega
                                · exact h
        have hq : j / c.n < d.size := by rw [Nat.div_lt_iff_lt_mul hn]; exact hlt
        have hp : ps[j / c.n]? = some (d[j / c.n]'hq) := by
          simp [d]
        have hm : j % c.n < (enc (d[j / c.n]'hq)).length := by rw [hk]; exact Nat.mod_lt _ hn
        have hS := e2 _ _ hp (j % c.n) ((enc (d[j / c.n]'hq))[j % c.n]'hm) (by simp [enc])
        have hf := (flat_at (enc := enc) hk (d := d) (i := j / c.n) (j := j % c.n) (Array.getElem?_eq_getElem hq) (List.getElem?_eq_getElem hm)).1
        have hjj : j / c.n * c.n + j % c.n = j := by rw [Nat.mul_comm]; exact Nat.div_add_mod ..
        rw [hjj, hj] at hf
        cases hf
        rw [show k + j = k + j / c.n * c.n + j % c.n by omega]; exact hS
      have hH : HoldsK enc c.n w b k d := fun j hj => by
        have hj' : (flatK enc c.n d)[j]? = some (flatK enc c.n d)[j]! := by rw [getElem!_pos _ j hj]; exact Array.getElem?_eq_getElem hj
        exact ⟨by rw [show (⟨b, k + j, Option.none⟩ : Addr) = ad b (k + j) from rfl, cell_ad hblk]; exact hcell j _ hj', frozen_ad hblk⟩
      have hbs : b < w.heap.size := (Array.getElem?_eq_some_iff.1 hblk).1
      -- the world behind the sort, and what is known of it
      have hJb : J b = Option.none := by
        obtain ⟨J', h', i', j', dj, a', h1', h2', p', _, l1', _⟩ := H2.own
        rcases dj b with e | e
        · rw [l1'.out (show h1' b = some _ from p')] at e; cases e
        · cases hJ : J b with
          | none => rfl
          | some o => rw [i'.out hJ] at e; cases e
      have hput : ∀ (dk : Array β) m os, (∀ i, i ≠ b → i < w.heap.size → (sortWorldK enc c.n w b k m dk os).heap[i]? = w.heap[i]?) ∧ (sortWorldK enc c.n w b k m dk os).heap[b]? = some (.cells (putCells id k (flatK enc c.n dk) cells.toArray) T (0, 0)) ∧
          (sortWorldK enc c.n w b k m dk os).os = w.os ∧ (sortWorldK enc c.n w b k m dk os).tape = w.tape ∧ (sortWorldK enc c.n w b k m dk os).output = w.output ∧ w.drawn ≤ (sortWorldK enc c.n w b k m dk os).drawn := fun dk m os => by
        refine ⟨fun i hi hlt => ?_, ?_, rfl, rfl, rfl, Nat.le_add_right _ _⟩
        · simp only [sortWorldK, Sort.grow, putRowK, putRow, mapBlock, Go.Sort.ahead]
          rw [Array.getElem?_append_left (by simpa using hlt), Array.getElem?_modify, if_neg (fun e => hi e.symm)]
        · simp only [sortWorldK, Sort.grow, putRowK, putRow, mapBlock, Go.Sort.ahead]
          rw [Array.getElem?_append_left (by simpa using hbs), Array.getElem?_modify, if_pos rfl, hblk]; rfl
      have hcmp : CmpLays P g #[] enc c.n cf b k d.size w := fun m os dk hdk x y => by
        obtain ⟨q1, q2, _⟩ := hput dk m os
        have keep : J.le (hp (sortWorldK enc c.n w b k m dk os)) := ⟨fun {i o} e => by
          have hi : i ≠ b := fun e' => by rw [e', hJb] at e; cases e
          have e' := jw.out e
          have hlt : i < w.heap.size := (Array.getElem?_eq_some_iff.1 (show w.heap[i]? = some o from e')).1
          show (sortWorldK enc c.n w b k m dk os).heap[i]? = some o
          rw [q1 i hi hlt]; exact e'⟩
        obtain ⟨a, ha, _⟩ := okF_plc hok (hmem x) (hmem y)
        refine (hg _ _ a ha (enc x) (enc y) _ (c.mono keep x.2.2) (c.mono keep y.2.2)).mono fun e w' h => ?_
        obtain ⟨u, rfl, rfl, h⟩ := h
        exact ⟨by simp only [cf, ha, Option.getD_some], h.grown⟩
      have hcon := AnyQ.slices_SortFunc L c.n (fun w => (ht w).1) (fun w => (ht w).2) enc hk h1 cf hO g #[] b k cap d w eg hcmp hH hbs (by rw [hdn]; exact hlen)
      rw [hdn] at hcon
      rw [hv]
      refine hcon.mono fun e w' h => ?_
      obtain ⟨rfl, d', n, os, hpm, hsd, rfl⟩ := h
      refine ⟨_, rfl, rfl, ?_⟩
      obtain ⟨q1, q2, q3, q4, q5, q6⟩ := hput d' n os
      have hd' : d'.size = xs.length := by rw [hpm.1]; exact hdn
      have hpl : d'.toList.Perm d.toList := by
        have := hpm.2.2
        rwa [Array.extract_eq_self_of_le (by rw [hpm.1, hdn]; exact Nat.le_refl _), Array.extract_eq_self_of_le (by rw [hdn]; exact Nat.le_refl _)] at this
      have hmap : d.toList.map (·.1.1) = xs := by simpa [d] using e1
      have hyd : d'.toList.map (fun p : β => p.1.1) = ys := by
        have pm : (d'.toList.map (fun p : β => p.1.1)).Perm ys := by
          refine (hpl.map _).trans ?_
          rw [hmap]; exact hperm.symm
        refine asc_unique (r := plc ys) pm (fun x hx y hy h => plc_inj (pm.subset hx) (pm.subset hy) h) ?_ (okF_plc_asc hok)
        rw [List.pairwise_map, List.pairwise_iff_getElem]
        intro i j hi hj hij
        have := hsd i j (Nat.zero_le _) hij (by rw [← hd']; simpa using hj)
        rw [hcf] at this
        simp only [decide_eq_false_iff_not, Nat.not_lt] at this
        rw [getElem!_pos d' i (by simpa using hi), getElem!_pos d' j (by simpa using hj)] at this
        exact this
      have hyl : ys.length = xs.length := hperm.length_eq
      -- memory
      refine St.weak iJ ?_
      have hcap : (xs.length) * c.n ≤ cap * c.n := Nat.mul_le_mul_right _ p1
      have HP : St z J (sortWorldK enc c.n w b k n d' os) (Bl b T (putCells id k (flatK enc c.n d') cells.toArray).toList :: r) := by
        refine H2.turn q3 q4 q5 (Nat.le_trans H2.dr q6) fun J' h1' _ _ l1' p' => ⟨one b (.cells (putCells id k (flatK enc c.n d') cells.toArray) T (0, 0)), ?_, one_le q2, fun i => ?_, fun i hi hlt => q1 i (fun e => by rw [e] at hi; rw [show h1' b = some _ from p'] at hi; cases hi) hlt⟩
        · show one b _ b = some _
          simp [one]
        · by_cases hi : i = b
          · subst hi; exact .inr (.inl (by rw [show h1' i = some _ from p']; simp))
          · exact .inl (by simp [one, hi])
      have HQ : St z J (sortWorldK enc c.n w b k n d' os) (Rws c (putCells id k (flatK enc c.n d') cells.toArray).toList k ys :: Bl b T (putCells id k (flatK enc c.n d') cells.toArray).toList :: r) := by
        refine St.pu_intro ?_ HP
        intro i x hi
        rw [← hyd, List.getElem?_map] at hi
        obtain ⟨p, hp, rfl⟩ := Option.map_eq_some_iff.1 hi
        have hp' : d'[i]? = some p := by simpa using hp
        refine ⟨enc p, fun j u hj => ?_, p.2.2⟩
        obtain ⟨f1, f2⟩ := flat_at (enc := enc) hk hp' hj
        have hjn : i * c.n + j < xs.length * c.n := by rw [← hd']; exact f2
        have hcl : k + i * c.n + j < cells.length := by omega
        simp only [putCells, Array.toArray_toList, Array.getElem?_mapIdx, size_flatK]
        rw [List.getElem?_toArray, List.getElem?_eq_getElem hcl, Option.map_some, if_pos ⟨by omega, by rw [hd']; omega⟩]
        rw [show k + i * c.n + j - k = i * c.n + j by omega]
        obtain ⟨g1, g2⟩ := Array.getElem?_eq_some_iff.1 f1
        rw [getElem!_pos (flatK enc c.n d') (i * c.n + j) g1, g2]; rfl
      exact St.own_intro (b := b) (k := k) (cap := cap) (cells := (putCells id k (flatK enc c.n d') cells.toArray).toList) (T := T) (by rw [hyl]) (by rw [hyl]; exact p1) (by simp [putCells]; exact p2) (HQ.get 1 rfl)
end
end Go.Proofs.Ytbielnhpfbhkgaa
