/- Maps keyed by ints. -/
import Derived.Test.YtbielnhpfbhkgaaSl5
import Derived.MapKept
set_option linter.unusedVariables false
set_option linter.unusedSimpArgs false
namespace Go.Proofs.Ytbielnhpfbhkgaa
open Go

/-- A value out of its cells: a struct (true), or one cell. -/
def mkv : Bool → List Value → Value
  | true, cs => .agg cs.toArray
  | false, cs => cs.headD undef
def mget {α : Type} : List (Int × α) → Int → Option α
  | [], _ => none
  | (j, x) :: m, k => if j = k then some x else mget m k
def mput {α : Type} : List (Int × α) → Int → α → List (Int × α)
  | [], k, x => [(k, x)]
  | (j, y) :: m, k, x => if j = k then (j, x) :: m else (j, y) :: mput m k x
def mkeys {α : Type} (m : List (Int × α)) : List Int := m.map (·.1)
theorem mput_old {α : Type} (m : List (Int × α)) (k : Int) (x : α) (h : k ∈ mkeys m) : mkeys (mput m k x) = mkeys m := by
  induction m with
  | nil => cases h
  | cons p m ih =>
    obtain ⟨j, y⟩ := p
    simp only [mput]
    by_cases hj : j = k
    · rw [if_pos hj]; rfl
    · rw [if_neg hj]
      have h' : k ∈ mkeys m := by
        cases h with
        | head => exact absurd rfl hj
        | tail _ h => exact h
      exact congrArg (j :: ·) (ih h')
theorem mput_new {α : Type} (m : List (Int × α)) (k : Int) (x : α) (h : ¬ k ∈ mkeys m) : mput m k x = m ++ [(k, x)] := by
  induction m with
  | nil => rfl
  | cons p m ih =>
    obtain ⟨j, y⟩ := p
    have hj : ¬ j = k := fun e => h (by subst e; exact List.mem_cons_self ..)
    simp only [mput, if_neg hj, List.cons_append]
    rw [ih fun h' => h (List.mem_cons_of_mem _ h')]
theorem mget_put {α : Type} (m : List (Int × α)) (k j : Int) (x : α) : mget (mput m k x) j = if j = k then some x else mget m j := by
  induction m with
  | nil => simp only [mput, mget, eq_comm]
  | cons p m ih =>
    obtain ⟨q, y⟩ := p
    simp only [mput]
    by_cases hq : q = k
    · rw [if_pos hq]; subst hq
      simp only [mget]
      by_cases hj : j = q
      · subst hj; simp
      · rw [if_neg (fun e => hj e.symm), if_neg hj, if_neg (fun e => hj e.symm)]
    · rw [if_neg hq]
      simp only [mget, ih]
      by_cases hj : q = j
      · subst hj; rw [if_pos rfl, if_neg hq, if_pos rfl]
      · rw [if_neg hj, if_neg hj]
theorem mget_mem {α : Type} (m : List (Int × α)) (k : Int) : (mget m k).isSome = true ↔ k ∈ mkeys m := by
  induction m with
  | nil => simp [mget, mkeys]
  | cons p m ih =>
    obtain ⟨q, y⟩ := p
    simp only [mget]
    by_cases hq : q = k
    · subst hq; simp [mkeys]
    · rw [if_neg hq, ih]
      refine ⟨List.mem_cons_of_mem _, fun h => ?_⟩
      cases h with
      | head => exact absurd rfl hq
      | tail _ h => exact h
/-- One entry of a map, as data. -/
structure Ent {α : Type} (c : Cod α) (g : Bool) (I : Hp) (e : MapEntry) (p : Int × α) : Prop where mk ::
  key : e.key = .int .i64 p.1
  val : ∃ cs, e.val = mkv g cs ∧ c.rd I cs p.2
inductive Ents {α : Type} (c : Cod α) (g : Bool) (I : Hp) : List MapEntry → List (Int × α) → Prop where
  | nil : Ents c g I [] []
  | cons {e : MapEntry} {p : Int × α} {es : List MapEntry} {m : List (Int × α)} (h : Ent c g I e p) (t : Ents c g I es m) : Ents c g I (e :: es) (p :: m)
theorem Ent.mono {α : Type} {c : Cod α} {g : Bool} {I J : Hp} {e : MapEntry} {p : Int × α} (hI : I.le J) (h : Ent c g I e p) : Ent c g J e p := ⟨h.key, let ⟨cs, a, b⟩ := h.val; ⟨cs, a, c.mono hI b⟩⟩
theorem Ents.mono {α : Type} {c : Cod α} {g : Bool} {I J : Hp} (hI : I.le J) : ∀ {es : List MapEntry} {m : List (Int × α)}, Ents c g I es m → Ents c g J es m
  | _, _, .nil => .nil
  | _, _, .cons h t => .cons (h.mono hI) (t.mono hI)
theorem Ents.len {α : Type} {c : Cod α} {g : Bool} {I : Hp} : ∀ {es : List MapEntry} {m : List (Int × α)}, Ents c g I es m → es.length = m.length
  | _, _, .nil => rfl
  | _, _, .cons _ t => by simp [t.len]
/-- A map of one's own. -/
def MapR {α : Type} (c : Cod α) (g : Bool) (b : Nat) (m : List (Int × α)) : Asn :=
  ⟨fun I h => ∃ es clock, h b = some (.map es clock) ∧ MapKept.Stamped es clock ∧ Ents c g I es.toList m,
   fun hI hk ⟨es, clock, a, s, t⟩ => ⟨es, clock, hk.out a, s, t.mono hI⟩⟩
section
variable {P : Program} {α : Type} {c : Cod α} {g : Bool} {a : Act} {w w' z : World} {I J : Hp} {N : Nat} {l : List (Nat × Value)} {r : List Asn} {d : Option Nat} {ty : TypeId} {pos : String} {af : Array Edge} {m : List (Int × α)} {b : Nat}
theorem St.map_at (H : St z I w r) (i : Nat) (hi : r[i]? = some (MapR c g b m)) : ∃ es clock J, I.le J ∧ J.le (hp w) ∧ w.heap[b]? = some (.map es clock) ∧ MapKept.Stamped es clock ∧ Ents c g J es.toList m := by
  obtain ⟨J, h, iJ, jw, hl, es, clock, e, s, t⟩ := H.mem i hi
  exact ⟨es, clock, J, iJ, jw, hl.out e, s, t⟩
/-- What is known for good of a map's entries. -/
def EntsA {α : Type} (c : Cod α) (g : Bool) (es : Array MapEntry) (m : List (Int × α)) : Asn := Pu (fun J => Ents c g J es.toList m) fun hI h => h.mono hI
theorem St.map_cases (H : St z I w (MapR c g b m :: r)) : ∃ es clock, MapKept.Stamped es clock ∧ St z I w (Ob b (.map es clock) :: EntsA c g es m :: r) := by
  obtain ⟨J, h, iJ, jw, d, a, h1, h2, ⟨es, clock, e, s, t⟩, dd, l1, l2, q⟩ := H.own
  exact ⟨es, clock, s, H.os, H.tape, H.output, H.dr, J, h, iJ, jw, d, a, h1, h2, e, dd, l1, l2, fun _ => none, h2, t, fun _ => .inl rfl, Hp.le_nil _, Hp.le_refl _, q⟩
theorem St.map_intro {es : Array MapEntry} {clock : Nat} (s : MapKept.Stamped es clock) (H : St z I w (Ob b (.map es clock) :: EntsA c g es m :: r)) : St z I w (MapR c g b m :: r) := by
  refine H.map fun J h _ q => ?_
  obtain ⟨h1, h2, e, d, a, b', q⟩ := q
  exact ⟨h1, h2, ⟨es, clock, e, s, q.pu.1⟩, d, a, b', q.drop⟩
theorem d_makeMap {t : TypeId} (H : St z I w r) : Does P ⟨d, .makeMap t none, ty, pos, af, none⟩ a w (fun v w' => ∃ b, v = .map (some b) ∧ St z I w' (MapR c g b [] :: r)) :=
  does_value (w' := w.alloc (.map #[] 0)) (v := .map (some w.heap.size)) (by simp [execOp, Instr.makeMap]) ⟨_, rfl, ((St.pu_intro (m := fun hI h => h.mono hI) (show Ents c g I (#[] : Array MapEntry).toList [] from .nil) (H.alloc (.map #[] 0))).get 1 rfl).map_intro (MapKept.stamped_empty 0)⟩
/-- Where a key is found. -/
theorem find_ents : ∀ {es : List MapEntry} {m : List (Int × α)} (k : Int) (i : Nat), Ents c g I es m →
    (Instr.findNow (.int .i64) (.int .i64 k) es i = some none ∧ mget m k = none ∧ ∀ x ∈ es, x.key ≠ .int .i64 k) ∨
    ∃ j e x cs, Instr.findNow (.int .i64) (.int .i64 k) es i = some (some (i + j, e.val)) ∧ es[j]? = some e ∧ e.key = .int .i64 k ∧ mget m k = some x ∧ e.val = mkv g cs ∧ c.rd I cs x
  | _, _, k, i, .nil => .inl ⟨rfl, rfl, fun x h => by cases h⟩
  | e :: es, p :: m, k, i, .cons h t => by
    have hn : Instr.sameNow (.int .i64) (.int .i64 k) e.key = some (k == p.1) := by rw [h.key]; simp [Instr.sameNow]
    by_cases hk : p.1 = k
    · right
      obtain ⟨cs, h1, h2⟩ := h.val
      refine ⟨0, e, p.2, cs, ?_, rfl, by rw [h.key, hk], by obtain ⟨q1, q2⟩ := p; simp only at hk; simp [mget, hk], h1, h2⟩
      simp [Instr.findNow, hn, hk]
    · have hb : (k == p.1) = false := by simpa using fun e : k = p.1 => hk e.symm
      have hm : mget (p :: m) k = mget m k := by obtain ⟨q1, q2⟩ := p; simp only at hk; simp [mget, hk]
      rcases find_ents k (i + 1) t with ⟨h1, h2, h3⟩ | ⟨j, e', x, cs, h1, h2, h3, h4, h5, h6⟩
      · refine .inl ⟨by simp [Instr.findNow, hn, hb, h1], by rw [hm, h2], fun x hx => ?_⟩
        cases hx with
        | head => rw [h.key]; intro e; injection e with _ e; exact hk e
        | tail _ hx => exact h3 x hx
      · refine .inr ⟨j + 1, e', x, cs, ?_, by simpa using h2, h3, by rw [hm, h4], h5, h6⟩
        simp only [Instr.findNow, hn, hb, h1]; congr 3; omega
theorem d_lookup2 {x y : Operand} {t kt et : TypeId} {k : Int} {zx : α} {V : α → Value} (ht : P.underlying t = some (.map kt et)) (hk : P.underlying kt = some (.int .i64)) (hz : ∀ w : World, (zeroValue et).run P w = .ok (V zx) w) (hV : ∀ (I : Hp) cs x, c.rd I cs x → mkv g cs = V x)
    (hE : Env a N l) (hx : ev l x = some (.map (some b))) (hy : ev l y = some (.int .i64 k)) (H : St z I w r) (i : Nat) (hi : r[i]? = some (MapR c g b m)) :
    Does P ⟨d, .lookup t x y true, ty, pos, af, none⟩ a w (Is (.tuple #[V ((mget m k).getD zx), .bool (mget m k).isSome]) w) := by
  obtain ⟨es, clock, J, _, _, hb, s, e⟩ := H.map_at i hi
  refine does_value (w' := w) ?_ ⟨rfl, rfl⟩
  have hK : MapKept.IsKey (.int .i64) (.int .i64 k) := rfl
  rcases find_ents k 0 e with ⟨h1, h2, _⟩ | ⟨j, e', x', cs, h1, h2, h3, h4, h5, h6⟩
  · simp [execOp, hE.ev hx, hE.ev hy, Instr.lookup, run_underlying ht, MapKept.run_getObj_map hb, MapKept.run_checkKey hk hK, MapKept.run_findKey hk h1, Result.andThen, hz, h2]
  · simp [execOp, hE.ev hx, hE.ev hy, Instr.lookup, run_underlying ht, MapKept.run_getObj_map hb, MapKept.run_checkKey hk hK, MapKept.run_findKey hk h1, Result.andThen, h4, h5, hV J cs x' h6]
theorem d_lookup1 {x y : Operand} {t kt et : TypeId} {k : Int} {zx : α} {V : α → Value} (ht : P.underlying t = some (.map kt et)) (hk : P.underlying kt = some (.int .i64)) (hz : ∀ w : World, (zeroValue et).run P w = .ok (V zx) w) (hV : ∀ (I : Hp) cs x, c.rd I cs x → mkv g cs = V x)
    (hE : Env a N l) (hx : ev l x = some (.map (some b))) (hy : ev l y = some (.int .i64 k)) (H : St z I w r) (i : Nat) (hi : r[i]? = some (MapR c g b m)) :
    Does P ⟨d, .lookup t x y false, ty, pos, af, none⟩ a w (Is (V ((mget m k).getD zx)) w) := by
  obtain ⟨es, clock, J, _, _, hb, s, e⟩ := H.map_at i hi
  refine does_value (w' := w) ?_ ⟨rfl, rfl⟩
  have hK : MapKept.IsKey (.int .i64) (.int .i64 k) := rfl
  rcases find_ents k 0 e with ⟨h1, h2, _⟩ | ⟨j, e', x', cs, h1, h2, h3, h4, h5, h6⟩
  · simp [execOp, hE.ev hx, hE.ev hy, Instr.lookup, run_underlying ht, MapKept.run_getObj_map hb, MapKept.run_checkKey hk hK, MapKept.run_findKey hk h1, Result.andThen, hz, h2]
  · simp [execOp, hE.ev hx, hE.ev hy, Instr.lookup, run_underlying ht, MapKept.run_getObj_map hb, MapKept.run_checkKey hk hK, MapKept.run_findKey hk h1, Result.andThen, h4, h5, hV J cs x' h6]
/-- The same where what lies in the map is a frozen row. -/
theorem look_rows {t kt et : TypeId} {k : Int} {c1 : Cod α} {m : List (Int × List α)} (ht : P.underlying t = some (.map kt et)) (hk : P.underlying kt = some (.int .i64)) (hz : ∀ w : World, (zeroValue et).run P w = .ok (.slice none 0 0) w) (ok : Bool) (H : St z I w r) (i : Nat) (hi : r[i]? = some (MapR (cSl c1) false b m)) :
    ∃ V, (Instr.lookup t (.map (some b)) (.int .i64 k) ok).run P w = .ok (if ok then .tuple #[V, .bool (mget m k).isSome] else V) w ∧ St z I w (ImR c1 V ((mget m k).getD []) :: r) := by
  obtain ⟨J, hh, hIJ, hJw, dj, hhw, s⟩ := H.own
  obtain ⟨h1', l1', p⟩ := s.mem (List.mem_of_getElem? hi)
  obtain ⟨es, clock, eb, st, e⟩ : ∃ es clock, h1' b = some (.map es clock) ∧ MapKept.Stamped es clock ∧ Ents (cSl c1) false J es.toList m := p
  have hb : w.heap[b]? = some (.map es clock) := (l1'.le_trans hhw).out eb
  have hK : MapKept.IsKey (.int .i64) (.int .i64 k) := rfl
  have fin : ∀ {V : Value} {xs : List α}, RdSl c1 J J V xs → St z I w (ImR c1 V xs :: r) := fun h => ⟨H.os, H.tape, H.output, H.dr, J, hh, hIJ, hJw, dj, hhw, fun _ => none, hh, h, fun _ => .inl rfl, Hp.le_nil _, Hp.le_refl _, s⟩
  rcases find_ents k 0 e with ⟨h1, h2, _⟩ | ⟨j, e', x', cs, h1, h2, h3, h4, h5, h6⟩
  · refine ⟨.slice none 0 0, ?_, fin ?_⟩
    · cases ok <;> simp [Instr.lookup, run_underlying ht, MapKept.run_getObj_map hb, MapKept.run_checkKey hk hK, MapKept.run_findKey hk h1, Result.andThen, hz, h2]
    · rw [h2]; exact ⟨⟨none, 0, rfl, Nat.le_refl _⟩, fun i x h => by cases h⟩
  · obtain ⟨V, rfl, hV⟩ := h6
    refine ⟨V, ?_, fin ?_⟩
    · cases ok <;> simp [Instr.lookup, run_underlying ht, MapKept.run_getObj_map hb, MapKept.run_checkKey hk hK, MapKept.run_findKey hk h1, Result.andThen, h4, h5, mkv]
    · rw [h4]; exact hV
theorem ents_push {es : List MapEntry} {e : MapEntry} {k : Int} {x : α} (he : Ent c g I e (k, x)) : ∀ {es : List MapEntry} {m : List (Int × α)}, mget m k = none → Ents c g I es m → Ents c g I (es ++ [e]) (mput m k x)
  | _, _, _, .nil => .cons he .nil
  | _, p :: m, hm, .cons h t => by
    obtain ⟨j, y⟩ := p
    simp only [mget] at hm
    split at hm
    · cases hm
    · rename_i hne
      simp only [mput, if_neg hne, List.cons_append]
      exact .cons h (ents_push (es := es) he hm t)
theorem ents_set {v : Value} {k : Int} {x : α} (hv : ∃ cs, v = mkv g cs ∧ c.rd I cs x) : ∀ {es : List MapEntry} {m : List (Int × α)} (j : Nat) (e : MapEntry), (∀ i, i < j → ∀ e', es[i]? = some e' → e'.key ≠ .int .i64 k) → es[j]? = some e → e.key = .int .i64 k → Ents c g I es m →
    Ents c g I (es.modify j fun e => { e with key := .int .i64 k, val := v }) (mput m k x)
  | _, _, j, e, _, h, _, .nil => by cases j <;> cases h
  | e0 :: es, p :: m, 0, e, _, h, hk, .cons h0 t => by
    obtain ⟨q, y⟩ := p
    simp at h; subst h
    have hq : q = k := by have := h0.key; rw [hk] at this; injection this with _ this; exact this.symm
    subst hq
    simp only [mput, if_true, List.modify_zero_cons]
    exact .cons ⟨rfl, hv⟩ t
  | e0 :: es, p :: m, j + 1, e, hb, h, hk, .cons h0 t => by
    obtain ⟨q, y⟩ := p
    have hq : q ≠ k := fun e' => hb 0 (by omega) e0 rfl (by rw [h0.key, e'])
    simp only [mput, if_neg hq, List.modify_succ_cons]
    exact .cons h0 (ents_set hv j e (fun i hi e' he' => hb (i + 1) (by omega) e' (by simpa using he')) (by simpa using h) hk t)
theorem find_first : ∀ {es : List MapEntry} {m : List (Int × α)} (k : Int) (i j : Nat) (v : Value), Ents c g I es m → Instr.findNow (.int .i64) (.int .i64 k) es i = some (some (i + j, v)) → ∀ q, q < j → ∀ e', es[q]? = some e' → e'.key ≠ .int .i64 k
  | _, _, k, i, j, v, .nil, h, q, hq, e', he => by cases he
  | e :: es, p :: m, k, i, j, v, .cons h0 t, h, q, hq, e', he => by
    have hn : Instr.sameNow (.int .i64) (.int .i64 k) e.key = some (k == p.1) := by rw [h0.key]; simp [Instr.sameNow]
    simp only [Instr.findNow, hn] at h
    by_cases hk : k = p.1
    · simp [hk] at h; omega
    · have hb : (k == p.1) = false := by simpa using hk
      simp only [hb] at h
      cases q with
      | zero => simp at he; subst he; rw [h0.key]; intro e; injection e with _ e; exact hk e.symm
      | succ q =>
        obtain ⟨j', rfl⟩ : ∃ j', j = j' + 1 := ⟨j - 1, by omega⟩
        exact find_first k (i + 1) j' v t (by rw [h]; congr 3; omega) q (by omega) e' (by simpa using he)
theorem run_put {t kt et : TypeId} {k : Int} {v : Value} {cs : List Value} {x : α} (ht : P.underlying t = some (.map kt et)) (hk : P.underlying kt = some (.int .i64)) (hv : v = mkv g cs) (hc : ∀ J h : Hp, I.le J → Sat J (MapR c g b m :: r) h → c.rd J cs x) (H : St z I w (MapR c g b m :: r)) :
    ∃ w', (Instr.mapUpdate t (.map (some b)) (.int .i64 k) v).run P w = .ok () w' ∧ St z I w' (MapR c g b (mput m k x) :: r) := by
  have HE : St z I w (Enc c cs x :: MapR c g b m :: r) := H.dup fun J h iJ _ _ s => hc J h iJ s
  obtain ⟨es, clock, s, H1⟩ := (HE.get 1 rfl).map_cases
  have H1 : St z I w (Ob b (.map es clock) :: EntsA c g es m :: Enc c cs x :: r) := H1
  have hb : w.heap[b]? = some (.map es clock) := H1.ob 0 rfl
  obtain ⟨⟨J, _, _, e⟩, _⟩ := (H1.get 1 rfl).pu
  have e : Ents c g J es.toList m := e
  have hK : MapKept.IsKey (.int .i64) (.int .i64 k) := rfl
  rcases find_ents k 0 e with ⟨h1, h2, h3⟩ | ⟨j, e', x', cs', h1, h2, h3, h4, h5, h6⟩
  · refine ⟨{ w with heap := w.heap.setIfInBounds b (.map (es.push ⟨.int .i64 k, v, clock⟩) (clock + 1)) }, ?_, ?_⟩
    · simp [Instr.mapUpdate, run_underlying ht, MapKept.run_getObj_map hb, MapKept.run_checkKey hk hK, MapKept.run_findKey hk h1, MapKept.run_setObj_map _ hb, Result.andThen]
    · have H2 := H1.put (w' := { w with heap := w.heap.setIfInBounds b (.map (es.push ⟨.int .i64 k, v, clock⟩) (clock + 1)) }) (.map (es.push ⟨.int .i64 k, v, clock⟩) (clock + 1)) rfl rfl rfl (Nat.le_refl _) rfl
      have H3 : St z I _ (EntsA c g es m :: Enc c cs x :: Ob b (.map (es.push ⟨.int .i64 k, v, clock⟩) (clock + 1)) :: r) := (H2.get 2 rfl).get 2 rfl
      refine St.map_intro (MapKept.stamped_push s h3) (St.get (H3.pu_map2 (u := fun J => Ents c g J (es.push ⟨.int .i64 k, v, clock⟩).toList (mput m k x)) (o := fun hI h => h.mono hI) fun J' _ he hx => ?_) 1 rfl)
      rw [Array.toList_push]
      exact ents_push (es := []) ⟨rfl, cs, hv, hx⟩ h2 he
  · have hj : es[j]? = some e' := by simpa using h2
    have hkey : (es[j]?.map (·.key)).getD (.int .i64 k) = .int .i64 k := by rw [hj]; simpa using h3
    have h1' : Instr.findNow (.int .i64) (.int .i64 k) es.toList 0 = some (some (j, e'.val)) := by rw [h1]; simp
    have hfirst := find_first k 0 j e'.val e (by rw [h1])
    refine ⟨{ w with heap := w.heap.setIfInBounds b (.map (es.modify j fun e => { e with key := .int .i64 k, val := v }) clock) }, ?_, ?_⟩
    · have hstay := MapKept.run_keyThatStays (P := P) (w := w) (d := .int .i64) hK
      simp only [Instr.mapUpdate, Sem.run_bind, run_underlying ht, MapKept.run_getObj_map hb, MapKept.run_checkKey hk hK, MapKept.run_findKey hk h1', Result.andThen_ok]
      rw [hkey]
      simp only [Sem.run_bind, hstay, Result.andThen_ok, MapKept.run_setObj_map _ hb]
    · have H2 := H1.put (w' := { w with heap := w.heap.setIfInBounds b (.map (es.modify j fun e => { e with key := .int .i64 k, val := v }) clock) }) (.map (es.modify j fun e => { e with key := .int .i64 k, val := v }) clock) rfl rfl rfl (Nat.le_refl _) rfl
      have H3 : St z I _ (EntsA c g es m :: Enc c cs x :: Ob b (.map (es.modify j fun e => { e with key := .int .i64 k, val := v }) clock) :: r) := (H2.get 2 rfl).get 2 rfl
      refine St.map_intro (MapKept.stamped_modify s j (fun e => { e with key := .int .i64 k, val := v }) (fun _ _ => rfl) fun e0 _ he => ?_) (St.get (H3.pu_map2 (u := fun J => Ents c g J (es.modify j fun e => { e with key := .int .i64 k, val := v }).toList (mput m k x)) (o := fun hI h => h.mono hI) fun J' _ he hx => ?_) 1 rfl)
      · rw [hj] at he; cases he; exact h3.symm
      · rw [Array.toList_modify]
        exact ents_set ⟨cs, hv, hx⟩ j e' hfirst h2 h3 he
theorem d_mapUpdate {x y u : Operand} {t kt et : TypeId} {k : Int} {v : Value} {cs : List Value} {xv : α} (ht : P.underlying t = some (.map kt et)) (hk : P.underlying kt = some (.int .i64)) (hE : Env a N l) (hx : ev l x = some (.map (some b))) (hy : ev l y = some (.int .i64 k)) (hu : ev l u = some v)
    (hv : v = mkv g cs) (hc : ∀ J h : Hp, I.le J → Sat J (MapR c g b m :: r) h → c.rd J cs xv) (H : St z I w (MapR c g b m :: r)) : Does P ⟨d, .mapUpdate t x y u, ty, pos, af, none⟩ a w (fun _ w' => St z I w' (MapR c g b (mput m k xv) :: r)) := by
  obtain ⟨w', hr, H'⟩ := run_put (k := k) (v := v) (x := xv) ht hk hv hc H
  exact does_skip (w' := w') (by simp [execOp, hE.ev hx, hE.ev hy, hE.ev hu, hr]) H'
theorem d_insert {x y u : Operand} {t kt et : TypeId} {k : Int} {v : Value} {cs : List Value} {xv : α} (ht : P.underlying t = some (.map kt et)) (hk : P.underlying kt = some (.int .i64)) (hE : Env a N l) (hx : ev l x = some (.map (some b))) (hy : ev l y = some (.int .i64 k)) (hu : ev l u = some v)
    (hv : v = mkv g cs) (hc : ∀ J h : Hp, I.le J → Sat J (MapR c g b m :: r) h → c.rd J cs xv) (H : St z I w (MapR c g b m :: r)) : Does P ⟨d, .insert t x y u, ty, pos, af, none⟩ a w (fun _ w' => St z I w' (MapR c g b (mput m k xv) :: r)) := by
  obtain ⟨w', hr, H'⟩ := run_put (k := k) (v := v) (x := xv) ht hk hv hc H
  exact does_skip (w' := w') (by simp [execOp, hE.ev hx, hE.ev hy, hE.ev hu, hr]) H'
theorem d_lenM {x : Operand} {t k e : TypeId} (ht : P.underlying t = some (.map k e)) (hE : Env a N l) (hx : ev l x = some (.map (some b))) (H : St z I w r) (i : Nat) (hi : r[i]? = some (MapR c g b m)) :
    Does P ⟨d, .call { callee := .builtin .len, args := #[x], argTypes := #[t] }, ty, pos, af, none⟩ a w (Is (.int .i64 m.length) w) := by
  obtain ⟨es, clock, J, _, _, hb, s, e⟩ := H.map_at i hi
  have hl := e.len
  simp only [Array.length_toList] at hl
  exact does_value (w' := w) (by simp [execOp, resolve, invoke, builtin, Builtin.len_, hE.ev hx, run_underlying ht, MapKept.run_getObj_map hb, Result.andThen, goInt, hl]) ⟨rfl, rfl⟩
end
end Go.Proofs.Ytbielnhpfbhkgaa
