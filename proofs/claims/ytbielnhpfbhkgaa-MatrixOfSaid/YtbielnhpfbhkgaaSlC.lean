/- Maps whose rows are owned; results that lie in memory; copy. -/
import Derived.Test.YtbielnhpfbhkgaaSlB
import Derived.Laws.StructEq
set_option linter.unusedVariables false
set_option linter.unusedSimpArgs false
namespace Go.Proofs.Ytbielnhpfbhkgaa
open Go

/-! Results in memory. -/
section
variable {P : Program} {fn : Func} {R : Ending → World → Prop} {a : Act} {w : World} {N : Nat} {l : List (Nat × Value)}
theorem run_loadVar_all {b T t : Nat} {cs : List Value} (ht : Aggr P t cs.length) (hb : w.heap[b]? = some (.cells cs.toArray T (0, 0))) : (loadVar t (ad b 0)).run P w = .ok (.agg cs.toArray) w := by
  have hr := run_loadCells (P := P) hb cs.length 0 0 cs #[] rfl (fun j v hj => by simpa using hj)
  simp [loadVar, (ht w).1, (ht w).2, loadCells, hr]
theorem run_loadVar_one {b T t : Nat} {v : Value} (ht : Scal P t) (hb : w.heap[b]? = some (.cells #[v] T (0, 0))) : (loadVar t (ad b 0)).run P w = .ok v w := by
  simp [loadVar, (ht w).1, cell_ad hb]
theorem get_slot {t : Nat} {v : Value} (hE : Env a N l) (hv : lk l t = some v) : a.tmps.getD t undef = v := by
  have := hE.at_ hv
  simp [this]
theorem retC1 {c t b T : Nat} {cs : List Value} (h : fn.results = #[.cell c t]) (hE : Env a N l) (hv : lk l c = some (.pointer (some (ad b 0)))) (hb : w.heap[b]? = some (.cells cs.toArray T (0, 0))) (ht : Aggr P t cs.length) (hR : R (.returned (.agg cs.toArray)) w) : bodyPost P fn R .ret a w :=
  ⟨hE.defers, _, by simp [results, h, hE.at_ hv, asAddr, run_loadVar_all ht hb], hR⟩
theorem retCS1 {c t b T : Nat} {v : Value} (h : fn.results = #[.cell c t]) (hE : Env a N l) (hv : lk l c = some (.pointer (some (ad b 0)))) (hb : w.heap[b]? = some (.cells (List.toArray [v]) T (0, 0))) (ht : Scal P t) (hR : R (.returned v) w) : bodyPost P fn R .ret a w :=
  ⟨hE.defers, _, by simp [results, h, hE.at_ hv, asAddr, run_loadVar_one ht hb], hR⟩
theorem retCT {c t b T u : Nat} {cs : List Value} {x : Value} (h : fn.results = #[.cell c t, .tmp u]) (hE : Env a N l) (hv : lk l c = some (.pointer (some (ad b 0)))) (hb : w.heap[b]? = some (.cells cs.toArray T (0, 0))) (ht : Aggr P t cs.length) (hx : lk l u = some x) (hR : R (.returned (.tuple #[.agg cs.toArray, x])) w) : bodyPost P fn R .ret a w :=
  ⟨hE.defers, _, by simp [results, h, hE.at_ hv, hE.at_ hx, asAddr, run_loadVar_all ht hb], hR⟩
end

theorem oneN : ∀ u ∈ ([] : List Value), u.oneCell' = true := fun u h => by cases h
theorem oneC {v : Value} {l : List Value} (h : v.oneCell' = true) (t : ∀ u ∈ l, u.oneCell' = true) : ∀ u ∈ v :: l, u.oneCell' = true := fun u hu => by
  cases hu with
  | head => exact h
  | tail _ hu => exact t u hu
/-! Tests. -/
section
variable {P : Program} {a : Act} {w : World} {N : Nat} {l : List (Nat × Value)} {d : Option Nat} {ty : TypeId} {pos : String} {af : Array Edge} {x y : Operand} {t u : TypeId}
theorem d_eqB {m n : Bool} (ht : P.underlying t = some .bool) (hE : Env a N l) (hx : ev l x = some (.bool m)) (hy : ev l y = some (.bool n)) : Does P ⟨d, .binOp .eql t x y u, ty, pos, af, none⟩ a w (Is (.bool (m == n)) w) :=
  does_value (w' := w) (by
    have h : (Op.equal t (.bool m) (.bool n)).run P w = .ok (m == n) w := by simp [Op.equal, Op.maxDepth, run_equalIn_bool' w 9999 t m n ht]
    have h' : (binOp .eql t (.bool m) (.bool n)).run P w = .ok (.bool (m == n)) w := by simp only [binOp]; simp [h]
    simp only [execOp, hE.ev hx, hE.ev hy, eqGuard, Sem.run_bind, Sem.run_pure, Result.andThen_ok, h']
    simp [h']) ⟨rfl, rfl⟩
theorem d_neB {m n : Bool} (ht : P.underlying t = some .bool) (hE : Env a N l) (hx : ev l x = some (.bool m)) (hy : ev l y = some (.bool n)) : Does P ⟨d, .binOp .neq t x y u, ty, pos, af, none⟩ a w (Is (.bool (!(m == n))) w) :=
  does_value (w' := w) (by
    have h : (Op.equal t (.bool m) (.bool n)).run P w = .ok (m == n) w := by simp [Op.equal, Op.maxDepth, run_equalIn_bool' w 9999 t m n ht]
    have h' : (binOp .neq t (.bool m) (.bool n)).run P w = .ok (.bool (!(m == n))) w := by simp only [binOp]; simp [h]
    simp only [execOp, hE.ev hx, hE.ev hy, eqGuard, Sem.run_bind, Sem.run_pure, Result.andThen_ok, h']
    simp [h']) ⟨rfl, rfl⟩
theorem d_shr {k k' : IntKind} {m : Int} {n : Nat} (hE : Env a N l) (hx : ev l x = some (.int k m)) (hy : ev l y = some (.int k' (n : Int))) (hn : n ≤ 64) (hk : k = .i64 ∨ k = .u64) : Does P ⟨d, .binOp .shr t x y u, ty, pos, af, none⟩ a w (Is (.int k (m / 2 ^ n)) w) :=
  does_value (w' := w) (by
    rcases hk with rfl | rfl <;> simp [execOp, hE.ev hx, hE.ev hy, eqGuard, binOp, Op.shift, IntKind.bits, Nat.min_eq_left hn]) ⟨rfl, rfl⟩
/-- Two structs, are they one? -/
structure EqA (P : Program) (t : TypeId) (xs ys : List Value) (b : Bool) : Prop where mk ::
  guard : P.eqGuardType P.depth t = false
  eq : ∀ w : World, (Op.equalIn 10000 t (.agg xs.toArray) (.agg ys.toArray)).run P w = .ok b w
theorem d_eqA {xs ys : List Value} {b : Bool} (h : EqA P t xs ys b) (hE : Env a N l) (hx : ev l x = some (.agg xs.toArray)) (hy : ev l y = some (.agg ys.toArray)) : Does P ⟨d, .binOp .eql t x y u, ty, pos, af, none⟩ a w (Is (.bool b) w) :=
  does_value (w' := w) (by
    have h' : (binOp .eql t (.agg xs.toArray) (.agg ys.toArray)).run P w = .ok (.bool b) w := by rw [run_eql_struct, h.eq w]; rfl
    have h2 : (eqGuard .eql t x y (.agg xs.toArray) (.agg ys.toArray)).run P w = .ok () w := run_eqGuard_agg w .eql t x y xs.toArray ys.toArray h.guard
    simp only [execOp, hE.ev hx, hE.ev hy, Sem.run_bind, Sem.run_pure, Result.andThen_ok, h', h2]) ⟨rfl, rfl⟩
theorem d_neA {xs ys : List Value} {b : Bool} (h : EqA P t xs ys b) (hE : Env a N l) (hx : ev l x = some (.agg xs.toArray)) (hy : ev l y = some (.agg ys.toArray)) : Does P ⟨d, .binOp .neq t x y u, ty, pos, af, none⟩ a w (Is (.bool (!b)) w) :=
  does_value (w' := w) (by
    have h' : (binOp .neq t (.agg xs.toArray) (.agg ys.toArray)).run P w = .ok (.bool (!b)) w := by rw [run_neq_struct, h.eq w]; rfl
    have h2 : (eqGuard .neq t x y (.agg xs.toArray) (.agg ys.toArray)).run P w = .ok () w := run_eqGuard_agg w .neq t x y xs.toArray ys.toArray h.guard
    simp only [execOp, hE.ev hx, hE.ev hy, Sem.run_bind, Sem.run_pure, Result.andThen_ok, h', h2]) ⟨rfl, rfl⟩
end
/-! Maps whose rows are owned. -/
section
variable {α β : Type}
def vget : List Value → List (Int × β) → Int → Value
  | v :: vs, (j, _) :: m, k => if j = k then v else vget vs m k
  | _, _, _ => .slice none 0 0
def vput : List Value → List (Int × β) → Int → Value → List Value
  | v :: vs, (j, _) :: m, k, u => if j = k then u :: vs else v :: vput vs m k u
  | _, _, _, u => [u]
def rowsO (c : Cod α) : List Value → List (Int × List α) → List Int → List Asn
  | v :: vs, (k, xs) :: m, hs => (if k ∈ hs then Pk [] else OwnSl c v xs) :: rowsO c vs m hs
  | _, _, _ => []
/-- What a key's row is, as long as it is not taken out. -/
def mgetO (hs : List Int) (m : List (Int × List α)) (k : Int) : Option (List α) := if k ∈ hs then none else some ((mget m k).getD [])
theorem mgetO_some {hs : List Int} {m : List (Int × List α)} {k : Int} {x : List α} (h : mgetO hs m k = some x) : k ∉ hs ∧ x = (mget m k).getD [] := by
  unfold mgetO at h
  split at h
  · cases h
  · cases h; exact ⟨by assumption, rfl⟩
theorem mgetO_ok {hs : List Int} {m : List (Int × List α)} {k : Int} (h : k ∉ hs) : mgetO hs m k = some ((mget m k).getD []) := if_neg h
structure MapF (es : Array MapEntry) (clock : Nat) (vs : List Value) (m : List (Int × β)) : Prop where mk ::
  st : MapKept.Stamped es clock
  keys : es.toList.map (·.key) = m.map fun p => Value.int .i64 p.1
  vals : es.toList.map (·.val) = vs
theorem MapF.len {es : Array MapEntry} {clock : Nat} {vs : List Value} {m : List (Int × β)} (h : MapF es clock vs m) : es.toList.length = m.length ∧ vs.length = m.length := by
  have h1 := congrArg List.length h.keys
  have h2 := congrArg List.length h.vals
  simp only [List.length_map] at h1 h2
  exact ⟨h1, by omega⟩
theorem MapF.nodup {es : Array MapEntry} {clock : Nat} {vs : List Value} {m : List (Int × β)} (h : MapF es clock vs m) : (mkeys m).Nodup := by
  have h1 := h.st.2.2
  rw [h.keys] at h1
  have : (m.map fun p => Value.int .i64 p.1) = (mkeys m).map (Value.int .i64) := by simp [mkeys]
  rw [this] at h1
  exact List.Pairwise.of_map _ (fun a b hab e => hab (by rw [e])) h1
/-- A map whose rows are owned, but for those of hs. -/
def MapO (c : Cod α) (b : Nat) (vs : List Value) (m : List (Int × List α)) (hs : List Int) : Asn :=
  Ex fun e : Array MapEntry × Nat => Pk (Ob b (.map e.1 e.2) :: Pu (fun _ => MapF e.1 e.2 vs m) (fun _ h => h) :: rowsO c vs m hs)
theorem rowsO_not {c : Cod α} {k : Int} {hs : List Int} : ∀ {vs : List Value} {m : List (Int × List α)}, k ∉ mkeys m → rowsO c vs m (k :: hs) = rowsO c vs m hs
  | [], _, _ => by simp [rowsO]
  | _ :: _, [], _ => by simp [rowsO]
  | v :: vs, (j, xs) :: m, h => by
    have hj : ¬ j = k := fun e => h (by subst e; exact List.mem_cons_self ..)
    simp only [rowsO, List.mem_cons, hj, false_or]
    rw [rowsO_not fun h' => h (List.mem_cons_of_mem _ h')]
theorem vget_not {vs : List Value} {m : List (Int × β)} {k : Int} (h : k ∉ mkeys m) : vget vs m k = .slice none 0 0 := by
  induction m generalizing vs with
  | nil => cases vs <;> rfl
  | cons p m ih =>
    obtain ⟨j, xs⟩ := p
    have hj : ¬ j = k := fun e => h (by subst e; exact List.mem_cons_self ..)
    cases vs with
    | nil => rfl
    | cons v vs => simp only [vget, if_neg hj]; exact ih fun h' => h (List.mem_cons_of_mem _ h')
theorem mget_not {m : List (Int × β)} {k : Int} (h : k ∉ mkeys m) : mget m k = none := by
  cases e : mget m k with
  | none => rfl
  | some x => exact absurd ((mget_mem m k).1 (by rw [e]; rfl)) h
end
section
variable {α : Type} {c : Cod α} {z w w' : World} {I J : Hp} {r : List Asn} {b : Nat} {vs : List Value} {m : List (Int × List α)} {hs : List Int} {k : Int}
/-- The row of a key is taken out of the rows. -/
theorem rows_split : ∀ {vs : List Value} {m : List (Int × List α)} {h : Hp}, vs.length = m.length → (mkeys m).Nodup → k ∈ mkeys m → k ∉ hs → Sat J (rowsO c vs m hs ++ r) h → Sat J (OwnSl c (vget vs m k) ((mget m k).getD []) :: (rowsO c vs m (k :: hs) ++ r)) h
  | [], [], _, _, _, hm, _, _ => by cases hm
  | [], _ :: _, _, hl, _, _, _, _ => by simp at hl
  | _ :: _, [], _, hl, _, _, _, _ => by simp at hl
  | v :: vs, (j, xs) :: m, h, hl, hn, hm, hk, s => by
    have hn' := List.nodup_cons.1 (show (j :: mkeys m).Nodup from hn)
    by_cases hj : j = k
    · subst hj
      simp only [rowsO, if_neg hk, List.mem_cons_self, if_true, vget, mget, Option.getD_some, List.cons_append] at s ⊢
      rw [rowsO_not hn'.1]
      obtain ⟨h1, h2, p, d, a, b', s⟩ := s
      exact ⟨h1, h2, p, d, a, b', s.shut (k := [])⟩
    · have hm' : k ∈ mkeys m := by
        cases hm with
        | head => exact absurd rfl hj
        | tail _ h => exact h
      have e : (j ∈ k :: hs) = (j ∈ hs) := by simp [hj]
      simp only [rowsO, vget, mget, if_neg hj, List.cons_append, e] at s ⊢
      obtain ⟨h1, h2, p, d, a, b', s⟩ := s
      have s' := rows_split (by simpa using hl) hn'.2 hm' hk s
      exact Sat.swap ⟨h1, h2, p, d, a, b', s'⟩
theorem rows_join {v' : Value} {xs' : List α} : ∀ {vs : List Value} {m : List (Int × List α)} {h : Hp}, vs.length = m.length → (mkeys m).Nodup → k ∈ mkeys m → k ∉ hs → Sat J (OwnSl c v' xs' :: (rowsO c vs m (k :: hs) ++ r)) h → Sat J (rowsO c (vput vs m k v') (mput m k xs') hs ++ r) h
  | [], [], _, _, _, hm, _, _ => by cases hm
  | [], _ :: _, _, hl, _, _, _, _ => by simp at hl
  | _ :: _, [], _, hl, _, _, _, _ => by simp at hl
  | v :: vs, (j, xs) :: m, h, hl, hn, hm, hk, s => by
    have hn' := List.nodup_cons.1 (show (j :: mkeys m).Nodup from hn)
    by_cases hj : j = k
    · subst hj
      simp only [rowsO, if_neg hk, List.mem_cons_self, if_true, vput, mput, List.cons_append] at s ⊢
      rw [rowsO_not hn'.1] at s
      obtain ⟨h1, h2, p, d, a, b', s⟩ := s
      exact ⟨h1, h2, p, d, a, b', s.drop⟩
    · have hm' : k ∈ mkeys m := by
        cases hm with
        | head => exact absurd rfl hj
        | tail _ h => exact h
      have e : (j ∈ k :: hs) = (j ∈ hs) := by simp [hj]
      simp only [rowsO, vput, mput, if_neg hj, List.cons_append, e] at s ⊢
      obtain ⟨h1, h2, p, d, a, b', s⟩ := s.swap
      exact ⟨h1, h2, p, d, a, b', rows_join (by simpa using hl) hn'.2 hm' hk s⟩
theorem rows_push {v' : Value} {xs' : List α} : ∀ {vs : List Value} {m : List (Int × List α)} {h : Hp}, vs.length = m.length → k ∉ mkeys m → k ∉ hs → Sat J (OwnSl c v' xs' :: (rowsO c vs m (k :: hs) ++ r)) h → Sat J (rowsO c (vput vs m k v') (mput m k xs') hs ++ r) h
  | [], [], h, _, _, hk, s => by
    simp only [rowsO, vput, mput, if_neg hk, List.nil_append, List.cons_append] at s ⊢
    exact s
  | [], _ :: _, _, hl, _, _, _ => by simp at hl
  | _ :: _, [], _, hl, _, _, _ => by simp at hl
  | v :: vs, (j, xs) :: m, h, hl, hm, hk, s => by
    have hj : ¬ j = k := fun e => hm (by subst e; exact List.mem_cons_self ..)
    have e : (j ∈ k :: hs) = (j ∈ hs) := by simp [hj]
    simp only [rowsO, vput, mput, if_neg hj, List.cons_append, e] at s ⊢
    obtain ⟨h1, h2, p, d, a, b', s⟩ := s.swap
    exact ⟨h1, h2, p, d, a, b', rows_push (by simpa using hl) (fun h' => hm (List.mem_cons_of_mem _ h')) hk s⟩
theorem rows_rd : ∀ {vs : List Value} {m : List (Int × List α)} {h W : Hp}, k ∉ hs → vs.length = m.length → h.le W → Sat J (rowsO c vs m hs) h → RdSl c J W (vget vs m k) ((mget m k).getD [])
  | [], [], _, _, _, _, _, _ => RdSl.nil0
  | [], _ :: _, _, _, _, hl, _, _ => by simp at hl
  | _ :: _, [], _, _, _, hl, _, _ => by simp at hl
  | v :: vs, (j, xs) :: m, h, W, hk, hl, hw, s => by
    by_cases hj : j = k
    · subst hj
      simp only [rowsO, if_neg hk, vget, mget, if_true, Option.getD_some] at s ⊢
      obtain ⟨h1, h2, p, d, a, b', s⟩ := s
      exact OwnSl.rdSl p (Hp.le_refl _) (a.le_trans hw)
    · simp only [rowsO, vget, mget, if_neg hj] at s ⊢
      obtain ⟨h1, h2, p, d, a, b', s⟩ := s
      exact rows_rd hk (by simpa using hl) (b'.le_trans hw) s
theorem St.mapO_cases (H : St z I w (MapO c b vs m hs :: r)) : ∃ es clock, MapF es clock vs m ∧ St z I w (Ob b (.map es clock) :: (rowsO c vs m hs ++ r)) := by
  obtain ⟨⟨es, clock⟩, H⟩ := H.ex
  have H := H.open_
  have H1 : St z I w (Ob b (.map es clock) :: Pu (fun _ => MapF es clock vs m) (fun _ h => h) :: (rowsO c vs m hs ++ r)) := H
  obtain ⟨⟨_, _, _, f⟩, _⟩ := (H1.get 1 rfl).pu
  exact ⟨es, clock, f, H1.del 1⟩
theorem St.mapO_intro {es : Array MapEntry} {clock : Nat} (f : MapF es clock vs m) (H : St z I w (Ob b (.map es clock) :: (rowsO c vs m hs ++ r))) : St z I w (MapO c b vs m hs :: r) := by
  refine St.ex_intro (es, clock) (St.shut (k := Ob b (.map es clock) :: Pu (fun _ => MapF es clock vs m) (fun _ h => h) :: rowsO c vs m hs) ?_)
  have H1 : St z I w (Pu (fun _ => MapF es clock vs m) (fun _ h => h) :: Ob b (.map es clock) :: (rowsO c vs m hs ++ r)) := St.pu_intro f H
  exact H1.get 1 rfl
theorem St.under {A : Asn} {l k : List Asn} (H : St z I w (A :: l)) (f : ∀ J h : Hp, Sat J l h → Sat J k h) : St z I w (A :: k) := H.map fun J h _ s => by
  obtain ⟨h1, h2, p, d, a, b', s⟩ := s
  exact ⟨h1, h2, p, d, a, b', f J h2 s⟩
/-- A row is taken out. -/
theorem St.mapTake {x : List α} (hx : mgetO hs m k = some x) (H : St z I w (MapO c b vs m hs :: r)) : St z I w (OwnSl c (vget vs m k) x :: MapO c b vs m (k :: hs) :: r) := by
  obtain ⟨hk, rfl⟩ := mgetO_some hx
  obtain ⟨es, clock, f, H1⟩ := H.mapO_cases
  by_cases hm : k ∈ mkeys m
  · have H2 := H1.under (k := OwnSl c (vget vs m k) ((mget m k).getD []) :: (rowsO c vs m (k :: hs) ++ r)) fun J h s => rows_split f.len.2 f.nodup hm hk s
    have H3 : St z I w (Ob b (.map es clock) :: (rowsO c vs m (k :: hs) ++ (OwnSl c (vget vs m k) ((mget m k).getD []) :: r))) := H2.perm (List.Perm.cons _ (List.perm_middle.symm))
    have H4 := St.mapO_intro f H3
    exact H4.get 1 rfl
  · rw [vget_not hm, mget_not hm]
    refine St.nil (St.mapO_intro f ?_) none
    rw [rowsO_not hm]; exact H1
theorem Rd.mapO {x : List α} (i : Nat) (hi : r[i]? = some (MapO c b vs m hs)) (hx : mgetO hs m k = some x) : Rd c I r (vget vs m k) x := fun J g W hJ hW hg s => by
  obtain ⟨hk, rfl⟩ := mgetO_some hx
  obtain ⟨h1, l1, p⟩ := s.mem (List.mem_of_getElem? hi)
  obtain ⟨⟨es, clock⟩, q⟩ := p
  have q' : Sat J (Ob b (.map es clock) :: Pu (fun _ => MapF es clock vs m) (fun _ h => h) :: rowsO c vs m hs) h1 := q
  obtain ⟨g1, g2, _, _, _, a2, q2⟩ := q'
  have f : MapF es clock vs m := q2.pu.1
  exact rows_rd hk f.len.2 ((a2.le_trans l1).le_trans hg) q2.drop
/-- Another row, while one is out. -/
theorem Rd.hole {k2 : Int} {x x2 : List α} (i j : Nat) (hi : r[i]? = some (MapO c b vs m (k :: hs))) (hj : r[j]? = some (OwnSl c (vget vs m k) x)) (hx : mgetO hs m k = some x) (hx2 : mgetO hs m k2 = some x2) : Rd c I r (vget vs m k2) x2 := by
  by_cases h : k2 = k
  · subst h
    rw [hx] at hx2; cases hx2
    exact Rd.own j hj
  · obtain ⟨hk, rfl⟩ := mgetO_some hx2
    exact Rd.mapO i hi (mgetO_ok (by simp [h, hk]))
theorem find_F {P : Program} : ∀ {el : List MapEntry} {vs : List Value} {m : List (Int × List α)} (k : Int) (i : Nat), el.map (·.key) = m.map (fun p => Value.int .i64 p.1) → el.map (·.val) = vs →
    (Instr.findNow (.int .i64) (.int .i64 k) el i = some none ∧ k ∉ mkeys m ∧ ∀ x ∈ el, x.key ≠ .int .i64 k) ∨
    ∃ j e, Instr.findNow (.int .i64) (.int .i64 k) el i = some (some (i + j, e.val)) ∧ el[j]? = some e ∧ e.key = .int .i64 k ∧ k ∈ mkeys m ∧ e.val = vget vs m k ∧ ∀ q, q < j → ∀ e', el[q]? = some e' → e'.key ≠ .int .i64 k
  | [], _, [], k, i, _, _ => .inl ⟨rfl, by simp [mkeys], fun x h => by cases h⟩
  | [], _, _ :: _, _, _, h, _ => by simp at h
  | _ :: _, _, [], _, _, h, _ => by simp at h
  | e :: el, vs, p :: m, k, i, hk, hv => by
    obtain ⟨q1, q2⟩ := p
    simp only [List.map_cons, List.cons.injEq] at hk
    subst hv
    have hn : Instr.sameNow (.int .i64) (.int .i64 k) e.key = some (k == q1) := by rw [hk.1]; simp [Instr.sameNow]
    by_cases hq : q1 = k
    · right
      subst hq
      exact ⟨0, e, by simp [Instr.findNow, hn], rfl, hk.1, List.mem_cons_self .., by simp [vget], fun q hq => absurd hq (Nat.not_lt_zero _)⟩
    · have hb : (k == q1) = false := by simpa using fun e : k = q1 => hq e.symm
      have hek : e.key ≠ .int .i64 k := by rw [hk.1]; intro e; injection e with _ e; exact hq e
      rcases find_F (P := P) k (i + 1) hk.2 rfl with ⟨h1, h2, h3⟩ | ⟨j, e', h1, h2, h3, h4, h5, h6⟩
      · refine .inl ⟨by simp [Instr.findNow, hn, hb, h1], fun h => ?_, fun x hx => ?_⟩
        · cases h with
          | head => exact hq rfl
          | tail _ h => exact h2 h
        · cases hx with
          | head => exact hek
          | tail _ hx => exact h3 x hx
      · refine .inr ⟨j + 1, e', ?_, by simpa using h2, h3, List.mem_cons_of_mem _ h4, by simp only [List.map_cons, vget, if_neg hq]; exact h5, fun q hq' e2 he2 => ?_⟩
        · simp only [Instr.findNow, hn, hb, h1]; congr 3; omega
        · cases q with
          | zero => simp at he2; subst he2; exact hek
          | succ q => exact h6 q (by omega) e2 (by simpa using he2)
end
section
variable {P : Program} {α : Type} {c : Cod α} {a : Act} {w z : World} {I : Hp} {N : Nat} {l : List (Nat × Value)} {r : List Asn} {d : Option Nat} {ty : TypeId} {pos : String} {af : Array Edge} {vs : List Value} {m m' : List (Int × List α)} {hs : List Int} {b : Nat} {k : Int}
theorem mapO_at (H : St z I w r) (i : Nat) (hi : r[i]? = some (MapO c b vs m hs)) : ∃ es clock, MapF es clock vs m ∧ w.heap[b]? = some (.map es clock) := by
  have H' := H.get i hi
  obtain ⟨es, clock, f, H1⟩ := H'.mapO_cases
  exact ⟨es, clock, f, H1.ob 0 rfl⟩
theorem d_makeMapO {t : TypeId} (H : St z I w r) : Does P ⟨d, .makeMap t none, ty, pos, af, none⟩ a w (fun v w' => ∃ b, v = .map (some b) ∧ St z I w' (MapO c b [] [] [] :: r)) :=
  does_value (w' := w.alloc (.map #[] 0)) (v := .map (some w.heap.size)) (by simp [execOp, Instr.makeMap]) ⟨_, rfl, St.mapO_intro (es := #[]) (clock := 0) ⟨MapKept.stamped_empty 0, rfl, rfl⟩ (H.alloc (.map #[] 0))⟩
theorem look_O {t kt et : TypeId} (ht : P.underlying t = some (.map kt et)) (hk : P.underlying kt = some (.int .i64)) (hz : ∀ w : World, (zeroValue et).run P w = .ok (.slice none 0 0) w) (ok : Bool) (H : St z I w r) (i : Nat) (hi : r[i]? = some (MapO c b vs m hs)) :
    (Instr.lookup t (.map (some b)) (.int .i64 k) ok).run P w = .ok (if ok then .tuple #[vget vs m k, .bool (mget m k).isSome] else vget vs m k) w := by
  obtain ⟨es, clock, f, hb⟩ := mapO_at H i hi
  have hK : MapKept.IsKey (.int .i64) (.int .i64 k) := rfl
  rcases find_F (P := P) k 0 f.keys f.vals with ⟨h1, h2, h3⟩ | ⟨j, e', h1, h2, h3, h4, h5, h6⟩
  · cases ok <;> simp [Instr.lookup, run_underlying ht, MapKept.run_getObj_map hb, MapKept.run_checkKey hk hK, MapKept.run_findKey hk h1, Result.andThen, hz, vget_not h2, mget_not h2]
  · have hs : (mget m k).isSome = true := (mget_mem m k).2 h4
    cases ok <;> simp [Instr.lookup, run_underlying ht, MapKept.run_getObj_map hb, MapKept.run_checkKey hk hK, MapKept.run_findKey hk h1, Result.andThen, h5, hs]
theorem d_lookO1 {x y : Operand} {t kt et : TypeId} (ht : P.underlying t = some (.map kt et)) (hk : P.underlying kt = some (.int .i64)) (hz : ∀ w : World, (zeroValue et).run P w = .ok (.slice none 0 0) w)
    (hE : Env a N l) (hx : ev l x = some (.map (some b))) (hy : ev l y = some (.int .i64 k)) (H : St z I w r) (i : Nat) (hi : r[i]? = some (MapO c b vs m hs)) :
    Does P ⟨d, .lookup t x y false, ty, pos, af, none⟩ a w (Is (vget vs m k) w) := by
  have hr := look_O (k := k) ht hk hz false H i hi
  exact does_value (w' := w) (by simp [execOp, hE.ev hx, hE.ev hy, hr]) ⟨rfl, rfl⟩
theorem d_lookO2 {x y : Operand} {t kt et : TypeId} (ht : P.underlying t = some (.map kt et)) (hk : P.underlying kt = some (.int .i64)) (hz : ∀ w : World, (zeroValue et).run P w = .ok (.slice none 0 0) w)
    (hE : Env a N l) (hx : ev l x = some (.map (some b))) (hy : ev l y = some (.int .i64 k)) (H : St z I w r) (i : Nat) (hi : r[i]? = some (MapO c b vs m hs)) :
    Does P ⟨d, .lookup t x y true, ty, pos, af, none⟩ a w (Is (.tuple #[vget vs m k, .bool (mget m k).isSome]) w) := by
  have hr := look_O (k := k) ht hk hz true H i hi
  exact does_value (w' := w) (by simp [execOp, hE.ev hx, hE.ev hy, hr]) ⟨rfl, rfl⟩
theorem vput_not : ∀ {vs : List Value} {m : List (Int × List α)} {v : Value}, vs.length = m.length → k ∉ mkeys m → vput vs m k v = vs ++ [v]
  | [], [], v, _, _ => rfl
  | [], _ :: _, _, h, _ => by simp at h
  | _ :: _, [], _, h, _ => by simp at h
  | u :: vs, (j, x) :: m, v, hl, h => by
    have hj : ¬ j = k := fun e => h (by subst e; exact List.mem_cons_self ..)
    simp only [vput, if_neg hj, List.cons_append]
    rw [vput_not (by simpa using hl) fun h' => h (List.mem_cons_of_mem _ h')]
theorem vput_at : ∀ {el : List MapEntry} {vs : List Value} {m : List (Int × List α)} {v : Value} {j : Nat} {e : MapEntry} {f : MapEntry → MapEntry}, el.map (·.key) = m.map (fun p => Value.int .i64 p.1) → el.map (·.val) = vs → el[j]? = some e → e.key = .int .i64 k →
    (∀ q, q < j → ∀ e', el[q]? = some e' → e'.key ≠ .int .i64 k) → (∀ e, (f e).val = v) → (el.modify j f).map (·.val) = vput vs m k v
  | [], _, _, _, _, _, _, _, _, h, _, _, _ => by cases h
  | _ :: _, _, [], _, _, _, _, h, _, _, _, _, _ => by simp at h
  | e0 :: el, vs, (q1, q2) :: m, v, 0, e, f, hk, hv, h, he, _, hf => by
    simp at h; subst h; subst hv
    simp only [List.map_cons, List.cons.injEq] at hk
    have hq : q1 = k := by rw [hk.1] at he; injection he
    simp [vput, hq, hf]
  | e0 :: el, vs, (q1, q2) :: m, v, j + 1, e, f, hk, hv, h, he, hb, hf => by
    subst hv
    simp only [List.map_cons, List.cons.injEq] at hk
    have hq : ¬ q1 = k := fun e' => hb 0 (by omega) e0 rfl (by rw [hk.1, e'])
    simp only [List.modify_succ_cons, List.map_cons, vput, if_neg hq]
    rw [vput_at hk.2 rfl (by simpa using h) he (fun q hq' e' he' => hb (q + 1) (by omega) e' (by simpa using he')) hf]
theorem putO {t kt et : TypeId} {v : Value} {x xs : List α} (ht : P.underlying t = some (.map kt et)) (hk : P.underlying kt = some (.int .i64)) (hx : mgetO hs m k = some x) (hs' : some (mput m k xs) = some m') (H : St z I w (OwnSl c v xs :: MapO c b vs m (k :: hs) :: r)) :
    ∃ w', (Instr.mapUpdate t (.map (some b)) (.int .i64 k) v).run P w = .ok () w' ∧ ∃ vs', St z I w' (MapO c b vs' m' hs :: r) := by
  cases hs'
  obtain ⟨hkh, _⟩ := mgetO_some hx
  obtain ⟨es, clock, f, H1⟩ := (H.get 1 rfl).mapO_cases
  have H1 : St z I w (Ob b (.map es clock) :: (rowsO c vs m (k :: hs) ++ (OwnSl c v xs :: r))) := H1
  have hb : w.heap[b]? = some (.map es clock) := H1.ob 0 rfl
  have hK : MapKept.IsKey (.int .i64) (.int .i64 k) := rfl
  have front : ∀ {w' : World} {o : Obj}, St z I w' (Ob b o :: (rowsO c vs m (k :: hs) ++ (OwnSl c v xs :: r))) → St z I w' (Ob b o :: (OwnSl c v xs :: (rowsO c vs m (k :: hs) ++ r))) := fun H => H.perm (List.Perm.cons _ List.perm_middle)
  rcases find_F (P := P) k 0 f.keys f.vals with ⟨h1, h2, h3⟩ | ⟨j, e', h1, h2, h3, h4, h5, h6⟩
  · refine ⟨{ w with heap := w.heap.setIfInBounds b (.map (es.push ⟨.int .i64 k, v, clock⟩) (clock + 1)) }, ?_, vput vs m k v, ?_⟩
    · simp [Instr.mapUpdate, run_underlying ht, MapKept.run_getObj_map hb, MapKept.run_checkKey hk hK, MapKept.run_findKey hk h1, MapKept.run_setObj_map _ hb, Result.andThen]
    · have H2 := H1.put (w' := { w with heap := w.heap.setIfInBounds b (.map (es.push ⟨.int .i64 k, v, clock⟩) (clock + 1)) }) (.map (es.push ⟨.int .i64 k, v, clock⟩) (clock + 1)) rfl rfl rfl (Nat.le_refl _) rfl
      refine St.mapO_intro (es := es.push ⟨.int .i64 k, v, clock⟩) (clock := clock + 1) ⟨MapKept.stamped_push f.st h3, ?_, ?_⟩ ((front H2).under fun J h s => rows_push f.len.2 h2 hkh s)
      · rw [mput_new m k xs h2]; simp [f.keys]
      · rw [vput_not f.len.2 h2]; simp [f.vals]
  · have hj : es[j]? = some e' := by simpa using h2
    have hkey : (es[j]?.map (·.key)).getD (.int .i64 k) = .int .i64 k := by rw [hj]; simpa using h3
    have h1' : Instr.findNow (.int .i64) (.int .i64 k) es.toList 0 = some (some (j, e'.val)) := by rw [h1]; simp
    have hstay := MapKept.run_keyThatStays (P := P) (w := w) (d := .int .i64) hK
    refine ⟨{ w with heap := w.heap.setIfInBounds b (.map (es.modify j fun e => { e with key := .int .i64 k, val := v }) clock) }, ?_, vput vs m k v, ?_⟩
    · simp only [Instr.mapUpdate, Sem.run_bind, run_underlying ht, MapKept.run_getObj_map hb, MapKept.run_checkKey hk hK, MapKept.run_findKey hk h1', Result.andThen_ok]
      rw [hkey]
      simp only [Sem.run_bind, hstay, Result.andThen_ok, MapKept.run_setObj_map _ hb]
    · have H2 := H1.put (w' := { w with heap := w.heap.setIfInBounds b (.map (es.modify j fun e => { e with key := .int .i64 k, val := v }) clock) }) (.map (es.modify j fun e => { e with key := .int .i64 k, val := v }) clock) rfl rfl rfl (Nat.le_refl _) rfl
      refine St.mapO_intro (es := es.modify j fun e => { e with key := .int .i64 k, val := v }) (clock := clock) ⟨MapKept.stamped_modify f.st j (fun e => { e with key := .int .i64 k, val := v }) (fun _ _ => rfl) fun e0 _ he => ?_, ?_, ?_⟩ ((front H2).under fun J h s => rows_join f.len.2 f.nodup h4 hkh s)
      · rw [hj] at he; cases he; exact h3.symm
      · have e1 : mkeys (mput m k xs) = mkeys m := mput_old m k xs h4
        have e2 : ((mput m k xs).map fun p => Value.int .i64 p.1) = (m.map fun p => Value.int .i64 p.1) := by
          have : ∀ m : List (Int × List α), (m.map fun p => Value.int .i64 p.1) = (mkeys m).map (Value.int .i64) := fun m => by simp [mkeys]
          rw [this, this, e1]
        rw [e2, ← f.keys, Array.toList_modify]
        apply List.ext_getElem?
        intro q
        simp only [List.getElem?_map, List.getElem?_modify]
        by_cases hq : j = q
        · subst hq; rw [h2]; simp [h3]
        · simp [hq]
      · rw [Array.toList_modify]
        exact vput_at f.keys f.vals h2 h3 h6 fun _ => rfl
theorem d_putO {x0 y u : Operand} {t kt et : TypeId} {v : Value} {x xs : List α} (ht : P.underlying t = some (.map kt et)) (hk : P.underlying kt = some (.int .i64)) (hE : Env a N l) (hx0 : ev l x0 = some (.map (some b))) (hy : ev l y = some (.int .i64 k)) (hu : ev l u = some v)
    (hx : mgetO hs m k = some x) (hs' : some (mput m k xs) = some m') (H : St z I w (OwnSl c v xs :: MapO c b vs m (k :: hs) :: r)) : Does P ⟨d, .mapUpdate t x0 y u, ty, pos, af, none⟩ a w (fun _ w' => ∃ vs', St z I w' (MapO c b vs' m' hs :: r)) := by
  obtain ⟨w', hr, H'⟩ := putO (v := v) ht hk hx hs' H
  exact does_skip (w' := w') (by simp [execOp, hE.ev hx0, hE.ev hy, hE.ev hu, hr]) H'
theorem d_lenMO {x : Operand} {t k e : TypeId} (ht : P.underlying t = some (.map k e)) (hE : Env a N l) (hx : ev l x = some (.map (some b))) (H : St z I w r) (i : Nat) (hi : r[i]? = some (MapO c b vs m hs)) :
    Does P ⟨d, .call { callee := .builtin .len, args := #[x], argTypes := #[t] }, ty, pos, af, none⟩ a w (Is (.int .i64 m.length) w) := by
  obtain ⟨es, clock, f, hb⟩ := mapO_at H i hi
  have hl := f.len.1
  simp only [Array.length_toList] at hl
  exact does_value (w' := w) (by simp [execOp, resolve, invoke, builtin, Builtin.len_, hE.ev hx, run_underlying ht, MapKept.run_getObj_map hb, Result.andThen, goInt, hl]) ⟨rfl, rfl⟩
end
end Go.Proofs.Ytbielnhpfbhkgaa
