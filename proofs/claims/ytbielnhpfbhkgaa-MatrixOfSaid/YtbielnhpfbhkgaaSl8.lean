/- The same operations, what they give under a name. -/
import Derived.Test.YtbielnhpfbhkgaaSl7
set_option linter.unusedVariables false
set_option linter.unusedSimpArgs false
namespace Go.Proofs.Ytbielnhpfbhkgaa
open Go

def oon {σ τ : Type} (o : Option σ) (n : Option τ) (f : σ → Option τ) : Option τ := match o with
  | none => n
  | some s => f s
theorem oon_none {σ τ : Type} (n : Option τ) (f : σ → Option τ) : oon none n f = n := rfl
theorem oon_some {σ τ : Type} (s : σ) (n : Option τ) (f : σ → Option τ) : oon (some s) n f = f s := rfl
section
variable {P : Program} {α : Type} {c : Cod α} {g : Bool} {a : Act} {w z : World} {I : Hp} {N : Nat} {l : List (Nat × Value)} {r : List Asn} {d : Option Nat} {ty : TypeId} {pos : String} {af : Array Edge} {v : Value} {xs xs' : List α} {m m' : List (Int × α)} {b : Nat}
theorem b_storeS {x y : Operand} {t n : Nat} {i : Int} {e e' : α} {u : Value} (ht : ∀ w : World, (sizeOf t).run P w = .ok n w) (hE : Env a N l) (hx : ev l x = some (.pointer (some (ad (sb v) (so v + i.toNat * c.n))))) (hy : ev l y = some u)
    (hn : u.cells.size = n) (h1 : ∀ q ∈ u.cells.toList, q.oneCell' = true) (hj : c.n = n) (hi : rdx xs i = some e) (hc : ∀ J h : Hp, I.le J → Sat J (OwnSl c v xs :: r) h → c.rd J u.cells.toList e') (hs : some (xs.set i.toNat e') = some xs') (H : St z I w (OwnSl c v xs :: r)) :
    Does P ⟨d, .store t x y, ty, pos, af, none⟩ a w (fun _ w' => St z I w' (OwnSl c v xs' :: r)) := by cases hs; exact d_storeS ht hE hx hy hn h1 hj hi hc H
theorem b_storeSf {x y : Operand} {t n : Nat} {i : Int} {e e' : α} {u : Value} {j : Nat} (ht : ∀ w : World, (sizeOf t).run P w = .ok n w) (hE : Env a N l) (hx : ev l x = some (.pointer (some (ad (sb v) (so v + i.toNat * c.n + j))))) (hy : ev l y = some u)
    (hn : u.cells.size = n) (h1 : ∀ q ∈ u.cells.toList, q.oneCell' = true) (hj : Nat.ble (j + n) c.n = true) (hi : rdx xs i = some e) (hc : ∀ J h : Hp, I.le J → Sat J (OwnSl c v xs :: r) h → ∀ cs, c.rd J cs e → c.rd J (setL cs j u.cells.toList) e') (hs : some (xs.set i.toNat e') = some xs') (H : St z I w (OwnSl c v xs :: r)) :
    Does P ⟨d, .store t x y, ty, pos, af, none⟩ a w (fun _ w' => St z I w' (OwnSl c v xs' :: r)) := by cases hs; exact d_storeSf ht hE hx hy hn h1 hj hi hc H
theorem b_storeSN {x y : Operand} {t n : Nat} {i : Int} {e e' : α} {u : Value} (ht : ∀ w : World, (sizeOf t).run P w = .ok n w) (hE : Env a N l) (hx : ev l x = some (.pointer (some (ad (sb v) (so v + i.toNat * c.n))))) (hy : ev l y = some u)
    (hn : u.cells.size = n) (hj : c.n = n) (hi : rdx xs i = some e) (hc : ∀ J h : Hp, I.le J → Sat J (OwnSl c v xs :: r) h → c.rd J u.cells.toList e') (hs : some (xs.set i.toNat e') = some xs') (H : St z I w (OwnSl c v xs :: r)) :
    Does P ⟨d, .store t x y, ty, pos, af, none⟩ a w (fun _ w' => St z I w' (OwnSl c v xs' :: r)) := by
  obtain ⟨J, hh, iJ, jw, dj, hw, s⟩ := H.own
  exact b_storeS ht hE hx hy hn (c.one (hc J hh iJ s)) hj hi hc hs H
theorem b_lookR2 {α : Type} {c1 : Cod α} {m : List (Int × List α)} {x' : List α} {x y : Operand} {t kt et : TypeId} {k : Int} (ht : P.underlying t = some (.map kt et)) (hk : P.underlying kt = some (.int .i64)) (hz : ∀ w : World, (zeroValue et).run P w = .ok (.slice none 0 0) w)
    (hE : Env a N l) (hx : ev l x = some (.map (some b))) (hy : ev l y = some (.int .i64 k)) (hs : some ((mget m k).getD []) = some x') (H : St z I w r) (i : Nat) (hi : r[i]? = some (MapR (cSl c1) false b m)) :
    Does P ⟨d, .lookup t x y true, ty, pos, af, none⟩ a w (fun v w' => ∃ V, v = .tuple #[V, .bool (mget m k).isSome] ∧ St z I w' (ImR c1 V x' :: r)) := by
  cases hs
  obtain ⟨V, hr, H'⟩ := look_rows (k := k) ht hk hz true H i hi
  exact does_value (w' := w) (by simp [execOp, hE.ev hx, hE.ev hy, hr]) ⟨V, rfl, H'⟩
theorem b_lookR1 {α : Type} {c1 : Cod α} {m : List (Int × List α)} {x' : List α} {x y : Operand} {t kt et : TypeId} {k : Int} (ht : P.underlying t = some (.map kt et)) (hk : P.underlying kt = some (.int .i64)) (hz : ∀ w : World, (zeroValue et).run P w = .ok (.slice none 0 0) w)
    (hE : Env a N l) (hx : ev l x = some (.map (some b))) (hy : ev l y = some (.int .i64 k)) (hs : some ((mget m k).getD []) = some x') (H : St z I w r) (i : Nat) (hi : r[i]? = some (MapR (cSl c1) false b m)) :
    Does P ⟨d, .lookup t x y false, ty, pos, af, none⟩ a w (fun V w' => St z I w' (ImR c1 V x' :: r)) := by
  cases hs
  obtain ⟨V, hr, H'⟩ := look_rows (k := k) ht hk hz false H i hi
  exact does_value (w' := w) (v := V) (by simp [execOp, hE.ev hx, hE.ev hy, hr]) H'
theorem b_mapUpdate {x y u : Operand} {t kt et : TypeId} {k : Int} {v : Value} {cs : List Value} {xv : α} (ht : P.underlying t = some (.map kt et)) (hk : P.underlying kt = some (.int .i64)) (hE : Env a N l) (hx : ev l x = some (.map (some b))) (hy : ev l y = some (.int .i64 k)) (hu : ev l u = some v)
    (hv : v = mkv g cs) (hc : ∀ J h : Hp, I.le J → Sat J (MapR c g b m :: r) h → c.rd J cs xv) (hs : some (mput m k xv) = some m') (H : St z I w (MapR c g b m :: r)) : Does P ⟨d, .mapUpdate t x y u, ty, pos, af, none⟩ a w (fun _ w' => St z I w' (MapR c g b m' :: r)) := by cases hs; exact d_mapUpdate ht hk hE hx hy hu hv hc H
theorem b_insert {x y u : Operand} {t kt et : TypeId} {k : Int} {v : Value} {cs : List Value} {xv : α} (ht : P.underlying t = some (.map kt et)) (hk : P.underlying kt = some (.int .i64)) (hE : Env a N l) (hx : ev l x = some (.map (some b))) (hy : ev l y = some (.int .i64 k)) (hu : ev l u = some v)
    (hv : v = mkv g cs) (hc : ∀ J h : Hp, I.le J → Sat J (MapR c g b m :: r) h → c.rd J cs xv) (hs : some (mput m k xv) = some m') (H : St z I w (MapR c g b m :: r)) : Does P ⟨d, .insert t x y u, ty, pos, af, none⟩ a w (fun _ w' => St z I w' (MapR c g b m' :: r)) := by cases hs; exact d_insert ht hk hE hx hy hu hv hc H
theorem b_lookup2 {x y : Operand} {t kt et : TypeId} {k : Int} {zx x' : α} {V : α → Value} (ht : P.underlying t = some (.map kt et)) (hk : P.underlying kt = some (.int .i64)) (hz : ∀ w : World, (zeroValue et).run P w = .ok (V zx) w) (hV : ∀ (I : Hp) cs x, c.rd I cs x → mkv g cs = V x)
    (hE : Env a N l) (hx : ev l x = some (.map (some b))) (hy : ev l y = some (.int .i64 k)) (hs : some ((mget m k).getD zx) = some x') (H : St z I w r) (i : Nat) (hi : r[i]? = some (MapR c g b m)) :
    Does P ⟨d, .lookup t x y true, ty, pos, af, none⟩ a w (Is (.tuple #[V x', .bool (mget m k).isSome]) w) := by cases hs; exact d_lookup2 ht hk hz hV hE hx hy H i hi
theorem b_lookup1 {x y : Operand} {t kt et : TypeId} {k : Int} {zx x' : α} {V : α → Value} (ht : P.underlying t = some (.map kt et)) (hk : P.underlying kt = some (.int .i64)) (hz : ∀ w : World, (zeroValue et).run P w = .ok (V zx) w) (hV : ∀ (I : Hp) cs x, c.rd I cs x → mkv g cs = V x)
    (hE : Env a N l) (hx : ev l x = some (.map (some b))) (hy : ev l y = some (.int .i64 k)) (hs : some ((mget m k).getD zx) = some x') (H : St z I w r) (i : Nat) (hi : r[i]? = some (MapR c g b m)) :
    Does P ⟨d, .lookup t x y false, ty, pos, af, none⟩ a w (Is (V x') w) := by cases hs; exact d_lookup1 ht hk hz hV hE hx hy H i hi
theorem sliceL {l : List (Nat × Value)} {y : Operand} {n : Int} {o : Int} (h : ev l y = some (.int .i64 n)) : (∃ y', some y = some y' ∧ ev l y' = some (.int .i64 n)) ∨ ((some y : Option Operand) = none ∧ n = o) := .inl ⟨y, rfl, h⟩
theorem sliceN {l : List (Nat × Value)} {n : Int} : (∃ y', (none : Option Operand) = some y' ∧ ev l y' = some (.int .i64 n)) ∨ ((none : Option Operand) = none ∧ n = n) := .inr ⟨rfl, rfl⟩
end
/-- A struct of words that are each one cell. -/
theorem cells1 {v : Value} (h : ∀ xs, v ≠ .agg xs) : v.cells = #[v] := by cases v <;> first | rfl | exact absurd rfl (h _)
section
variable {α : Type} {c : Cod α} {z w : World} {I : Hp} {r : List Asn} {v : Value} {xs : List α}
theorem Rd.slice (H : St z I w r) (hr : Rd c I r v xs) : ∃ A n cap, v = .slice A n cap := by obtain ⟨J, _, _, h⟩ := hr.st H; obtain ⟨A, cap, rfl, _⟩ := h.form; exact ⟨_, _, _, rfl⟩
theorem Rd.nil_cases (H : St z I w r) (hr : Rd c I r v xs) : (v = .slice none 0 0 ∧ xs = []) ∨ (∃ k, v = .slice none 0 (k + 1) ∧ xs = []) ∨ ∃ p n k, v = .slice (some p) n k := by
  obtain ⟨J, _, _, h⟩ := hr.st H
  obtain ⟨A, k, rfl, _⟩ := h.form
  cases A with
  | some p => exact .inr (.inr ⟨p, _, _, rfl⟩)
  | none =>
    cases xs with
    | nil => cases k with
      | zero => exact .inl ⟨rfl, rfl⟩
      | succ k => exact .inr (.inl ⟨k, rfl, rfl⟩)
    | cons x xs =>
      obtain ⟨_, _, _, _, _, _, e, _⟩ := h.cells 0 x rfl
      cases e
theorem d_eqSlS {P : Program} {a : Act} {N : Nat} {l : List (Nat × Value)} {d : Option Nat} {ty : TypeId} {pos : String} {af : Array Edge} {x y : Operand} {t e u : TypeId} {p : Addr} {n k : Nat} (hv : v = .slice (some p) n k) (ht : P.underlying t = some (.slice e)) (hE : Env a N l) (hx : ev l x = some v) (hy : ev l y = some (.slice none 0 0)) : Does P ⟨d, .binOp .eql t x y u, ty, pos, af, none⟩ a w (Is (.bool false) w) := by
  subst hv; exact d_eqSl ht hE hx hy
theorem one_slice (h : ∃ A n k, v = .slice A n k) : v.cells = #[v] ∧ v.oneCell' = true := by obtain ⟨A, n, k, rfl⟩ := h; exact ⟨rfl, rfl⟩
theorem d_build {P : Program} {a : Act} {N : Nat} {l : List (Nat × Value)} {d : Option Nat} {ty : TypeId} {pos : String} {af : Array Edge} {t : Nat} {ps : Array (Nat × Operand)} {us : List (Nat × Value)} {V : Value} (hE : Env a N l) (hx : evps l ps.toList = some us)
    (hf : ∀ w : World, (Instr.build t us.toArray).run P w = .ok V w) : Does P ⟨d, .build t ps, ty, pos, af, none⟩ a w (Is V w) := by
  have hm : (ps.map fun (i, x) => (i, a.eval x)) = us.toArray := by rw [← hE.evps hx]; apply Array.toList_inj.1; simp
  exact does_value (w' := w) (by simp only [execOp, hm, Sem.run_bind, hf w, Result.andThen_ok, Sem.run_pure]) ⟨rfl, rfl⟩
theorem d_store1 {P : Program} {a : Act} {N : Nat} {l : List (Nat × Value)} {d : Option Nat} {ty : TypeId} {pos : String} {af : Array Edge} {x y : Operand} {b k T : Nat} {cs : List Value} {t : TypeId} (ht : Scal P t) (hE : Env a N l) (hx : ev l x = some (.pointer (some (ad b k)))) (hy : ev l y = some v)
    (h1 : v.cells = #[v] ∧ v.oneCell' = true) (H : St z I w (Bl b T cs :: r)) (hk : Nat.ble (k + 1) cs.length = true) :
    Does P ⟨d, .store t x y, ty, pos, af, none⟩ a w (fun _ w' => St z I w' (Bl b T (setL cs k [v]) :: r)) := by
  have h := d_store (P := P) (d := d) (ty := ty) (pos := pos) (af := af) (t := t) (n := 1) (fun w => (ht w).2) hE hx hy (by rw [h1.1]; rfl) (by rw [h1.1]; intro u hu; simp at hu; subst hu; exact h1.2) H hk
  rw [h1.1] at h; exact h
end
/-- An element's address in an array that lies in a block of one's own. -/
def Idx (P : Program) (t : TypeId) (i : Int) (off : Nat) : Prop := ∀ (p : Addr) (w : World), (Instr.indexAt t (.pointer (some p)) (.int .i64 i)).run P w = .ok (.pointer (some (p.add off))) w
theorem d_indexP {P : Program} {a : Act} {w : World} {N : Nat} {l : List (Nat × Value)} {d : Option Nat} {ty : TypeId} {pos : String} {af : Array Edge} {x y : Operand} {b k t off : Nat} {i : Int} (hF : Idx P t i off) (hE : Env a N l) (hx : ev l x = some (.pointer (some (ad b k)))) (hy : ev l y = some (.int .i64 i)) :
    Does P ⟨d, .indexAddr t x y, ty, pos, af, none⟩ a w (Is (.pointer (some (ad b (k + off)))) w) :=
  does_value (w' := w) (by simp [execOp, hE.ev hx, hE.ev hy, hF (ad b k) w, ad_add]) ⟨rfl, rfl⟩
end Go.Proofs.Ytbielnhpfbhkgaa
