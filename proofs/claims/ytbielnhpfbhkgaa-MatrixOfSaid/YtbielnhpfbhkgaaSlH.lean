/- Rows of rows that are owned. -/
import Derived.Test.YtbielnhpfbhkgaaSlG
set_option linter.unusedVariables false
set_option linter.unusedSimpArgs false
namespace Go.Proofs.Ytbielnhpfbhkgaa
open Go

/-- A value as it lies. -/
def cV : Cod Value where
  n := 1
  rd := fun _ cs x => cs = [x] ∧ x.oneCell' = true
  mono := fun _ h => h
  len := fun ⟨e, _⟩ => by rw [e]; rfl
  one := fun ⟨e, h⟩ u hu => by rw [e] at hu; simp at hu; subst hu; exact h
def nilS : Value := .slice none 0 0
/-- A row whose elements are rows of one's own. -/
def MatO {α : Type} (c : Cod α) (v : Value) (vs : List Value) (xss : List (List α)) : Asn :=
  Pk (Pu (fun _ => vs.length = xss.length) (fun _ h => h) :: OwnSl cV v vs :: List.zipWith (OwnSl c) vs xss)
section
variable {α : Type} {c : Cod α} {z w : World} {I : Hp} {r : List Asn} {v : Value} {vs : List Value} {xss : List (List α)}
theorem St.mat_cases (H : St z I w (MatO c v vs xss :: r)) : vs.length = xss.length ∧ St z I w (OwnSl cV v vs :: (List.zipWith (OwnSl c) vs xss ++ r)) := by
  have H1 : St z I w (Pu (fun _ => vs.length = xss.length) (fun _ h => h) :: OwnSl cV v vs :: (List.zipWith (OwnSl c) vs xss ++ r)) := H.open_
  obtain ⟨⟨_, _, _, f⟩, H2⟩ := H1.pu
  exact ⟨f, H2⟩
theorem St.mat_intro (f : vs.length = xss.length) (H : St z I w (OwnSl cV v vs :: (List.zipWith (OwnSl c) vs xss ++ r))) : St z I w (MatO c v vs xss :: r) := by
  refine St.shut (k := Pu (fun _ => vs.length = xss.length) (fun _ h => h) :: OwnSl cV v vs :: List.zipWith (OwnSl c) vs xss) ?_
  exact St.pu_intro f H
theorem zip_perm : ∀ {vs : List Value} {xss : List (List α)} {i : Nat} {u : Value} {ys : List α}, vs[i]? = some u → xss[i]? = some ys → (List.zipWith (OwnSl c) vs xss).Perm (OwnSl c u ys :: List.zipWith (OwnSl c) (vs.eraseIdx i) (xss.eraseIdx i))
  | [], _, _, _, _, h, _ => by simp at h
  | _ :: _, [], _, _, _, _, h => by simp at h
  | u :: vs, y :: xss, 0, _, _, h, h' => by
    simp at h h'; subst h; subst h'
    simp
  | u :: vs, y :: xss, i + 1, u', y', h, h' => by
    have := zip_perm (vs := vs) (xss := xss) (i := i) (by simpa using h) (by simpa using h')
    simp only [List.zipWith_cons_cons, List.eraseIdx_cons_succ]
    exact (List.Perm.cons _ this).trans (List.Perm.swap _ _ _)
theorem zip_set {i : Nat} {u : Value} {ys : List α} (hu : i < vs.length) (hl : vs.length = xss.length) : (List.zipWith (OwnSl c) (vs.set i u) (xss.set i ys)).Perm (OwnSl c u ys :: List.zipWith (OwnSl c) (vs.eraseIdx i) (xss.eraseIdx i)) := by
  have h := zip_perm (c := c) (vs := vs.set i u) (xss := xss.set i ys) (i := i) (u := u) (ys := ys) (by simp [hu]) (by rw [List.getElem?_set_self (by omega)])
  rwa [List.eraseIdx_set_eq, List.eraseIdx_set_eq] at h
theorem mat_at (hl : vs.length = xss.length) {i : Int} {ys : List α} (hi : rdx xss i = some ys) : rdx vs i = some (vs.getD i.toNat nilS) ∧ vs[i.toNat]? = some (vs.getD i.toNat nilS) ∧ xss[i.toNat]? = some ys ∧ i.toNat < vs.length := by
  obtain ⟨h0, h1, h2⟩ := rdx_some hi
  have hlt : i.toNat < vs.length := by omega
  refine ⟨?_, ?_, h2, hlt⟩
  · unfold rdx; rw [if_pos h0]; simp [hlt]
  · simp [hlt]
theorem Sat.mat {J g : Hp} (s : Sat J r g) (j : Nat) (hj : r[j]? = some (MatO c v vs xss)) : vs.length = xss.length ∧ ∃ h1 : Hp, h1.le g ∧ (OwnSl cV v vs).p J h1 ∧ ∃ h2 : Hp, h2.le g ∧ Sat J (List.zipWith (OwnSl c) vs xss) h2 := by
  obtain ⟨h1, l1, p⟩ := s.mem (List.mem_of_getElem? hj)
  have q : Sat J (Pu (fun _ => vs.length = xss.length) (fun _ h => h) :: OwnSl cV v vs :: List.zipWith (OwnSl c) vs xss) h1 := p
  obtain ⟨f, q1⟩ := q.pu
  obtain ⟨h2, l2, p2⟩ := q1.mem (List.mem_cons_self ..)
  exact ⟨f, h2, l2.le_trans l1, p2, h1, l1, q1.drop⟩
theorem Rd.matV (j : Nat) (hj : r[j]? = some (MatO c v vs xss)) : Rd cV I r v vs := fun J g W hJ hW hg s => by
  obtain ⟨_, h1, l1, p, _⟩ := s.mat j hj
  exact OwnSl.rdSl p (Hp.le_refl _) (l1.le_trans hg)
theorem Rd.mat {i : Int} {ys : List α} (j : Nat) (hj : r[j]? = some (MatO c v vs xss)) (hi : rdx xss i = some ys) : Rd c I r (vs.getD i.toNat nilS) ys := fun J g W hJ hW hg s => by
  obtain ⟨f, _, _, _, h2, l2, q⟩ := s.mat j hj
  obtain ⟨_, e1, e2, _⟩ := mat_at f hi
  obtain ⟨h3, l3, p3⟩ := q.mem ((zip_perm (c := c) e1 e2).mem_iff.2 (List.mem_cons_self ..))
  exact OwnSl.rdSl p3 (Hp.le_refl _) (l3.le_trans (l2.le_trans hg))
theorem St.mat_len (H : St z I w r) (j : Nat) (hj : r[j]? = some (MatO c v vs xss)) : vs.length = xss.length := by
  obtain ⟨J, g, _, _, _, _, s⟩ := H.own
  exact (s.mat j hj).1
theorem St.matNil (H : St z I w r) (A : Option Addr) : St z I w (MatO c (.slice A 0 0) [] [] :: r) := St.mat_intro rfl (St.nil H A)
theorem St.zipNil (H : St z I w r) : ∀ n : Nat, St z I w (List.zipWith (OwnSl c) (List.replicate n nilS) (List.replicate n []) ++ r)
  | 0 => H
  | n + 1 => by
    simp only [List.replicate_succ, List.zipWith_cons_cons, List.cons_append]
    exact St.nil (H.zipNil n) none
end
section
variable {P : Program} {α : Type} {c : Cod α} {a : Act} {w z : World} {I : Hp} {N : Nat} {l : List (Nat × Value)} {r : List Asn} {d : Option Nat} {ty : TypeId} {pos : String} {af : Array Edge} {v : Value} {vs : List Value} {xss xss' : List (List α)}
theorem d_lenMat {x : Operand} {t e : TypeId} (ht : P.underlying t = some (.slice e)) (hE : Env a N l) (hx : ev l x = some v) (H : St z I w r) (j : Nat) (hj : r[j]? = some (MatO c v vs xss)) :
    Does P ⟨d, .call { callee := .builtin .len, args := #[x], argTypes := #[t] }, ty, pos, af, none⟩ a w (Is (.int .i64 xss.length) w) := by
  rw [← H.mat_len j hj]
  exact d_lenS ht hE hx H (Rd.matV j hj)
theorem d_indexMat {x y : Operand} {t e : TypeId} {i : Int} {k : IntKind} {ys : List α} (ht : Slc P t e 1) (hE : Env a N l) (hx : ev l x = some v) (hy : ev l y = some (.int k i)) (H : St z I w r) (j : Nat) (hj : r[j]? = some (MatO c v vs xss)) (hi : rdx xss i = some ys) :
    Does P ⟨d, .indexAddr t x y, ty, pos, af, none⟩ a w (Is (.pointer (some (ad (sb v) (so v + i.toNat * cV.n)))) w) :=
  d_indexS (c := cV) ht hE hx hy H (Rd.matV j hj) (mat_at (H.mat_len j hj) hi).1
theorem d_loadMat {x : Operand} {t : TypeId} {i : Int} {ys : List α} (ht : Scal P t) (hE : Env a N l) (hx : ev l x = some (.pointer (some (ad (sb v) (so v + i.toNat * cV.n))))) (H : St z I w r) (j : Nat) (hj : r[j]? = some (MatO c v vs xss)) (hi : rdx xss i = some ys) :
    Does P ⟨d, .load t x, ty, pos, af, none⟩ a w (Is (vs.getD i.toNat nilS) w) :=
  d_loadS1 (c := cV) ht hE hx H (Rd.matV j hj) (mat_at (H.mat_len j hj) hi).1 (fun _ _ e => e.1)
theorem d_storeMat {x y : Operand} {t n : Nat} {i k : Int} {ys : List α} {e e' : α} {u : Value} (ht : ∀ w : World, (sizeOf t).run P w = .ok n w) (hE : Env a N l) (hx : ev l x = some (.pointer (some (ad (sb (vs.getD i.toNat nilS)) (so (vs.getD i.toNat nilS) + k.toNat * c.n))))) (hy : ev l y = some u)
    (hn : u.cells.size = n) (h1 : ∀ q ∈ u.cells.toList, q.oneCell' = true) (hj : c.n = n) (hi : rdx xss i = some ys) (hk : rdx ys k = some e) (hc : ∀ J : Hp, c.rd J u.cells.toList e') (hs : some (xss.set i.toNat (ys.set k.toNat e')) = some xss') (H : St z I w (MatO c v vs xss :: r)) :
    Does P ⟨d, .store t x y, ty, pos, af, none⟩ a w (fun _ w' => St z I w' (MatO c v vs xss' :: r)) := by
  cases hs
  obtain ⟨f, H1⟩ := H.mat_cases
  obtain ⟨_, e1, e2, hlt⟩ := mat_at f hi
  have p1 := (zip_perm (c := c) e1 e2).append_right r
  have H2 : St z I w (OwnSl c (vs.getD i.toNat nilS) ys :: OwnSl cV v vs :: (List.zipWith (OwnSl c) (vs.eraseIdx i.toNat) (xss.eraseIdx i.toNat) ++ r)) := H1.perm ((List.Perm.cons _ p1).trans (List.Perm.swap _ _ _))
  have hD := b_storeS (P := P) (d := d) (ty := ty) (pos := pos) (af := af) (c := c) (e' := e') ht hE hx hy hn h1 hj hk (fun J _ _ _ => hc J) rfl H2
  refine hD.mono fun _ w' H3 => ?_
  have p2 := (zip_set (c := c) (u := vs.getD i.toNat nilS) (ys := ys.set k.toNat e') hlt f).append_right r
  have hvs : vs.set i.toNat (vs.getD i.toNat nilS) = vs := by
    refine List.ext_getElem? fun q => ?_
    by_cases hq : q = i.toNat
    · subst hq; rw [List.getElem?_set_self hlt, e1]
    · rw [List.getElem?_set_ne (fun e => hq e.symm)]
  rw [hvs] at p2
  exact St.mat_intro (by simp [f]) (H3.perm ((List.Perm.swap _ _ _).trans (List.Perm.cons _ p2.symm)))
theorem d_setRow {x y : Operand} {t : Nat} {i : Int} {ys old : List α} {u : Value} (ht : ∀ w : World, (sizeOf t).run P w = .ok 1 w) (hE : Env a N l) (hx : ev l x = some (.pointer (some (ad (sb v) (so v + i.toNat * cV.n))))) (hy : ev l y = some u)
    (hi : rdx xss i = some old) (hs : some (xss.set i.toNat ys) = some xss') (H : St z I w (OwnSl c u ys :: MatO c v vs xss :: r)) :
    Does P ⟨d, .store t x y, ty, pos, af, none⟩ a w (fun _ w' => St z I w' (MatO c v (vs.set i.toNat u) xss' :: r)) := by
  cases hs
  have hu := one_slice (Rd.slice H (Rd.own 0 rfl))
  have H0 : St z I w (MatO c v vs xss :: OwnSl c u ys :: r) := H.get 1 rfl
  obtain ⟨f, H1⟩ := H0.mat_cases
  obtain ⟨e0, e1, e2, hlt⟩ := mat_at f hi
  have hD := b_storeS (P := P) (d := d) (ty := ty) (pos := pos) (af := af) (c := cV) (e' := u) ht hE hx hy (by rw [hu.1]; rfl) (by rw [hu.1]; intro q hq; simp at hq; subst hq; exact hu.2) rfl e0 (fun J _ _ _ => ⟨by rw [hu.1], hu.2⟩) rfl H1
  refine hD.mono fun _ w' H3 => ?_
  have p1 := (zip_perm (c := c) e1 e2).append_right (OwnSl c u ys :: r)
  have H4 : St z I w' (OwnSl c (vs.getD i.toNat nilS) old :: OwnSl cV v (vs.set i.toNat u) :: (List.zipWith (OwnSl c) (vs.eraseIdx i.toNat) (xss.eraseIdx i.toNat) ++ (OwnSl c u ys :: r))) := H3.perm ((List.Perm.cons _ p1).trans (List.Perm.swap _ _ _))
  have H5 := H4.drop
  have p2 := (zip_set (c := c) (u := u) (ys := ys) hlt f).append_right r
  refine St.mat_intro (by simp [f]) (H5.perm (List.Perm.cons _ ?_))
  exact List.perm_middle.trans p2.symm
theorem d_makeMat {t e lim bytes : Nat} {x y : Operand} {n : Int} (hT : EltZ P t e [nilS] bytes)
    (hlim : lim * bytes ≤ 281474976710656) (hl2 : lim ≤ 9223372036854775807) (hE : Env a N l) (hx : ev l x = some (.int .i64 n)) (hy : ev l y = some (.int .i64 n)) (hm : mkl lim n ([] : List α) = some xss) (H : St z I w r) :
    Does P ⟨d, .makeSlice t x y, ty, pos, af, none⟩ a w (fun v' w' => ∃ vs', St z I w' (MatO c v' vs' xss :: r)) := by
  obtain ⟨rfl, hn0, hn1⟩ := mkl_some hm
  have hD := d_make (P := P) (d := d) (ty := ty) (pos := pos) (af := af) (c := cV) (x0 := nilS) (I := I) hT ⟨rfl, rfl⟩ (by decide) hlim hl2 hE hx hy (xs := List.replicate n.toNat nilS) (by unfold mkl; rw [if_pos ⟨hn0, hn1⟩]) H
  refine hD.mono fun v' w' H1 => ⟨List.replicate n.toNat nilS, St.mat_intro (by simp) ?_⟩
  have H2 := (H1.get 0 rfl).zipNil (c := c) n.toNat
  exact H2.perm List.perm_middle
end
end Go.Proofs.Ytbielnhpfbhkgaa
namespace Go.Proofs.Ytbielnhpfbhkgaa
open Go
/-- '&' of two of a kind. -/
def andI (k : IntKind) (x y : Int) : Int := k.wrap ((BitVec.ofInt k.bits x &&& BitVec.ofInt k.bits y).toNat : Int)
theorem d_and {P : Program} {a : Act} {w : World} {N : Nat} {l : List (Nat × Value)} {d : Option Nat} {ty : TypeId} {pos : String} {af : Array Edge} {x y : Operand} {t u : TypeId} {k : IntKind} {m n : Int} (hE : Env a N l) (hx : ev l x = some (.int k m)) (hy : ev l y = some (.int k n)) :
    Does P ⟨d, .binOp .and t x y u, ty, pos, af, none⟩ a w (Is (.int k (andI k m n)) w) :=
  does_value (w' := w) (by simp [execOp, hE.ev hx, hE.ev hy, eqGuard, binOp, Op.intBits, andI]) ⟨rfl, rfl⟩
theorem and32 {x : Int} (h0 : 0 ≤ x) (h1 : x ≤ 4294967295) : andI .u64 x 4294967295 = x := by
  unfold andI
  have e : (BitVec.ofInt 64 x &&& BitVec.ofInt 64 4294967295).toNat = x.toNat := by
    rw [BitVec.toNat_and]
    have e1 : (BitVec.ofInt 64 x).toNat = x.toNat := by
      rw [BitVec.toNat_ofInt]
      have : x % ((2 ^ 64 : Nat) : Int) = x := Int.emod_eq_of_lt h0 (by omega)
      rw [this]
    have e2 : (BitVec.ofInt 64 4294967295).toNat = 2 ^ 32 - 1 := by decide
    rw [e1, e2, Nat.and_two_pow_sub_one_eq_mod]
    exact Nat.mod_eq_of_lt (by omega)
  show IntKind.u64.wrap (((BitVec.ofInt 64 x &&& BitVec.ofInt 64 4294967295).toNat : Nat) : Int) = x
  rw [e, IntKind.wrap_u64]; omega
end Go.Proofs.Ytbielnhpfbhkgaa
