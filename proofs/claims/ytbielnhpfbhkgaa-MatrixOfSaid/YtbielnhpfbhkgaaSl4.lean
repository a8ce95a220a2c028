/- Slices: read, owned, grown, cut. -/
import Derived.Test.YtbielnhpfbhkgaaSl3
import Derived.Laws.AppendOwn
set_option linter.unusedVariables false
set_option linter.unusedSimpArgs false
namespace Go.Proofs.Ytbielnhpfbhkgaa
open Go

/-- How a kind of data lies in cells. -/
structure Cod (α : Type) where
  n : Nat
  rd : Hp → List Value → α → Prop
  mono : ∀ {h k : Hp} {cs : List Value} {x : α}, h.le k → rd h cs x → rd k cs x
  len : ∀ {h : Hp} {cs : List Value} {x : α}, rd h cs x → cs.length = n
  one : ∀ {h : Hp} {cs : List Value} {x : α}, rd h cs x → ∀ v ∈ cs, v.oneCell' = true
/-- All of it in its own cells. -/
def Cod.flat {α : Type} (n : Nat) (enc : α → List Value) (hl : ∀ x, (enc x).length = n) (h1 : ∀ x, ∀ v ∈ enc x, v.oneCell' = true) : Cod α :=
  ⟨n, fun _ cs x => cs = enc x, fun _ e => e, fun e => by rw [e, hl], fun e => by rw [e]; exact h1 _⟩
def cInt (k : IntKind) : Cod Int := Cod.flat 1 (fun x => [.int k x]) (fun _ => rfl) (fun _ v hv => by cases hv with | head => rfl | tail _ h => cases h)
def cBool : Cod Bool := Cod.flat 1 (fun x => [.bool x]) (fun _ => rfl) (fun _ v hv => by cases hv with | head => rfl | tail _ h => cases h)
def cStr : Cod ByteArray := Cod.flat 1 (fun x => [.string x]) (fun _ => rfl) (fun _ v hv => by cases hv with | head => rfl | tail _ h => cases h)

/-- The cells cs stand at k. -/
def Sec (cells : Array Value) (k : Nat) (cs : List Value) : Prop := ∀ j v, cs[j]? = some v → cells[k + j]? = some v
def sb : Value → Nat
  | .slice (some a) _ _ => a.block
  | _ => 0
def so : Value → Nat
  | .slice (some a) _ _ => a.off
  | _ => 0
def sc : Value → Nat
  | .slice _ _ c => c
  | _ => 0
/-- A slice value, in whatever memory: its elements can be read. -/
structure RdSl {α : Type} (c : Cod α) (I h : Hp) (v : Value) (xs : List α) : Prop where mk ::
  form : ∃ A cap, v = .slice A xs.length cap ∧ xs.length ≤ cap
  cells : ∀ (i : Nat) (x : α), xs[i]? = some x → ∃ A n cap cells t fr, v = .slice (some A) n cap ∧ A.spot = none ∧ h A.block = some (.cells cells t fr) ∧ ∃ cs, Sec cells (A.off + i * c.n) cs ∧ c.rd I cs x
theorem RdSl.mono {α : Type} {c : Cod α} {I J h k : Hp} {v : Value} {xs : List α} (r : RdSl c I h v xs) (hI : I.le J) (hk : h.le k) : RdSl c J k v xs :=
  ⟨r.form, fun i x hx => by
    obtain ⟨A, n, cap, cells, t, fr, e, hs, hh, cs, h1, h2⟩ := r.cells i x hx
    exact ⟨A, n, cap, cells, t, fr, e, hs, hk.out hh, cs, h1, c.mono hI h2⟩⟩
/-- An element with its bounds. -/
def rdx {α : Type} (xs : List α) (i : Int) : Option α := if 0 ≤ i then xs[i.toNat]? else none
theorem rdx_some {α : Type} {xs : List α} {i : Int} {x : α} (h : rdx xs i = some x) : 0 ≤ i ∧ i < xs.length ∧ xs[i.toNat]? = some x := by
  unfold rdx at h
  split at h
  · rename_i h0
    have := (List.getElem?_eq_some_iff.1 h).1
    exact ⟨h0, by omega, h⟩
  · cases h
theorem RdSl.at_ {α : Type} {c : Cod α} {w : World} {I : Hp} {v : Value} {xs : List α} (r : RdSl c I (hp w) v xs) {i : Int} {x : α} (hx : rdx xs i = some x) :
    ∃ cells t fr cs, w.heap[sb v]? = some (.cells cells t fr) ∧ Sec cells (so v + i.toNat * c.n) cs ∧ c.rd I cs x := by
  obtain ⟨A, n, cap, cells, t, fr, rfl, hs, hh, cs, h1, h2⟩ := r.cells _ x (rdx_some hx).2.2
  exact ⟨cells, t, fr, cs, hh, h1, h2⟩
theorem RdSl.nil0 {α : Type} {c : Cod α} {I h : Hp} {A : Option Addr} {k : Nat} : RdSl c I h (.slice A 0 k) [] := ⟨⟨A, k, rfl, Nat.zero_le _⟩, fun i x h => by cases h⟩
/-- What is kept readable by what is owned and known. -/
def Rd {α : Type} (c : Cod α) (I : Hp) (r : List Asn) (v : Value) (xs : List α) : Prop := ∀ J h W : Hp, I.le J → J.le W → h.le W → Sat J r h → RdSl c J W v xs
theorem Rd.of {α : Type} {c : Cod α} {I : Hp} {r : List Asn} {v : Value} {xs : List α} (h : RdSl c I I v xs) : Rd c I r v xs := fun J _ W hJ hW _ _ => h.mono hJ (hJ.le_trans hW)
theorem Rd.nil {α : Type} {c : Cod α} {I : Hp} {r : List Asn} {A : Option Addr} {k : Nat} : Rd c I r (.slice A 0 k) [] := fun _ _ _ _ _ _ _ => ⟨⟨A, k, rfl, Nat.zero_le _⟩, fun i x h => by cases h⟩
theorem Rd.cons {α : Type} {c : Cod α} {I : Hp} {r : List Asn} {A : Asn} {v : Value} {xs : List α} (h : Rd c I r v xs) : Rd c I (A :: r) v xs := fun J g W hJ hW hg s => h J g W hJ hW hg s.drop
theorem Rd.st {α : Type} {c : Cod α} {I : Hp} {r : List Asn} {v : Value} {xs : List α} {z w : World} (h : Rd c I r v xs) (H : St z I w r) : ∃ J, I.le J ∧ J.le (hp w) ∧ RdSl c J (hp w) v xs := by
  obtain ⟨J, g, hJ, hw, d, a, s⟩ := H.own
  exact ⟨J, hJ, hw, h J g (hp w) hJ hw a s⟩
/-- A row that nobody writes any more. -/
def ImR {α : Type} (c : Cod α) (v : Value) (xs : List α) : Asn := Pu (fun J => RdSl c J J v xs) fun hI h => h.mono hI hI
theorem Rd.im {α : Type} {c : Cod α} {I : Hp} {r : List Asn} {v : Value} {xs : List α} (i : Nat) (hi : r[i]? = some (ImR c v xs)) : Rd c I r v xs := fun J g W hJ hW hg s => by
  obtain ⟨_, _, p⟩ := s.mem (List.mem_of_getElem? hi)
  have p : RdSl c J J v xs := p
  exact p.mono (Hp.le_refl _) hW

theorem Sat.im {α : Type} {c : Cod α} {J h : Hp} {r : List Asn} {v : Value} {xs : List α} (s : Sat J r h) (i : Nat) (hi : r[i]? = some (ImR c v xs)) : RdSl c J J v xs := by
  obtain ⟨_, _, p⟩ := s.mem (List.mem_of_getElem? hi)
  exact p
/-- What is kept frozen by what is owned and known. -/
def Imm {α : Type} (c : Cod α) (I : Hp) (r : List Asn) (v : Value) (xs : List α) : Prop := ∀ J h : Hp, I.le J → Sat J r h → RdSl c J J v xs
theorem Imm.of {α : Type} {c : Cod α} {I : Hp} {r : List Asn} {v : Value} {xs : List α} (h : RdSl c I I v xs) : Imm c I r v xs := fun J _ hJ _ => h.mono hJ hJ
theorem Imm.nil {α : Type} {c : Cod α} {I : Hp} {r : List Asn} {A : Option Addr} {k : Nat} : Imm c I r (.slice A 0 k) [] := fun _ _ _ _ => ⟨⟨A, k, rfl, Nat.zero_le _⟩, fun i x h => by cases h⟩
theorem Imm.cons {α : Type} {c : Cod α} {I : Hp} {r : List Asn} {A : Asn} {v : Value} {xs : List α} (h : Imm c I r v xs) : Imm c I (A :: r) v xs := fun J g hJ s => h J g hJ s.drop
theorem Imm.im {α : Type} {c : Cod α} {I : Hp} {r : List Asn} {v : Value} {xs : List α} (i : Nat) (hi : r[i]? = some (ImR c v xs)) : Imm c I r v xs := fun J g hJ s => s.im i hi
theorem St.imm {α : Type} {c : Cod α} {I : Hp} {r : List Asn} {v : Value} {xs : List α} {z w : World} (h : Imm c I r v xs) (H : St z I w r) : St z I w (ImR c v xs :: r) := H.dup fun J g hJ _ _ s => h J g hJ s
/-- A row of one's own: what stands in it from k elements on. -/
def OwnSl {α : Type} (c : Cod α) (v : Value) (xs : List α) : Asn :=
  ⟨fun I h => (xs = [] ∧ ∃ A, v = .slice A 0 0) ∨ ∃ b k cap cells T, v = .slice (some (ad b k)) xs.length cap ∧ xs.length ≤ cap ∧ k + cap * c.n ≤ cells.length ∧ h b = some (.cells (List.toArray cells) T (0, 0)) ∧
      ∀ (i : Nat) (x : α), xs[i]? = some x → ∃ cs, Sec cells.toArray (k + i * c.n) cs ∧ c.rd I cs x,
   fun hI hk p => by
    rcases p with p | ⟨b, k, cap, cells, T, e, h1, h2, h3, h4⟩
    · exact .inl p
    · exact .inr ⟨b, k, cap, cells, T, e, h1, h2, hk.out h3, fun i x hx => let ⟨cs, a, b⟩ := h4 i x hx; ⟨cs, a, c.mono hI b⟩⟩⟩
theorem OwnSl.rdSl {α : Type} {c : Cod α} {v : Value} {xs : List α} {I J h k : Hp} (p : (OwnSl c v xs).p I h) (hI : I.le J) (hh : h.le k) : RdSl c J k v xs := by
  rcases p with ⟨rfl, A, rfl⟩ | ⟨b, o, cap, cells, T, rfl, h1, h2, h3, h4⟩
  · exact ⟨⟨A, 0, rfl, Nat.le_refl _⟩, fun i x hx => by cases hx⟩
  · refine ⟨⟨_, cap, rfl, h1⟩, fun i x hx => ?_⟩
    obtain ⟨cs, a, b'⟩ := h4 i x hx
    exact ⟨ad b o, _, _, _, T, (0, 0), rfl, rfl, hh.out h3, cs, a, c.mono hI b'⟩
section
variable {α : Type} {c : Cod α} {z w : World} {I J : Hp} {r : List Asn} {v : Value} {xs : List α}
theorem Rd.own (i : Nat) (hi : r[i]? = some (OwnSl c v xs)) : Rd c I r v xs := fun J g W hJ hW hg s => by
  obtain ⟨h1, l1, p⟩ := s.mem (List.mem_of_getElem? hi)
  exact OwnSl.rdSl p (Hp.le_refl _) (l1.le_trans hg)
/-- It is handed to all: nobody writes it any more. -/
theorem St.give (H : St z I w (OwnSl c v xs :: r)) : St z I w (ImR c v xs :: r) := H.freeze fun J h1 p J' hJ hh => OwnSl.rdSl p hJ hh
theorem St.imNil (H : St z I w r) (A : Option Addr) (k : Nat) : St z I w (ImR c (.slice A 0 k) [] :: r) := H.dup fun J _ _ _ _ _ => ⟨⟨A, k, rfl, Nat.zero_le _⟩, fun i x h => by cases h⟩
theorem St.nil (H : St z I w r) (A : Option Addr) : St z I w (OwnSl c (.slice A 0 0) [] :: r) := by
  refine (H.shut (k := [])).map fun J h _ s => ?_
  obtain ⟨h1, h2, _, d, a, b, s⟩ := s
  exact ⟨h1, h2, .inl ⟨rfl, A, rfl⟩, d, a, b, s⟩
/-- A block that was just laid is a row. -/
theorem St.row {b T n : Nat} {cs : List Value} (H : St z I w (Bl b T cs :: r)) (hn : cs.length = n * c.n) (hl : xs.length = n) (hx : ∀ J h : Hp, I.le J → Sat J r h → ∀ (i : Nat) (x : α), xs[i]? = some x → ∃ cs', Sec cs.toArray (i * c.n) cs' ∧ c.rd J cs' x) :
    St z I w (OwnSl c (.slice (some (ad b 0)) n n) xs :: r) := by
  refine H.map fun J h hJ s => ?_
  obtain ⟨h1, h2, p, d, a, b', s⟩ := s
  refine ⟨h1, h2, .inr ⟨b, 0, n, cs, T, by rw [hl], by omega, by omega, p, fun i x hi => ?_⟩, d, a, b', s⟩
  obtain ⟨cs', e1, e2⟩ := hx J h2 hJ s i x hi
  exact ⟨cs', by simpa using e1, e2⟩
end

section
variable {P : Program} {α : Type} {c : Cod α} {a : Act} {w z : World} {I : Hp} {N : Nat} {l : List (Nat × Value)} {r : List Asn} {d : Option Nat} {ty : TypeId} {pos : String} {af : Array Edge} {v : Value} {xs : List α}
theorem d_lenS {x : Operand} {t e : TypeId} (ht : P.underlying t = some (.slice e)) (hE : Env a N l) (hx : ev l x = some v) (H : St z I w r) (hr : Rd c I r v xs) :
    Does P ⟨d, .call { callee := .builtin .len, args := #[x], argTypes := #[t] }, ty, pos, af, none⟩ a w (Is (.int .i64 xs.length) w) := by
  obtain ⟨J, _, _, h⟩ := hr.st H
  obtain ⟨A, cap, rfl, _⟩ := h.form
  exact d_len ht hE hx
/-- The address of an element. -/
theorem d_indexS {x y : Operand} {t e : TypeId} {i : Int} {k : IntKind} {u : α} (ht : Slc P t e c.n) (hE : Env a N l) (hx : ev l x = some v) (hy : ev l y = some (.int k i)) (H : St z I w r) (hr : Rd c I r v xs) (hi : rdx xs i = some u) :
    Does P ⟨d, .indexAddr t x y, ty, pos, af, none⟩ a w (Is (.pointer (some (ad (sb v) (so v + i.toNat * c.n)))) w) := by
  obtain ⟨J, _, _, h⟩ := hr.st H
  obtain ⟨h0, h1, h2⟩ := rdx_some hi
  obtain ⟨A, cap, hv, _⟩ := h.form
  obtain ⟨B, n, cap', cells, T, fr, hv', hs, _⟩ := h.cells _ u h2
  have hB : B = ad B.block B.off := by cases B; simp only [ad] at *; subst hs; rfl
  rw [hv] at hv'
  cases hv'
  subst hv
  refine does_value (w' := w) (v := .pointer (some (B.add (i.toNat * c.n)))) ?_ ⟨?_, rfl⟩
  · simp [execOp, hE.ev hx, hE.ev hy, Instr.indexAt, asIntOf, underlying, ht.1, ht.2, h0, h1]
  · rw [hB, ad_add]; simp [sb, so, ad]
/-- An element that fills one cell. -/
theorem d_loadS1 {x : Operand} {t : TypeId} {i : Int} {u : α} {V : Value} (ht : Scal P t) (hE : Env a N l) (hx : ev l x = some (.pointer (some (ad (sb v) (so v + i.toNat * c.n))))) (H : St z I w r) (hr : Rd c I r v xs) (hi : rdx xs i = some u)
    (hc : ∀ J cs, c.rd J cs u → cs = [V]) : Does P ⟨d, .load t x, ty, pos, af, none⟩ a w (Is V w) := by
  obtain ⟨J, hIJ, hJw, h⟩ := hr.st H
  obtain ⟨cells, T, fr, cs, hb, hS, hr⟩ := h.at_ hi
  have hv := hS 0 V (by rw [hc J cs hr]; rfl)
  exact does_value (w' := w) (by simp [execOp, hE.ev hx, Instr.loadAt, Instr.sureAddr, loadVar, (ht w).1, cell_ad hb, show cells[so v + i.toNat * c.n]? = some V from by simpa using hv]) ⟨rfl, rfl⟩
/-- A cell of an element. -/
theorem d_loadSf {x : Operand} {t : TypeId} {i : Int} {u : α} {V : Value} {j : Nat} (ht : Scal P t) (hE : Env a N l) (hx : ev l x = some (.pointer (some (ad (sb v) (so v + i.toNat * c.n + j))))) (H : St z I w r) (hr : Rd c I r v xs) (hi : rdx xs i = some u)
    (hc : ∀ J cs, c.rd J cs u → cs[j]? = some V) : Does P ⟨d, .load t x, ty, pos, af, none⟩ a w (Is V w) := by
  obtain ⟨J, hIJ, hJw, h⟩ := hr.st H
  obtain ⟨cells, T, fr, cs, hb, hS, hr⟩ := h.at_ hi
  have hv := hS j V (hc J cs hr)
  exact does_value (w' := w) (by simp [execOp, hE.ev hx, Instr.loadAt, Instr.sureAddr, loadVar, (ht w).1, cell_ad hb, hv]) ⟨rfl, rfl⟩
/-- A whole element of several cells. -/
theorem d_loadSA {x : Operand} {t n : TypeId} {i : Int} {u : α} {vs : List Value} (ht : Aggr P t n) (hn : c.n = n) (hE : Env a N l) (hx : ev l x = some (.pointer (some (ad (sb v) (so v + i.toNat * c.n))))) (H : St z I w r) (hr : Rd c I r v xs) (hi : rdx xs i = some u)
    (hc : ∀ J cs, c.rd J cs u → cs = vs) : Does P ⟨d, .load t x, ty, pos, af, none⟩ a w (Is (.agg vs.toArray) w) := by
  obtain ⟨J, hIJ, hJw, h⟩ := hr.st H
  obtain ⟨cells, T, fr, cs, hb, hS, hr⟩ := h.at_ hi
  have hl := c.len hr
  obtain rfl := hc J cs hr
  have hr' := run_loadCells (P := P) hb n (so v + i.toNat * c.n) 0 cs #[] (by rw [← hn]; exact hl) (fun j V hj => by simpa using hS j V hj)
  exact does_value (w' := w) (by simp [execOp, hE.ev hx, Instr.loadAt, Instr.sureAddr, loadVar, (ht w).1, (ht w).2, loadCells, hr']) ⟨rfl, rfl⟩
/-- The same where the cells are not told by the element alone: what is known for good of them comes into the list. -/
def Enc {α : Type} (c : Cod α) (cs : List Value) (x : α) : Asn := Pu (fun J => c.rd J cs x) fun hI h => c.mono hI h
theorem d_loadSR {x : Operand} {t n : TypeId} {i : Int} {u : α} (ht : Aggr P t n) (hn : c.n = n) (hE : Env a N l) (hx : ev l x = some (.pointer (some (ad (sb v) (so v + i.toNat * c.n))))) (H : St z I w r) (hr : Rd c I r v xs) (hi : rdx xs i = some u) :
    Does P ⟨d, .load t x, ty, pos, af, none⟩ a w (fun V w' => ∃ cs, V = .agg (List.toArray cs) ∧ St z I w' (Enc c cs u :: r)) := by
  obtain ⟨J, hh, hIJ, hJw, dj, hhw, s⟩ := H.own
  have h := hr J hh (hp w) hIJ hJw hhw s
  obtain ⟨cells, T, fr, cs, hb, hS, hr⟩ := h.at_ hi
  have hl := c.len hr
  have hr' := run_loadCells (P := P) hb n (so v + i.toNat * c.n) 0 cs #[] (by rw [← hn]; exact hl) (fun j V hj => by simpa using hS j V hj)
  exact does_value (w' := w) (by simp [execOp, hE.ev hx, Instr.loadAt, Instr.sureAddr, loadVar, (ht w).1, (ht w).2, loadCells, hr']) ⟨cs, rfl, H.os, H.tape, H.output, H.dr, J, hh, hIJ, hJw, dj, hhw, fun _ => none, hh, hr, fun _ => .inl rfl, Hp.le_nil _, Hp.le_refl _, s⟩
theorem d_loadSfR {x : Operand} {t : TypeId} {i : Int} {u : α} {j : Nat} {Q : Value → Asn} (ht : Scal P t) (hE : Env a N l) (hx : ev l x = some (.pointer (some (ad (sb v) (so v + i.toNat * c.n + j))))) (H : St z I w r) (hr : Rd c I r v xs) (hi : rdx xs i = some u)
    (hc : ∀ J cs, c.rd J cs u → ∃ V, cs[j]? = some V ∧ (Q V).p J (fun _ => none)) : Does P ⟨d, .load t x, ty, pos, af, none⟩ a w (fun V w' => St z I w' (Q V :: r)) := by
  obtain ⟨J, hh, hIJ, hJw, dj, hhw, s⟩ := H.own
  have h := hr J hh (hp w) hIJ hJw hhw s
  obtain ⟨cells, T, fr, cs, hb, hS, hr⟩ := h.at_ hi
  obtain ⟨V, hV, hQ⟩ := hc J cs hr
  have hv := hS j V hV
  exact does_value (w' := w) (by simp [execOp, hE.ev hx, Instr.loadAt, Instr.sureAddr, loadVar, (ht w).1, cell_ad hb, hv]) ⟨H.os, H.tape, H.output, H.dr, J, hh, hIJ, hJw, dj, hhw, fun _ => none, hh, hQ, fun _ => .inl rfl, Hp.le_nil _, Hp.le_refl _, s⟩
theorem d_loadS1R {x : Operand} {t : TypeId} {i : Int} {u : α} {Q : Value → Asn} (ht : Scal P t) (hE : Env a N l) (hx : ev l x = some (.pointer (some (ad (sb v) (so v + i.toNat * c.n))))) (H : St z I w r) (hr : Rd c I r v xs) (hi : rdx xs i = some u)
    (hc : ∀ J cs, c.rd J cs u → ∃ V, cs[0]? = some V ∧ (Q V).p J (fun _ => none)) : Does P ⟨d, .load t x, ty, pos, af, none⟩ a w (fun V w' => St z I w' (Q V :: r)) := d_loadSfR (j := 0) ht hE hx H hr hi hc
/-- A row of rows. -/
def cSl {α : Type} (c : Cod α) : Cod (List α) where
  n := 1
  rd := fun I cs xs => ∃ v, cs = [v] ∧ RdSl c I I v xs
  mono := fun hI ⟨v, e, h⟩ => ⟨v, e, h.mono hI hI⟩
  len := fun ⟨v, e, _⟩ => by rw [e]; rfl
  one := fun ⟨v, e, h⟩ u hu => by
    obtain ⟨A, k, hv, _⟩ := h.form
    rw [e] at hu; simp at hu; subst hu; rw [hv]; rfl
end

/-- append, as long as it fits memory. -/
def appd {α : Type} (N : Nat) (xs ys : List α) : Option (List α) := if xs.length + ys.length ≤ N then some (xs ++ ys) else none
theorem appd_some {α : Type} {N : Nat} {xs ys r : List α} (h : appd N xs ys = some r) : r = xs ++ ys ∧ xs.length + ys.length ≤ N := by
  unfold appd at h
  split at h
  · cases h; exact ⟨rfl, by assumption⟩
  · cases h
end Go.Proofs.Ytbielnhpfbhkgaa
