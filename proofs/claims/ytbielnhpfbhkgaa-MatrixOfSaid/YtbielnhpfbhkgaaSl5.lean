/- append, make, cuts and stores of slices. -/
import Derived.Test.YtbielnhpfbhkgaaSl4
import Derived.WalkKit
set_option linter.unusedVariables false
set_option linter.unusedSimpArgs false
namespace Go.Proofs.Ytbielnhpfbhkgaa
open Go

/-- What append asks of the element's type. -/
structure Elt (P : Program) (t e : TypeId) (n bytes : Nat) : Prop where mk ::
  ut : P.underlying t = some (.slice e)
  info : (P.info? e).map (fun i => (i.zero.map fun z => z.cells.size, i.size, i.bytes)) = some (some n, n, bytes)
  pos : 0 < n
theorem Elt.parts {P : Program} {t e : TypeId} {n bytes : Nat} (h : Elt P t e n bytes) : ∃ i z, P.info? e = some i ∧ i.zero = some z ∧ i.size = n ∧ i.bytes = bytes ∧ z.cells.size = n := by
  obtain ⟨i, hi, e⟩ := Option.map_eq_some_iff.1 h.info
  simp only [Prod.mk.injEq] at e
  obtain ⟨z, hz, e1⟩ := Option.map_eq_some_iff.1 e.1
  exact ⟨i, z, hi, hz, e.2.1, e.2.2, e1⟩
theorem Sec.all (cs : List Value) : Sec cs.toArray 0 cs := fun j v h => by simpa using h
theorem sec_append {xs ys : List Value} {k : Nat} {cs : List Value} (h : Sec ys.toArray k cs) : Sec (xs ++ ys).toArray (xs.length + k) cs := fun j v hv => by
  have := h j v hv
  simp only [List.getElem?_toArray] at this ⊢
  rw [Nat.add_assoc, List.getElem?_append_right (by omega)]
  simpa using this
theorem sec_left {xs ys : List Value} {k : Nat} {cs : List Value} (h : Sec xs.toArray k cs) : Sec (xs ++ ys).toArray k cs := fun j v hv => by
  have := h j v hv
  simp only [List.getElem?_toArray] at this ⊢
  rw [List.getElem?_append_left (List.getElem?_eq_some_iff.1 this).1]; exact this
theorem setL_get : ∀ (vs cs : List Value) (k i : Nat), k + vs.length ≤ cs.length → (setL cs k vs)[i]? = if k ≤ i ∧ i < k + vs.length then vs[i - k]? else cs[i]?
  | [], cs, k, i, _ => by
    rw [setL_nil, if_neg (by simp only [List.length_nil]; omega)]
  | v :: vs, [], k, i, h => by simp at h
  | v :: vs, c :: cs, 0, 0, h => by simp [setL]
  | v :: vs, c :: cs, 0, i + 1, h => by
    have := setL_get vs cs 0 i (by simp at h ⊢; omega)
    simp only [setL, List.getElem?_cons_succ, this, Nat.zero_add, Nat.zero_le, true_and, Nat.sub_zero, List.length_cons, Nat.add_lt_add_iff_right]
  | v :: vs, c :: cs, k + 1, 0, h => by simp [setL]
  | v :: vs, c :: cs, k + 1, i + 1, h => by
    have := setL_get (v :: vs) cs k i (by simp at h ⊢; omega)
    simp only [setL, List.getElem?_cons_succ, this]
    by_cases hc : k ≤ i ∧ i < k + (v :: vs).length
    · rw [if_pos hc, if_pos (by omega)]; congr 1; omega
    · rw [if_neg hc, if_neg (by omega)]

section
variable {P : Program} {α : Type} {c : Cod α} {a : Act} {w z : World} {I : Hp} {N : Nat} {l : List (Nat × Value)} {r : List Asn} {d : Option Nat} {ty : TypeId} {pos : String} {af : Array Edge} {v : Value} {xs ys : List α}
/-- An owned row, as cells in the order of the elements. -/
theorem flat_of {cells : Array Value} {k : Nat} (hx : ∀ (i : Nat) (x : α), xs[i]? = some x → ∃ cs, Sec cells (k + i * c.n) cs ∧ c.rd I cs x) : ∃ fl : List Value, fl.length = xs.length * c.n ∧ (∀ j u, fl[j]? = some u → cells[k + j]? = some u) ∧
    (∀ u ∈ fl, u.oneCell' = true) ∧ ∀ (i : Nat) (x : α), xs[i]? = some x → ∃ cs, Sec fl.toArray (i * c.n) cs ∧ c.rd I cs x := by
  induction xs generalizing k with
  | nil => exact ⟨[], by simp, fun j u h => by simp at h, fun u h => (by cases h), fun i x h => by simp at h⟩
  | cons x xs ih =>
    obtain ⟨cs, h1, h2⟩ := hx 0 x rfl
    obtain ⟨fl, f1, f2, f4, f3⟩ := ih (k := k + c.n) (fun i y hy => by
      obtain ⟨cs, a, b⟩ := hx (i + 1) y (by simpa using hy)
      refine ⟨cs, ?_, b⟩
      rw [show k + c.n + i * c.n = k + (i + 1) * c.n from by rw [Nat.add_mul]; omega]; exact a)
    have hl := c.len h2
    refine ⟨cs ++ fl, by simp [f1, hl, Nat.add_mul]; omega, fun j u hu => ?_, fun u hu => ?_, fun i y hy => ?_⟩
    · rcases Nat.lt_or_ge j cs.length with hj | hj
      · rw [List.getElem?_append_left hj] at hu
        simpa using h1 j u hu
      · rw [List.getElem?_append_right hj] at hu
        have := f2 _ u hu
        rw [show k + c.n + (j - cs.length) = k + j from by omega] at this; exact this
    · rcases List.mem_append.1 hu with hu | hu
      · exact c.one h2 u hu
      · exact f4 u hu
    · cases i with
      | zero => simp at hy; subst hy; exact ⟨cs, by simpa using sec_left (Sec.all cs), h2⟩
      | succ i =>
        obtain ⟨cs', a, b⟩ := f3 i y (by simpa using hy)
        refine ⟨cs', ?_, b⟩
        have := sec_append (xs := cs) a
        rw [show (i + 1) * c.n = cs.length + i * c.n from by rw [hl, Nat.add_mul]; omega]; exact this
theorem own_cat {fl gl : List Value} (hf : fl.length = xs.length * c.n) (h1 : ∀ (i : Nat) (x : α), xs[i]? = some x → ∃ cs, Sec fl.toArray (i * c.n) cs ∧ c.rd I cs x) (h2 : ∀ (i : Nat) (x : α), ys[i]? = some x → ∃ cs, Sec gl.toArray (i * c.n) cs ∧ c.rd I cs x) :
    ∀ (i : Nat) (x : α), (xs ++ ys)[i]? = some x → ∃ cs, Sec (fl ++ gl).toArray (i * c.n) cs ∧ c.rd I cs x := fun i x hx => by
  rcases Nat.lt_or_ge i xs.length with hi | hi
  · rw [List.getElem?_append_left hi] at hx
    obtain ⟨cs, a, b⟩ := h1 i x hx
    exact ⟨cs, sec_left a, b⟩
  · rw [List.getElem?_append_right hi] at hx
    obtain ⟨cs, a, b⟩ := h2 _ x hx
    refine ⟨cs, ?_, b⟩
    have := sec_append (xs := fl) a
    rw [show i * c.n = fl.length + (i - xs.length) * c.n from by rw [hf, ← Nat.add_mul]; congr 1; omega]; exact this

/-- What is known for good of the elements that lie in cells from k on. -/
def Rws {α : Type} (c : Cod α) (cells : List Value) (k : Nat) (xs : List α) : Asn := Pu (fun J => ∀ (i : Nat) (x : α), xs[i]? = some x → ∃ cs, Sec cells.toArray (k + i * c.n) cs ∧ c.rd J cs x) fun hI h i x hx => let ⟨cs, a, b⟩ := h i x hx; ⟨cs, a, c.mono hI b⟩
theorem St.own_cases (H : St z I w (OwnSl c v xs :: r)) : (xs = [] ∧ ∃ A, v = .slice A 0 0) ∨ ∃ b k cap cells T, v = .slice (some (ad b k)) xs.length cap ∧ xs.length ≤ cap ∧ k + cap * c.n ≤ cells.length ∧
      St z I w (Bl b T cells :: Rws c cells k xs :: r) := by
  obtain ⟨J, h, iJ, jw, d, a, h1, h2, p, dd, l1, l2, s⟩ := H.own
  rcases p with p | ⟨b, k, cap, cells, T, hv, p1, p2, p3, p4⟩
  · exact .inl p
  · exact .inr ⟨b, k, cap, cells, T, hv, p1, p2, H.os, H.tape, H.output, H.dr, J, h, iJ, jw, d, a, h1, h2, p3, dd, l1, l2, fun _ => none, h2, p4, fun _ => .inl rfl, Hp.le_nil _, Hp.le_refl _, s⟩
theorem St.own_intro {b k cap : Nat} {cells : List Value} {T : TypeId} (hv : v = .slice (some (ad b k)) xs.length cap) (p1 : xs.length ≤ cap) (p2 : k + cap * c.n ≤ cells.length)
    (H : St z I w (Bl b T cells :: Rws c cells k xs :: r)) : St z I w (OwnSl c v xs :: r) := by
  refine H.map fun J h _ s => ?_
  obtain ⟨h1, h2, p, d, a, b', s⟩ := s
  have p4 : ∀ (i : Nat) (x : α), xs[i]? = some x → ∃ cs, Sec cells.toArray (k + i * c.n) cs ∧ c.rd J cs x := s.pu.1
  exact ⟨h1, h2, .inr ⟨b, k, cap, cells, T, hv, p1, p2, p, p4⟩, d, a, b', s.drop⟩
/-- What is known for good turns into what follows of it. -/
theorem St.pu_map {p q : Hp → Prop} {m n} (H : St z I w (Pu p m :: r)) (f : ∀ J : Hp, I.le J → p J → q J) : St z I w (Pu q n :: r) := H.map fun J h i s => s.drop.pu_intro (f J i s.pu.1)
theorem St.pu_map2 {p q u : Hp → Prop} {m n o} (H : St z I w (Pu p m :: Pu q n :: r)) (f : ∀ J : Hp, I.le J → p J → q J → u J) : St z I w (Pu u o :: r) := H.map fun J h i s => s.drop.drop.pu_intro (f J i s.pu.1 s.drop.pu.1)
theorem St.pu_map1 {p q : Hp → Prop} {m n} {A : Asn} (H : St z I w (A :: Pu p m :: r)) (f : ∀ J : Hp, I.le J → p J → q J) : St z I w (A :: Pu q n :: r) := ((H.get 1 rfl).pu_map (q := q) (n := n) f).get 1 rfl
theorem sec_fl {fl cells : List Value} {k n i : Nat} {cs : List Value} (hl : cs.length = n) (h : Sec cells.toArray (k + i * n) cs) (hf : ∀ j u, fl[j]? = some u → cells[k + j]? = some u) (hlt : (i + 1) * n ≤ fl.length) : Sec fl.toArray (0 + i * n) cs := fun j u hu => by
  have h1 := h j u hu
  have hj : j < n := by rw [← hl]; exact (List.getElem?_eq_some_iff.1 hu).1
  rw [Nat.add_mul] at hlt
  have hx : 0 + i * n + j < fl.length := by omega
  have h2 := hf (0 + i * n + j) fl[0 + i * n + j] (by simp)
  simp only [List.getElem?_toArray] at h1 ⊢
  rw [show k + (0 + i * n + j) = k + i * n + j by omega, h1] at h2
  rw [List.getElem?_eq_getElem hx, ← h2]
theorem St.rows_flat {cells : List Value} {k : Nat} (H : St z I w (Rws c cells k xs :: r)) : ∃ fl : List Value, fl.length = xs.length * c.n ∧ (∀ j u, fl[j]? = some u → cells[k + j]? = some u) ∧ (∀ u ∈ fl, u.oneCell' = true) ∧ St z I w (Rws c fl 0 xs :: r) := by
  obtain ⟨⟨J, iJ, jw, hx⟩, _⟩ := H.pu
  obtain ⟨fl, f1, f2, f4, _⟩ := flat_of (c := c) (I := J) (xs := xs) (cells := cells.toArray) (k := k) hx
  have f2' : ∀ j u, fl[j]? = some u → cells[k + j]? = some u := fun j u hj => by simpa using f2 j u hj
  refine ⟨fl, f1, f2', f4, H.pu_map fun J' _ h i x hi => ?_⟩
  obtain ⟨cs, a, b⟩ := h i x hi
  refine ⟨cs, sec_fl (c.len b) a f2' ?_, b⟩
  rw [f1]; exact Nat.mul_le_mul_right _ (List.getElem?_eq_some_iff.1 hi).1
theorem St.own_nil {A : Option Addr} (hv : v = .slice A 0 0) (hx : xs = []) (H : St z I w r) : St z I w (OwnSl c v xs :: r) := by subst hv hx; exact H.nil A
theorem run_grow {t e : TypeId} {i : TypeInfo} {zv : Value} (ht : P.underlying t = some (.slice e)) (hi : P.info? e = some i) (hz : i.zero = some zv) {A B : Option Addr} {m cp sLen sCap : Nat} {olds gl : List Value}
    (hg : sCap < sLen + m) (h63 : ((sLen + m : Nat) : Int) ≤ 9223372036854775807) (hfit : Builtin.nextslicecap (sLen + m) sCap * i.bytes ≤ 281474976710656)
    (hfo : (Builtin.firstCells i.size sLen (.slice B sLen sCap)).run P w.drew = .ok olds.toArray w.drew) (hfc : (Builtin.firstCells i.size m (.slice A m cp)).run P w.drew = .ok gl.toArray w.drew) :
    (Builtin.append_ #[t, t] ty #[.slice B sLen sCap, .slice A m cp]).run P w = .ok (.slice (some (ad w.heap.size 0)) (sLen + m) (grownCap w (sLen + m) sCap e))
      (w.drew.alloc (.cells (olds.toArray ++ gl.toArray ++ Builtin.zeroCells zv.cells (grownCap w (sLen + m) sCap e - (sLen + m))) e)) := by
  have hn : ¬ (sLen + m ≤ sCap) := by omega
  have h63' : ¬ (9223372036854775807 < ((sLen : Int) + (m : Int))) := by omega
  have h48' : ¬ (281474976710656 < Builtin.nextslicecap (sLen + m) sCap * i.bytes) := by omega
  simp [Builtin.append_, run_underlying ht, sizeOf, typeInfo, zeroValue, hi, hz, Builtin.lenOf, hn, h63', h48', Question.forced, hfc, hfo, newRow, grownCap]
  refine ⟨rfl, ?_⟩
  congr 2
  apply Array.ext'
  simp [List.append_assoc]
/-- append onto a row of one's own. -/
theorem app_core {t e bytes : Nat} (hT : Elt P t e c.n bytes) {A : Option Addr} {m cp : Nat} {gl : List Value} (H : St z I w (OwnSl c v xs :: Rws c gl 0 ys :: r)) (hm : ys.length = m) (hgl : gl.length = m * c.n) (h1 : ∀ u ∈ gl, u.oneCell' = true)
    (hA : A = none → m = 0) (hcell : ∀ p, A = some p → ∀ j u, gl[j]? = some u → w.cell? (p.add j) = some u)
    (hb : (xs.length + m) * bytes ≤ 140737488355328) (hb0 : xs.length + m ≤ 140737488355328) :
    ∃ v' w', (Builtin.append_ #[t, t] ty #[v, .slice A m cp]).run P w = .ok v' w' ∧ St z I w' (OwnSl c v' (xs ++ ys) :: r) := by
  obtain ⟨i, zv, hi, hz, hs, hby, hzs⟩ := hT.parts
  have ht := hT.ut
  have hpos := hT.pos
  have hfcw : ∀ w1 : World, w1.heap = w.heap → (Builtin.firstCells i.size m (.slice A m cp)).run P w1 = .ok gl.toArray w1 := by
    intro w1 hw
    cases A with
    | none =>
      have h0 := hA rfl; subst h0
      obtain rfl : gl = [] := List.eq_nil_of_length_eq_zero (by simpa using hgl)
      rfl
    | some p => exact run_firstCells_some (P := P) w1 i.size m p m cp gl (by rw [hs]; exact hgl) (fun j u hu => by
        have := hcell p rfl j u hu
        simp only [World.cell?, hw] at this ⊢; exact this)
  have hfc := hfcw w rfl
  -- the whole goes into a new row
  have grow : ∀ (B : Option Addr) (old : Nat) (fl : List Value), v = .slice B xs.length old → old < xs.length + m → fl.length = xs.length * c.n → St z I w (Rws c fl 0 xs :: Rws c gl 0 ys :: r) →
      (Builtin.firstCells i.size xs.length (.slice B xs.length old)).run P w.drew = .ok fl.toArray w.drew →
      ∃ v' w', (Builtin.append_ #[t, t] ty #[v, .slice A m cp]).run P w = .ok v' w' ∧ St z I w' (OwnSl c v' (xs ++ ys) :: r) := by
    intro B old fl hv hlt hfl HR hfo
    subst hv
    refine ⟨_, _, run_grow ht hi hz hlt (by omega) (growslice_fits hlt (by rw [hby]; exact hb)) hfo (hfcw w.drew rfl), ?_⟩
    have H1 : St z I w.drew (Rws c fl 0 xs :: Rws c gl 0 ys :: r) := HR.drawn _ (Nat.le_succ _)
    have hge := grownCap_ge w (xs.length + m) old e
    have H2 : St z I w.drew (Rws c ((fl ++ gl) ++ (Builtin.zeroCells zv.cells (grownCap w (xs.length + m) old e - (xs.length + m))).toList) 0 (xs ++ ys) :: r) := H1.pu_map2 fun J _ hx hy j x hj => by
      obtain ⟨cs, a1, a2⟩ := own_cat (I := J) hfl (fun i x hi => by simpa using hx i x hi) (fun i x hi => by simpa using hy i x hi) j x hj
      exact ⟨cs, by rw [Nat.zero_add]; exact sec_left a1, a2⟩
    have H3 := H2.alloc (.cells (fl.toArray ++ gl.toArray ++ Builtin.zeroCells zv.cells (grownCap w (xs.length + m) old e - (xs.length + m))) e)
    refine St.own_intro (b := w.heap.size) (k := 0) (cap := grownCap w (xs.length + m) old e) (cells := (fl ++ gl) ++ (Builtin.zeroCells zv.cells (grownCap w (xs.length + m) old e - (xs.length + m))).toList) (T := e) (by simp [hm]) (by simp [hm]; exact hge) ?_ ?_
    · simp only [List.length_append, Array.length_toList, size_zeroCells, hzs, hfl, hgl, ← Nat.add_mul]
      rw [Nat.zero_add]
      refine Nat.le_of_eq ?_
      congr 1; omega
    · have he : (fl.toArray ++ gl.toArray ++ Builtin.zeroCells zv.cells (grownCap w (xs.length + m) old e - (xs.length + m))) = (List.toArray ((fl ++ gl) ++ (Builtin.zeroCells zv.cells (grownCap w (xs.length + m) old e - (xs.length + m))).toList)) := by
        apply Array.ext'; simp
      rw [he] at H3 ⊢
      exact H3
  rcases H.own_cases with ⟨rfl, B, rfl⟩ | ⟨b, k, cap, cells, T, hv, p1, p2, H1⟩
  · -- nothing is there
    by_cases hm0 : m = 0
    · subst hm0
      obtain rfl : ys = [] := List.eq_nil_of_length_eq_zero hm
      obtain rfl : gl = [] := List.eq_nil_of_length_eq_zero (by simpa using hgl)
      refine ⟨.slice B 0 0, w, ?_, H.del 1⟩
      cases B with
      | none => simp [Builtin.append_, run_underlying ht, sizeOf, typeInfo, hi, Builtin.lenOf, hfc]
      | some B => simp [Builtin.append_, run_underlying ht, sizeOf, typeInfo, hi, Builtin.lenOf, hfc, storeCells]
    · refine grow B 0 [] rfl (by simp; omega) (by simp) (St.pu_intro (fun i x h => by cases h) H.drop) ?_
      cases B <;> simp [Builtin.firstCells, loadCells, loadCellsFrom]
  · have hblk : w.heap[b]? = some (.cells cells.toArray T (0, 0)) := H1.ob 0 rfl
    by_cases hroom : xs.length + m ≤ cap
    · subst hv
      have hmul : (xs.length + m) * c.n ≤ cap * c.n := Nat.mul_le_mul_right _ hroom
      rw [Nat.add_mul] at hmul
      have hfit : k + xs.length * c.n + gl.length ≤ cells.length := by rw [hgl]; omega
      obtain ⟨w', hr, e1, e2, e3, e5, e4⟩ := run_storeCells (P := P) gl (k + xs.length * c.n) 0 hblk (by omega) h1
      rw [hs] at hfc
      refine ⟨.slice (some (ad b k)) (xs.length + m) cap, w', ?_, ?_⟩
      · simp [Builtin.append_, run_underlying ht, sizeOf, typeInfo, hi, Builtin.lenOf, hroom, ad_add, hs, hfc, hr]
      · have H2 := H1.put _ e1 e2 e3 (Nat.le_of_eq e5.symm) e4
        simp only [Nat.add_zero] at H2
        refine St.own_intro (b := b) (k := k) (cap := cap) (cells := setL cells (k + xs.length * c.n) gl) (T := T) (by simp [hm]) (by simp [hm]; exact hroom) (by rw [setL_length]; exact p2) ?_
        have H3 : St z I w' (Rws c (setL cells (k + xs.length * c.n) gl) k (xs ++ ys) :: Bl b T (setL cells (k + xs.length * c.n) gl) :: r) := by
          have H2' : St z I w' (Rws c cells k xs :: Rws c gl 0 ys :: Bl b T (setL cells (k + xs.length * c.n) gl) :: r) := (H2.get 2 rfl).get 2 rfl
          refine H2'.pu_map2 fun J _ hx hy i x hxy => ?_
          rcases Nat.lt_or_ge i xs.length with hix | hix
          · rw [List.getElem?_append_left hix] at hxy
            obtain ⟨cs, a1, a2⟩ := hx i x hxy
            refine ⟨cs, fun j u hu => ?_, a2⟩
            have hj : j < c.n := by rw [← c.len a2]; exact (List.getElem?_eq_some_iff.1 hu).1
            have hlt : k + i * c.n + j < k + xs.length * c.n := by
              have : (i + 1) * c.n ≤ xs.length * c.n := Nat.mul_le_mul_right _ hix
              rw [Nat.add_mul] at this; omega
            have := a1 j u hu
            simp only [List.getElem?_toArray] at this ⊢
            rw [setL_get _ _ _ _ hfit, if_neg (by omega)]; exact this
          · rw [List.getElem?_append_right hix] at hxy
            obtain ⟨cs, a1, a2⟩ := hy _ x hxy
            refine ⟨cs, fun j u hu => ?_, a2⟩
            have := a1 j u hu
            simp only [List.getElem?_toArray] at this ⊢
            have hlt := (List.getElem?_eq_some_iff.1 this).1
            have he : i * c.n = xs.length * c.n + (i - xs.length) * c.n := by rw [← Nat.add_mul]; congr 1; omega
            rw [setL_get _ _ _ _ hfit, if_pos (by omega), ← this]
            congr 1; omega
        exact H3.get 1 rfl
    · have HR : St z I w (Rws c cells k xs :: Rws c gl 0 ys :: r) := H1.drop
      obtain ⟨fl, f1, f2, f4, HF⟩ := HR.rows_flat
      exact grow (some (ad b k)) cap fl hv (by omega) f1 HF (run_firstCells_some (P := P) w.drew i.size xs.length (ad b k) xs.length cap fl (by rw [hs]; exact f1) (fun j u hu => by
        rw [ad_add, World.cell?_drew, cell_ad hblk]; simpa using f2 j u hu))
/-- append(out, x, ..): what is appended lies in a row of one's own. -/
theorem d_appendO {t e bytes lim : Nat} {x y : Operand} {u : Value} {res : List α} (hT : Elt P t e c.n bytes) (hlim : lim * bytes ≤ 140737488355328) (hl0 : lim ≤ 140737488355328) (hE : Env a N l) (hx : ev l x = some v) (hy : ev l y = some u)
    (H : St z I w (OwnSl c v xs :: OwnSl c u ys :: r)) (ha : appd lim xs ys = some res) :
    Does P ⟨d, .call { callee := .builtin .append, args := #[x, y], argTypes := #[t, t] }, ty, pos, af, none⟩ a w (fun v' w' => St z I w' (OwnSl c v' res :: r)) := by
  obtain ⟨rfl, hle⟩ := appd_some ha
  have hbm : (xs.length + ys.length) * bytes ≤ lim * bytes := Nat.mul_le_mul_right _ (by omega)
  rcases (H.get 1 rfl).own_cases with ⟨rfl, B, rfl⟩ | ⟨b, k, cap, cells, T, rfl, p1, p2, H1⟩
  · have H0 : St z I w (OwnSl c v xs :: Rws c [] 0 ([] : List α) :: r) := (St.pu_intro (fun i x h => by cases h) (H.get 1 rfl).drop).get 1 rfl
    obtain ⟨v', w', hr, H'⟩ := app_core (ty := ty) (P := P) (A := B) (cp := 0) (gl := []) (ys := ([] : List α)) hT H0 rfl (by simp) (fun _ h => by cases h) (fun _ => rfl) (fun p hp j u hj => by cases hj) (by simpa using Nat.le_trans hbm hlim) (by simp at hle ⊢; omega)
    have hr : (Builtin.append_ #[t, t] ty #[v, .slice B 0 0]).run P w = .ok v' w' := hr
    exact does_value (w' := w') (by simp [execOp, resolve, invoke, builtin, hE.ev hx, hE.ev hy, hr]) H'
  · have hb : w.heap[b]? = some (.cells cells.toArray T (0, 0)) := H1.ob 0 rfl
    have HR : St z I w (Rws c cells k ys :: OwnSl c v xs :: r) := H1.drop
    obtain ⟨fl, f1, f2, f4, HF⟩ := HR.rows_flat
    obtain ⟨v', w', hr, H'⟩ := app_core (ty := ty) (P := P) (A := some (ad b k)) (cp := cap) hT (HF.get 1 rfl) rfl f1 f4 (fun h => by cases h) (fun p hp j u hj => by cases hp; rw [ad_add, cell_ad hb]; simpa using f2 j u hj) (by omega) (by omega)
    exact does_value (w' := w') (by simp [execOp, resolve, invoke, builtin, hE.ev hx, hE.ev hy, hr]) H'
/-- append(out, xs...): xs is read. -/
theorem d_appendS {t e bytes lim : Nat} {x y : Operand} {u : Value} {res : List α} (hT : Elt P t e c.n bytes) (hlim : lim * bytes ≤ 140737488355328) (hl0 : lim ≤ 140737488355328) (hE : Env a N l) (hx : ev l x = some v) (hy : ev l y = some u)
    (H : St z I w (OwnSl c v xs :: r)) (hu : Rd c I (OwnSl c v xs :: r) u ys) (ha : appd lim xs ys = some res) :
    Does P ⟨d, .call { callee := .builtin .append, args := #[x, y], argTypes := #[t, t] }, ty, pos, af, none⟩ a w (fun v' w' => St z I w' (OwnSl c v' res :: r)) := by
  obtain ⟨rfl, hle⟩ := appd_some ha
  have hbm : (xs.length + ys.length) * bytes ≤ lim * bytes := Nat.mul_le_mul_right _ (by omega)
  obtain ⟨J0, _, _, hu0⟩ := hu.st H
  obtain ⟨A, cp, rfl, _⟩ := hu0.form
  by_cases h0 : ys = []
  · subst h0
    have H0 : St z I w (OwnSl c v xs :: Rws c [] 0 ([] : List α) :: r) := (St.pu_intro (fun i x h => by cases h) H).get 1 rfl
    cases A with
    | none =>
      obtain ⟨v', w', hr, H'⟩ := app_core (ty := ty) (P := P) (A := none) (cp := cp) (gl := []) (ys := ([] : List α)) hT H0 rfl (by simp) (fun _ h => by cases h) (fun _ => rfl) (fun p hp => by cases hp) (by simpa using Nat.le_trans hbm hlim) (by simp at hle ⊢; omega)
      exact does_value (w' := w') (by
        have hr : (Builtin.append_ #[t, t] ty #[v, .slice _ 0 cp]).run P w = .ok v' w' := hr
        simp [execOp, resolve, invoke, builtin, hE.ev hx, hE.ev hy, hr]) H'
    | some p =>
      obtain ⟨v', w', hr, H'⟩ := app_core (ty := ty) (P := P) (A := some p) (cp := cp) (gl := []) (ys := ([] : List α)) hT H0 rfl (by simp) (fun _ h => by cases h) (fun _ => rfl) (fun p hp j u hj => by cases hj) (by simpa using Nat.le_trans hbm hlim) (by simp at hle ⊢; omega)
      exact does_value (w' := w') (by
        have hr : (Builtin.append_ #[t, t] ty #[v, .slice _ 0 cp]).run P w = .ok v' w' := hr
        simp [execOp, resolve, invoke, builtin, hE.ev hx, hE.ev hy, hr]) H'
  · obtain ⟨y0, hy0⟩ : ∃ y0, ys[0]? = some y0 := by cases ys with | nil => exact absurd rfl h0 | cons y _ => exact ⟨y, rfl⟩
    obtain ⟨B, n, cap, cells, T, fr, hv, hsp, hh, _⟩ := hu0.cells 0 y0 hy0
    cases hv
    have hB : B = ad B.block B.off := by cases B; simp only [ad] at *; subst hsp; rfl
    have rows : ∀ J : Hp, RdSl c J (hp w) (.slice (some B) ys.length cp) ys → ∀ (i : Nat) (x : α), ys[i]? = some x → ∃ cs, Sec cells (B.off + i * c.n) cs ∧ c.rd J cs x := fun J h i x hi => by
      obtain ⟨B', n', cap', cells', T', fr', hv', hsp', hh', h⟩ := h.cells i x hi
      cases hv'
      rw [hh] at hh'; cases hh'; exact h
    obtain ⟨fl, f1, f2, f4, f3⟩ := flat_of (c := c) (I := J0) (xs := ys) (cells := cells) (k := B.off) (rows J0 hu0)
    have HR : St z I w (Rws c fl 0 ys :: OwnSl c v xs :: r) := H.dup fun J h iJ jw hw s i x hi => by
      obtain ⟨cs, a, b⟩ := rows J (hu J h (hp w) iJ jw hw s) i x hi
      refine ⟨cs, sec_fl (cells := cells.toList) (k := B.off) (c.len b) a (fun j u hj => by simpa using f2 j u hj) ?_, b⟩
      rw [f1]; exact Nat.mul_le_mul_right _ (List.getElem?_eq_some_iff.1 hi).1
    obtain ⟨v', w', hr, H'⟩ := app_core (ty := ty) (P := P) (A := some B) (cp := cp) hT (HR.get 1 rfl) rfl f1 f4 (fun h => by cases h) (fun p hp j u hj => by
      cases hp
      rw [hB, ad_add, cell_ad (show w.heap[B.block]? = some (.cells cells T fr) from hh)]; exact f2 j u hj) (by omega) (by omega)
    exact does_value (w' := w') (by simp [execOp, resolve, invoke, builtin, hE.ev hx, hE.ev hy, hr]) H'
/-- A literal of a slice. -/
theorem d_lit {t n e : Nat} {ps : Array (Nat × Operand)} {us : List (Nat × Value)} {css : List Value} (hE : Env a N l) (hx : evps l ps.toList = some us)
    (hf : ∀ w : World, (Instr.buildSlice t n us.toArray).run P w = .ok (.slice (some (ad w.heap.size 0)) n n) (w.alloc (.cells css.toArray e))) (hn : css.length = n * c.n) (hl : xs.length = n)
    (hr : ∀ J h : Hp, I.le J → Sat J r h → ∀ (i : Nat) (x : α), xs[i]? = some x → ∃ cs, Sec css.toArray (i * c.n) cs ∧ c.rd J cs x) (H : St z I w r) :
    Does P ⟨d, .buildSlice t n ps, ty, pos, af, none⟩ a w (fun v' w' => St z I w' (OwnSl c v' xs :: r)) := by
  refine does_value (w' := w.alloc (.cells css.toArray e)) (v := .slice (some (ad w.heap.size 0)) n n) ?_ ((H.alloc _).row hn hl hr)
  have hm : (ps.map fun (i, x) => (i, a.eval x)) = us.toArray := by rw [← hE.evps hx]; apply Array.toList_inj.1; simp
  simp only [execOp, hm, Sem.run_bind, hf w, Result.andThen_ok, Sem.run_pure]
theorem rows0 : ∀ (i : Nat) (x : α), ([] : List α)[i]? = some x → ∃ cs, Sec (List.toArray []) (i * c.n) cs ∧ c.rd I cs x := fun i x h => by cases h
theorem rowsC {cs css : List Value} {x : α} (h : c.rd I cs x) (hs : ∀ (i : Nat) (y : α), xs[i]? = some y → ∃ cs', Sec css.toArray (i * c.n) cs' ∧ c.rd I cs' y) :
    ∀ (i : Nat) (y : α), (x :: xs)[i]? = some y → ∃ cs', Sec (cs ++ css).toArray (i * c.n) cs' ∧ c.rd I cs' y := fun i y hy => by
  cases i with
  | zero => simp at hy; subst hy; exact ⟨cs, by simpa using sec_left (Sec.all cs), h⟩
  | succ i =>
    obtain ⟨cs', a, b⟩ := hs i y (by simpa using hy)
    refine ⟨cs', ?_, b⟩
    have := sec_append (xs := cs) a
    rw [show (i + 1) * c.n = cs.length + i * c.n from by rw [c.len h, Nat.add_mul]; omega]; exact this
theorem d_min2 {x y : Operand} {k : IntKind} {m n : Int} {t : Array TypeId} (hE : Env a N l) (hx : ev l x = some (.int k m)) (hy : ev l y = some (.int k n)) :
    Does P ⟨d, .call { callee := .builtin .min, args := #[x, y], argTypes := t }, ty, pos, af, none⟩ a w (Is (.int k (if n < m then n else m)) w) :=
  does_value (w' := w) (by simp [execOp, resolve, invoke, builtin, Builtin.min_, Builtin.min2, hE.ev hx, hE.ev hy]) ⟨rfl, rfl⟩
theorem d_max2 {x y : Operand} {k : IntKind} {m n : Int} {t : Array TypeId} (hE : Env a N l) (hx : ev l x = some (.int k m)) (hy : ev l y = some (.int k n)) :
    Does P ⟨d, .call { callee := .builtin .max, args := #[x, y], argTypes := t }, ty, pos, af, none⟩ a w (Is (.int k (if n > m then n else m)) w) :=
  does_value (w' := w) (by simp [execOp, resolve, invoke, builtin, Builtin.max_, Builtin.max2, hE.ev hx, hE.ev hy]) ⟨rfl, rfl⟩
theorem d_min3 {x y u : Operand} {k : IntKind} {m n o : Int} {t : Array TypeId} (hE : Env a N l) (hx : ev l x = some (.int k m)) (hy : ev l y = some (.int k n)) (hu : ev l u = some (.int k o)) :
    Does P ⟨d, .call { callee := .builtin .min, args := #[x, y, u], argTypes := t }, ty, pos, af, none⟩ a w (Is (.int k (if o < (if n < m then n else m) then o else (if n < m then n else m))) w) :=
  does_value (w' := w) (by simp [execOp, resolve, invoke, builtin, Builtin.min_, Builtin.min2, hE.ev hx, hE.ev hy, hE.ev hu]) ⟨rfl, rfl⟩
end
end Go.Proofs.Ytbielnhpfbhkgaa
