/- append, make, cuts and stores of slices. -/
import Derived.Test.YtbielnhpfbhkgaaSl4
import Derived.WalkKit
set_option linter.unusedVariables false
set_option linter.unusedSimpArgs false
namespace Go.Proofs.Ytbielnhpfbhkgaa
open Go

/-- What append asks of the element's type. -/
structure Elt (P : Program) (t e : TypeId) (n bytes : Nat) : Prop where mk ::
  ut : P.underlying t = some (.slice e)
  info : (P.info? e).map (fun i => (i.zero.map fun z => z.cells.size, i.size, i.bytes)) = some (some n, n, bytes)
  pos : 0 < n
theorem Elt.parts {P : Program} {t e : TypeId} {n bytes : Nat} (h : Elt P t e n bytes) : ∃ i z, P.info? e = some i ∧ i.zero = some z ∧ i.size = n ∧ i.bytes = bytes ∧ z.cells.size = n := by
  obtain ⟨i, hi, e⟩ := Option.map_eq_some_iff.1 h.info
  simp only [Prod.mk.injEq] at e
  obtain ⟨z, hz, e1⟩ := Option.map_eq_some_iff.1 e.1
  exact ⟨i, z, hi, hz, e.2.1, e.2.2, e1⟩
theorem Sec.all (cs : List Value) : Sec cs.toArray 0 cs := fun j v h => by simpa using h
theorem sec_append {xs ys : List Value} {k : Nat} {cs : List Value} (h : Sec ys.toArray k cs) : Sec (xs ++ ys).toArray (xs.length + k) cs := fun j v hv => by
  have := h j v hv
  simp only [List.getElem?_toArray] at this ⊢
  rw [Nat.add_assoc, List.getElem?_append_right (by omega)]
  simpa using this
theorem sec_left {xs ys : List Value} {k : Nat} {cs : List Value} (h : Sec xs.toArray k cs) : Sec (xs ++ ys).toArray k cs := fun j v hv => by
  have := h j v hv
  simp only [List.getElem?_toArray] at this ⊢
  rw [List.getElem?_append_left (List.getElem?_eq_some_iff.1 this).1]; exact this
theorem setL_get : ∀ (vs cs : List Value) (k i : Nat), k + vs.length ≤ cs.length → (setL cs k vs)[i]? = if k ≤ i ∧ i < k + vs.length then vs[i - k]? else cs[i]?
  | [], cs, k, i, _ => by
    rw [setL_nil, if_neg (by simp only [List.length_nil]; omega)]
  | v :: vs, [], k, i, h => by simp at h
  | v :: vs, c :: cs, 0, 0, h => by simp [setL]
  | v :: vs, c :: cs, 0, i + 1, h => by
    have := setL_get vs cs 0 i (by simp at h ⊢; omega)
    simp only [setL, List.getElem?_cons_succ, this, Nat.zero_add, Nat.zero_le, true_and, Nat.sub_zero, List.length_cons, Nat.add_lt_add_iff_right]
  | v :: vs, c :: cs, k + 1, 0, h => by simp [setL]
  | v :: vs, c :: cs, k + 1, i + 1, h => by
    have := setL_get (v :: vs) cs k i (by simp at h ⊢; omega)
    simp only [setL, List.getElem?_cons_succ, this]
    by_cases hc : k ≤ i ∧ i < k + (v :: vs).length
    · rw [if_pos hc, if_pos (by omega)]; congr 1; omega
    · rw [if_neg hc, if_neg (by omega)]

section
variable {P : Program} {α : Type} {c : Cod α} {a : Act} {w z : World} {I : Hp} {N : Nat} {l : List (Nat × Value)} {r : List Asn} {d : Option Nat} {ty : TypeId} {pos : String} {af : Array Edge} {v : Value} {xs ys : List α}
/-- An owned row, as cells in the order of the elements. -/
theorem flat_of {cells : Array Value} {k : Nat} (hx : ∀ (i : Nat) (x : α), xs[i]? = some x → ∃ cs, Sec cells (k + i * c.n) cs ∧ c.rd I cs x) : ∃ fl : List Value, fl.length = xs.length * c.n ∧ (∀ j u, fl[j]? = some u → cells[k + j]? = some u) ∧
    (∀ u ∈ fl, u.oneCell' = true) ∧ ∀ (i : Nat) (x : α), xs[i]? = some x → ∃ cs, Sec fl.toArray (i * c.n) cs ∧ c.rd I cs x := by
  induction xs generalizing k with
  | nil => exact ⟨[], by simp, fun j u h => by simp at h, fun u h => (by cases h), fun i x h => by simp at h⟩
  | cons x xs ih =>
    obtain ⟨cs, h1, h2⟩ := hx 0 x rfl
    obtain ⟨fl, f1, f2, f4, f3⟩ := ih (k := k + c.n) (fun i y hy => by
      obtain ⟨cs, a, b⟩ := hx (i + 1) y (by simpa using hy)
      refine ⟨cs, ?_, b⟩
      rw [show k + c.n + i * c.n = k + (i + 1) * c.n from by rw [Nat.add_mul]; omega]; exact a)
    have hl := c.len h2
    refine ⟨cs ++ fl, by simp [f1, hl, Nat.add_mul]; omega, fun j u hu => ?_, fun u hu => ?_, fun i y hy => ?_⟩
    · rcases Nat.lt_or_ge j cs.length with hj | hj
      · rw [List.getElem?_append_left hj] at hu
        simpa using h1 j u hu
      · rw [List.getElem?_append_right hj] at hu
        have := f2 _ u hu
        rw [show k + c.n + (j - cs.length) = k + j from by omega] at this; exact this
    · rcases List.mem_append.1 hu with hu | hu
      · exact c.one h2 u hu
      · exact f4 u hu
    · cases i with
      | zero => simp at hy; subst hy; exact ⟨cs, by simpa using sec_left (Sec.all cs), h2⟩
      | succ i =>
        obtain ⟨cs', a, b⟩ := f3 i y (by simpa using hy)
        refine ⟨cs', ?_, b⟩
        have := sec_append (xs := cs) a
        rw [show (i + 1) * c.n = cs.length + i * c.n from by rw [hl, Nat.add_mul]; omega]; exact this
theorem own_cat {fl gl : List Value} (hf : fl.length = xs.length * c.n) (h1 : ∀ (i : Nat) (x : α), xs[i]? = some x → ∃ cs, Sec fl.toArray (i * c.n) cs ∧ c.rd I cs x) (h2 : ∀ (i : Nat) (x : α), ys[i]? = some x → ∃ cs, Sec gl.toArray (i * c.n) cs ∧ c.rd I cs x) :
    ∀ (i : Nat) (x : α), (xs ++ ys)[i]? = some x → ∃ cs, Sec (fl ++ gl).toArray (i * c.n) cs ∧ c.rd I cs x := fun i x hx => by
  rcases Nat.lt_or_ge i xs.length with hi | hi
  · rw [List.getElem?_append_left hi] at hx
    obtain ⟨cs, a, b⟩ := h1 i x hx
    exact ⟨cs, sec_left a, b⟩
  · rw [List.getElem?_append_right hi] at hx
    obtain ⟨cs, a, b⟩ := h2 _ x hx
    refine ⟨cs, ?_, b⟩
    have := sec_append (xs := fl) a
    rw [show i * c.n = fl.length + (i - xs.length) * c.n from by rw [hf, ← Nat.add_mul]; congr 1; omega]; exact this

theorem St.own_cases (H : St z I w (OwnSl c v xs :: r)) : (xs = [] ∧ ∃ A, v = .slice A 0 0) ∨ ∃ b k cap cells T, v = .slice (some (ad b k)) xs.length cap ∧ xs.length ≤ cap ∧ k + cap * c.n ≤ cells.length ∧
      (∀ (i : Nat) (x : α), xs[i]? = some x → ∃ cs, Sec (List.toArray cells) (k + i * c.n) cs ∧ c.rd I cs x) ∧ St z I w (Bl b T cells :: r) := by
  obtain ⟨h, d, a, h1, h2, p, dd, l1, l2, s⟩ := H.own
  rcases p with p | ⟨b, k, cap, cells, T, hv, p1, p2, p3, p4⟩
  · exact .inl p
  · exact .inr ⟨b, k, cap, cells, T, hv, p1, p2, p4, H.os, H.tape, H.output, H.know, h, d, a, h1, h2, p3, dd, l1, l2, s⟩
theorem St.own_intro {b k cap : Nat} {cells : List Value} {T : TypeId} (hv : v = .slice (some (ad b k)) xs.length cap) (p1 : xs.length ≤ cap) (p2 : k + cap * c.n ≤ cells.length)
    (p4 : ∀ (i : Nat) (x : α), xs[i]? = some x → ∃ cs, Sec (List.toArray cells) (k + i * c.n) cs ∧ c.rd I cs x) (H : St z I w (Bl b T cells :: r)) : St z I w (OwnSl c v xs :: r) := by
  refine H.map fun h s => ?_
  obtain ⟨h1, h2, p, d, a, b', s⟩ := s
  exact ⟨h1, h2, .inr ⟨b, k, cap, cells, T, hv, p1, p2, p, p4⟩, d, a, b', s⟩
theorem St.own_nil {A : Option Addr} (hv : v = .slice A 0 0) (hx : xs = []) (H : St z I w r) : St z I w (OwnSl c v xs :: r) := by subst hv hx; exact H.nil A
theorem run_grow {t e : TypeId} {i : TypeInfo} {zv : Value} (ht : P.underlying t = some (.slice e)) (hi : P.info? e = some i) (hz : i.zero = some zv) {A B : Option Addr} {m cp sLen sCap : Nat} {olds gl : List Value}
    (hg : sCap < sLen + m) (h63 : ((sLen + m : Nat) : Int) ≤ 9223372036854775807) (hfit : Builtin.nextslicecap (sLen + m) sCap * i.bytes ≤ 281474976710656)
    (hfo : (Builtin.firstCells i.size sLen (.slice B sLen sCap)).run P w.drew = .ok olds.toArray w.drew) (hfc : (Builtin.firstCells i.size m (.slice A m cp)).run P w.drew = .ok gl.toArray w.drew) :
    (Builtin.append_ #[t, t] ty #[.slice B sLen sCap, .slice A m cp]).run P w = .ok (.slice (some (ad w.heap.size 0)) (sLen + m) (grownCap w (sLen + m) sCap e))
      (w.drew.alloc (.cells (olds.toArray ++ gl.toArray ++ Builtin.zeroCells zv.cells (grownCap w (sLen + m) sCap e - (sLen + m))) e)) := by
  have hn : ¬ (sLen + m ≤ sCap) := by omega
  have h63' : ¬ (9223372036854775807 < ((sLen : Int) + (m : Int))) := by omega
  have h48' : ¬ (281474976710656 < Builtin.nextslicecap (sLen + m) sCap * i.bytes) := by omega
  simp [Builtin.append_, run_underlying ht, sizeOf, typeInfo, zeroValue, hi, hz, Builtin.lenOf, hn, h63', h48', Question.forced, hfc, hfo, newRow, grownCap]
  refine ⟨rfl, ?_⟩
  congr 2
  apply Array.ext'
  simp [List.append_assoc]
/-- append onto a row of one's own. -/
theorem app_core {t e bytes : Nat} (hT : Elt P t e c.n bytes) (H : St z I w (OwnSl c v xs :: r)) {A : Option Addr} {m cp : Nat} {gl : List Value} (hm : ys.length = m) (hgl : gl.length = m * c.n) (h1 : ∀ u ∈ gl, u.oneCell' = true)
    (hA : A = none → m = 0) (hcell : ∀ p, A = some p → ∀ j u, gl[j]? = some u → w.cell? (p.add j) = some u)
    (hy : ∀ (i : Nat) (x : α), ys[i]? = some x → ∃ cs, Sec gl.toArray (i * c.n) cs ∧ c.rd I cs x) (hb : (xs.length + m) * bytes ≤ 140737488355328) (hb0 : xs.length + m ≤ 140737488355328) :
    ∃ v' w', (Builtin.append_ #[t, t] ty #[v, .slice A m cp]).run P w = .ok v' w' ∧ St z I w' (OwnSl c v' (xs ++ ys) :: r) := by
  obtain ⟨i, zv, hi, hz, hs, hby, hzs⟩ := hT.parts
  have ht := hT.ut
  have hpos := hT.pos
  have hfcw : ∀ w1 : World, w1.heap = w.heap → (Builtin.firstCells i.size m (.slice A m cp)).run P w1 = .ok gl.toArray w1 := by
    intro w1 hw
    cases A with
    | none =>
      have h0 := hA rfl; subst h0
      obtain rfl : gl = [] := List.eq_nil_of_length_eq_zero (by simpa using hgl)
      rfl
    | some p => exact run_firstCells_some (P := P) w1 i.size m p m cp gl (by rw [hs]; exact hgl) (fun j u hu => by
        have := hcell p rfl j u hu
        simp only [World.cell?, hw] at this ⊢; exact this)
  have hfc := hfcw w rfl
  obtain ⟨h, hle, p⟩ : ∃ h : Hp, h.le (hp w) ∧ (OwnSl c v xs).p I h := H.mem 0 rfl
  -- the whole goes into a new row
  have grow : ∀ (B : Option Addr) (old : Nat) (fl : List Value), v = .slice B xs.length old → old < xs.length + m → fl.length = xs.length * c.n → (∀ (i : Nat) (x : α), xs[i]? = some x → ∃ cs, Sec fl.toArray (i * c.n) cs ∧ c.rd I cs x) →
      (Builtin.firstCells i.size xs.length (.slice B xs.length old)).run P w.drew = .ok fl.toArray w.drew →
      ∃ v' w', (Builtin.append_ #[t, t] ty #[v, .slice A m cp]).run P w = .ok v' w' ∧ St z I w' (OwnSl c v' (xs ++ ys) :: r) := by
    intro B old fl hv hlt hfl hx hfo
    subst hv
    refine ⟨_, _, run_grow ht hi hz hlt (by omega) (growslice_fits hlt (by rw [hby]; exact hb)) hfo (hfcw w.drew rfl), ?_⟩
    have H1 : St z I w.drew r := (H.drop).drawn _
    have H2 := H1.alloc (.cells (fl.toArray ++ gl.toArray ++ Builtin.zeroCells zv.cells (grownCap w (xs.length + m) old e - (xs.length + m))) e)
    refine H2.map fun h s => ?_
    obtain ⟨h1', h2, p', d, a', b', s⟩ := s
    have hge := grownCap_ge w (xs.length + m) old e
    refine ⟨h1', h2, .inr ⟨w.heap.size, 0, grownCap w (xs.length + m) old e, (fl ++ gl) ++ (Builtin.zeroCells zv.cells (grownCap w (xs.length + m) old e - (xs.length + m))).toList, e, by simp [hm], ?_, ?_, ?_, fun j x hj => ?_⟩, d, a', b', s⟩
    · simp [hm]; exact hge
    · simp only [List.length_append, Array.length_toList, size_zeroCells, hzs, hfl, hgl, ← Nat.add_mul]
      rw [Nat.zero_add]
      refine Nat.le_of_eq ?_
      congr 1; omega
    · have : h1' w.heap.size = some (.cells (fl.toArray ++ gl.toArray ++ Builtin.zeroCells zv.cells (grownCap w (xs.length + m) old e - (xs.length + m))) e (0, 0)) := p'
      rw [this]
      congr 2
      apply Array.ext'; simp
    · obtain ⟨cs, a1, a2⟩ := own_cat hfl hx hy j x hj
      exact ⟨cs, by rw [Nat.zero_add]; exact sec_left a1, a2⟩
  rcases H.own_cases with ⟨rfl, B, rfl⟩ | ⟨b, k, cap, cells, T, hv, p1, p2, p4, H1⟩
  · -- nothing is there
    by_cases hm0 : m = 0
    · subst hm0
      obtain rfl : ys = [] := List.eq_nil_of_length_eq_zero hm
      obtain rfl : gl = [] := List.eq_nil_of_length_eq_zero (by simpa using hgl)
      refine ⟨.slice B 0 0, w, ?_, H⟩
      cases B with
      | none => simp [Builtin.append_, run_underlying ht, sizeOf, typeInfo, hi, Builtin.lenOf, hfc]
      | some B => simp [Builtin.append_, run_underlying ht, sizeOf, typeInfo, hi, Builtin.lenOf, hfc, storeCells]
    · refine grow B 0 [] rfl (by simp; omega) (by simp) (fun i x h => by cases h) ?_
      cases B <;> simp [Builtin.firstCells, loadCells, loadCellsFrom]
  · obtain ⟨fl, f1, f2, f4, f3⟩ := flat_of (c := c) (I := I) (xs := xs) (cells := cells.toArray) (k := k) p4
    have hblk : w.heap[b]? = some (.cells cells.toArray T (0, 0)) := H1.ob 0 rfl
    by_cases hroom : xs.length + m ≤ cap
    · subst hv
      have hmul : (xs.length + m) * c.n ≤ cap * c.n := Nat.mul_le_mul_right _ hroom
      rw [Nat.add_mul] at hmul
      have hfit : k + xs.length * c.n + gl.length ≤ cells.length := by rw [hgl]; omega
      obtain ⟨w', hr, e1, e2, e3, e4⟩ := run_storeCells (P := P) gl (k + xs.length * c.n) 0 hblk (by omega) h1
      rw [hs] at hfc
      refine ⟨.slice (some (ad b k)) (xs.length + m) cap, w', ?_, ?_⟩
      · simp [Builtin.append_, run_underlying ht, sizeOf, typeInfo, hi, Builtin.lenOf, hroom, ad_add, hs, hfc, hr]
      · have H2 := H1.put _ e1 e2 e3 e4
        simp only [Nat.add_zero] at H2
        refine H2.own_intro (b := b) (k := k) (cap := cap) (by simp [hm]) (by simp [hm]; exact hroom) (by rw [setL_length]; exact p2) fun i x hx => ?_
        rcases Nat.lt_or_ge i xs.length with hix | hix
        · rw [List.getElem?_append_left hix] at hx
          obtain ⟨cs, a1, a2⟩ := p4 i x hx
          refine ⟨cs, fun j u hu => ?_, a2⟩
          have hj : j < c.n := by rw [← c.len a2]; exact (List.getElem?_eq_some_iff.1 hu).1
          have hlt : k + i * c.n + j < k + xs.length * c.n := by
            have : (i + 1) * c.n ≤ xs.length * c.n := Nat.mul_le_mul_right _ hix
            rw [Nat.add_mul] at this; omega
          have := a1 j u hu
          simp only [List.getElem?_toArray] at this ⊢
          rw [setL_get _ _ _ _ hfit, if_neg (by omega)]; exact this
        · rw [List.getElem?_append_right hix] at hx
          obtain ⟨cs, a1, a2⟩ := hy _ x hx
          refine ⟨cs, fun j u hu => ?_, a2⟩
          have := a1 j u hu
          simp only [List.getElem?_toArray] at this ⊢
          have hlt := (List.getElem?_eq_some_iff.1 this).1
          have he : i * c.n = xs.length * c.n + (i - xs.length) * c.n := by rw [← Nat.add_mul]; congr 1; omega
          rw [setL_get _ _ _ _ hfit, if_pos (by omega), ← this]
          congr 1; omega
    · exact grow (some (ad b k)) cap fl hv (by omega) f1 f3 (run_firstCells_some (P := P) w.drew i.size xs.length (ad b k) xs.length cap fl (by rw [hs]; exact f1) (fun j u hu => by
        rw [ad_add, World.cell?_drew, cell_ad hblk]; exact f2 j u hu))
/-- append(out, x, ..): what is appended lies in a row of one's own. -/
theorem d_appendO {t e bytes lim : Nat} {x y : Operand} {u : Value} {res : List α} (hT : Elt P t e c.n bytes) (hlim : lim * bytes ≤ 140737488355328) (hl0 : lim ≤ 140737488355328) (hE : Env a N l) (hx : ev l x = some v) (hy : ev l y = some u)
    (H : St z I w (OwnSl c v xs :: OwnSl c u ys :: r)) (ha : appd lim xs ys = some res) :
    Does P ⟨d, .call { callee := .builtin .append, args := #[x, y], argTypes := #[t, t] }, ty, pos, af, none⟩ a w (fun v' w' => St z I w' (OwnSl c v' res :: r)) := by
  obtain ⟨rfl, hle⟩ := appd_some ha
  have hbm : (xs.length + ys.length) * bytes ≤ lim * bytes := Nat.mul_le_mul_right _ (by omega)
  rcases (H.get 1 rfl).own_cases with ⟨rfl, B, rfl⟩ | ⟨b, k, cap, cells, T, rfl, p1, p2, p4, H1⟩
  · obtain ⟨v', w', hr, H'⟩ := app_core (ty := ty) (P := P) (A := B) (cp := 0) (gl := []) (ys := ([] : List α)) hT ((H.get 1 rfl).drop) rfl (by simp) (fun _ h => by cases h) (fun _ => rfl) (fun p hp j u hj => by cases hj) (fun i x h => by cases h) (by simpa using Nat.le_trans hbm hlim) (by simp at hle ⊢; omega)
    have hr : (Builtin.append_ #[t, t] ty #[v, .slice B 0 0]).run P w = .ok v' w' := hr
    exact does_value (w' := w') (by simp [execOp, resolve, invoke, builtin, hE.ev hx, hE.ev hy, hr]) H'
  · obtain ⟨fl, f1, f2, f4, f3⟩ := flat_of (c := c) (I := I) (xs := ys) (cells := cells.toArray) (k := k) p4
    have hb : w.heap[b]? = some (.cells cells.toArray T (0, 0)) := H1.ob 0 rfl
    obtain ⟨v', w', hr, H'⟩ := app_core (ty := ty) (P := P) (A := some (ad b k)) (cp := cap) hT ((H.get 1 rfl).drop) rfl f1 f4 (fun h => by cases h) (fun p hp j u hj => by cases hp; rw [ad_add, cell_ad hb]; exact f2 j u hj) f3 (by omega) (by omega)
    exact does_value (w' := w') (by simp [execOp, resolve, invoke, builtin, hE.ev hx, hE.ev hy, hr]) H'
/-- append(out, xs...): xs is read; all of it lies in its own cells. -/
theorem d_appendS {t e bytes lim : Nat} {x y : Operand} {u : Value} {res : List α} (hT : Elt P t e c.n bytes) (hlim : lim * bytes ≤ 140737488355328) (hl0 : lim ≤ 140737488355328) (hE : Env a N l) (hx : ev l x = some v) (hy : ev l y = some u)
    (H : St z I w (OwnSl c v xs :: r)) (hu : RdSl c (hp w) u ys) (hI : ∀ cs x, c.rd (hp w) cs x → c.rd I cs x) (ha : appd lim xs ys = some res) :
    Does P ⟨d, .call { callee := .builtin .append, args := #[x, y], argTypes := #[t, t] }, ty, pos, af, none⟩ a w (fun v' w' => St z I w' (OwnSl c v' res :: r)) := by
  obtain ⟨rfl, hle⟩ := appd_some ha
  obtain ⟨A, cp, rfl, _⟩ := hu.form
  have hbm : (xs.length + ys.length) * bytes ≤ lim * bytes := Nat.mul_le_mul_right _ (by omega)
  by_cases h0 : ys = []
  · subst h0
    obtain ⟨v', w', hr, H'⟩ := app_core (ty := ty) (P := P) (A := none) (cp := cp) (gl := []) (ys := ([] : List α)) hT H rfl (by simp) (fun _ h => by cases h) (fun _ => rfl) (fun p hp => by cases hp) (fun i x h => by cases h) (by simpa using Nat.le_trans hbm hlim) (by simp at hle ⊢; omega)
    cases A with
    | none =>
     exact does_value (w' := w') (by
        have hr : (Builtin.append_ #[t, t] ty #[v, .slice _ 0 cp]).run P w = .ok v' w' := hr
        simp [execOp, resolve, invoke, builtin, hE.ev hx, hE.ev hy, hr]) H'
    | some p =>
      obtain ⟨v', w', hr, H'⟩ := app_core (ty := ty) (P := P) (A := some p) (cp := cp) (gl := []) (ys := ([] : List α)) hT H rfl (by simp) (fun _ h => by cases h) (fun _ => rfl) (fun p hp j u hj => by cases hj) (fun i x h => by cases h) (by simpa using Nat.le_trans hbm hlim) (by simp at hle ⊢; omega)
      exact does_value (w' := w') (by
        have hr : (Builtin.append_ #[t, t] ty #[v, .slice _ 0 cp]).run P w = .ok v' w' := hr
        simp [execOp, resolve, invoke, builtin, hE.ev hx, hE.ev hy, hr]) H'
  · obtain ⟨y0, hy0⟩ : ∃ y0, ys[0]? = some y0 := by cases ys with | nil => exact absurd rfl h0 | cons y _ => exact ⟨y, rfl⟩
    obtain ⟨B, n, cap, cells, T, fr, hv, hsp, hh, _⟩ := hu.cells 0 y0 hy0
    cases hv
    have hB : B = ad B.block B.off := by cases B; simp only [ad] at *; subst hsp; rfl
    obtain ⟨fl, f1, f2, f4, f3⟩ := flat_of (c := c) (I := hp w) (xs := ys) (cells := cells) (k := B.off) (fun i x hi => by
      obtain ⟨B', n', cap', cells', T', fr', hv', hsp', hh', h⟩ := hu.cells i x hi
      cases hv'
      rw [hh] at hh'; cases hh'; exact h)
    obtain ⟨v', w', hr, H'⟩ := app_core (ty := ty) (P := P) (A := some B) (cp := cp) hT H rfl f1 f4 (fun h => by cases h) (fun p hp j u hj => by
      cases hp
      rw [hB, ad_add, cell_ad (show w.heap[B.block]? = some (.cells cells T fr) from hh)]; exact f2 j u hj)
      (fun i x hi => by obtain ⟨cs, a, b⟩ := f3 i x hi; exact ⟨cs, a, hI _ _ b⟩) (by omega) (by omega)
    exact does_value (w' := w') (by simp [execOp, resolve, invoke, builtin, hE.ev hx, hE.ev hy, hr]) H'
/-- A literal of a slice. -/
theorem d_lit {t n e : Nat} {ps : Array (Nat × Operand)} {us : List (Nat × Value)} {css : List Value} (hE : Env a N l) (hx : evps l ps.toList = some us)
    (hf : ∀ w : World, (Instr.buildSlice t n us.toArray).run P w = .ok (.slice (some (ad w.heap.size 0)) n n) (w.alloc (.cells css.toArray e))) (hn : css.length = n * c.n) (hl : xs.length = n)
    (hr : ∀ (i : Nat) (x : α), xs[i]? = some x → ∃ cs, Sec css.toArray (i * c.n) cs ∧ c.rd I cs x) (H : St z I w r) :
    Does P ⟨d, .buildSlice t n ps, ty, pos, af, none⟩ a w (fun v' w' => St z I w' (OwnSl c v' xs :: r)) := by
  refine does_value (w' := w.alloc (.cells css.toArray e)) (v := .slice (some (ad w.heap.size 0)) n n) ?_ ((H.alloc _).row hn hl hr)
  have hm : (ps.map fun (i, x) => (i, a.eval x)) = us.toArray := by rw [← hE.evps hx]; apply Array.toList_inj.1; simp
  simp only [execOp, hm, Sem.run_bind, hf w, Result.andThen_ok, Sem.run_pure]
theorem rows0 : ∀ (i : Nat) (x : α), ([] : List α)[i]? = some x → ∃ cs, Sec (List.toArray []) (i * c.n) cs ∧ c.rd I cs x := fun i x h => by cases h
theorem rowsC {cs css : List Value} {x : α} (h : c.rd I cs x) (hs : ∀ (i : Nat) (y : α), xs[i]? = some y → ∃ cs', Sec css.toArray (i * c.n) cs' ∧ c.rd I cs' y) :
    ∀ (i : Nat) (y : α), (x :: xs)[i]? = some y → ∃ cs', Sec (cs ++ css).toArray (i * c.n) cs' ∧ c.rd I cs' y := fun i y hy => by
  cases i with
  | zero => simp at hy; subst hy; exact ⟨cs, by simpa using sec_left (Sec.all cs), h⟩
  | succ i =>
    obtain ⟨cs', a, b⟩ := hs i y (by simpa using hy)
    refine ⟨cs', ?_, b⟩
    have := sec_append (xs := cs) a
    rw [show (i + 1) * c.n = cs.length + i * c.n from by rw [c.len h, Nat.add_mul]; omega]; exact this
theorem d_min2 {x y : Operand} {k : IntKind} {m n : Int} {t : Array TypeId} (hE : Env a N l) (hx : ev l x = some (.int k m)) (hy : ev l y = some (.int k n)) :
    Does P ⟨d, .call { callee := .builtin .min, args := #[x, y], argTypes := t }, ty, pos, af, none⟩ a w (Is (.int k (if n < m then n else m)) w) :=
  does_value (w' := w) (by simp [execOp, resolve, invoke, builtin, Builtin.min_, Builtin.min2, hE.ev hx, hE.ev hy]) ⟨rfl, rfl⟩
theorem d_max2 {x y : Operand} {k : IntKind} {m n : Int} {t : Array TypeId} (hE : Env a N l) (hx : ev l x = some (.int k m)) (hy : ev l y = some (.int k n)) :
    Does P ⟨d, .call { callee := .builtin .max, args := #[x, y], argTypes := t }, ty, pos, af, none⟩ a w (Is (.int k (if n > m then n else m)) w) :=
  does_value (w' := w) (by simp [execOp, resolve, invoke, builtin, Builtin.max_, Builtin.max2, hE.ev hx, hE.ev hy]) ⟨rfl, rfl⟩
theorem d_min3 {x y u : Operand} {k : IntKind} {m n o : Int} {t : Array TypeId} (hE : Env a N l) (hx : ev l x = some (.int k m)) (hy : ev l y = some (.int k n)) (hu : ev l u = some (.int k o)) :
    Does P ⟨d, .call { callee := .builtin .min, args := #[x, y, u], argTypes := t }, ty, pos, af, none⟩ a w (Is (.int k (if o < (if n < m then n else m) then o else (if n < m then n else m))) w) :=
  does_value (w' := w) (by simp [execOp, resolve, invoke, builtin, Builtin.min_, Builtin.min2, hE.ev hx, hE.ev hy, hE.ev hu]) ⟨rfl, rfl⟩
end
end Go.Proofs.Ytbielnhpfbhkgaa
