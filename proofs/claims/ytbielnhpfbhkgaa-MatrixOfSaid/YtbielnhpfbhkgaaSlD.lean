/- slices.Sort, copy, clear. -/
import Derived.Test.YtbielnhpfbhkgaaSlC
set_option linter.unusedVariables false
set_option linter.unusedSimpArgs false
namespace Go.Proofs.Ytbielnhpfbhkgaa
open Go

theorem d_box1 {P : Program} {a : Act} {w z : World} {I : Hp} {N : Nat} {l : List (Nat × Value)} {r : List Asn} {d : Option Nat} {ty : TypeId} {pos : String} {af : Array Edge} {T : TypeId} {x : Operand} {v : Value} (hE : Env a N l) (hx : ev l x = some v) (h1 : v.cells = #[v]) (H : St z I w r) :
    Does P ⟨d, .box T x, ty, pos, af, none⟩ a w (fun v' w' => ∃ b, v' = .pointer (some (ad b 0)) ∧ St z I w' (Bl b T [v] :: r)) := by
  have h := d_box (P := P) (d := d) (ty := ty) (pos := pos) (af := af) (T := T) hE hx H
  rw [h1] at h; exact h
/-- slices.Sort, as long as it fits. -/
def srtZ (xs : List Int) : Option (List Int) := if xs.length < 4611686018427387904 then some (sortZ xs) else none
theorem srtZ_some {xs ys : List Int} (h : srtZ xs = some ys) : ys = sortZ xs ∧ xs.length < 4611686018427387904 := by
  unfold srtZ at h
  split at h
  · cases h; exact ⟨rfl, by assumption⟩
  · cases h
section
open Go.Sort
variable {P : Program} {ρ : Shelf.Ren} {z w : World} {I : Hp} {r : List Asn} {v : Value} {xs ys : List Int}
theorem sortZ_row (L : SlLaysM.n5 P ρ) (hs : srtZ xs = some ys) (H : St z I w (OwnSl (cInt .i64) v xs :: r)) :
    Calls P (ρ.f 5) #[v] w (Rt fun u w' => u = .tuple #[] ∧ St z I w' (OwnSl (cInt .i64) v ys :: r)) := by
  obtain ⟨rfl, hlen⟩ := srtZ_some hs
  rcases H.own_cases with ⟨rfl, A, rfl⟩ | ⟨b, k, cap, cells, T, hv, p1, p2, H1⟩
  · refine (AnyM.slices_Sort_int_none L A 0 w).mono fun e w' h => ?_
    obtain ⟨rfl, rfl⟩ := h
    exact ⟨_, rfl, rfl, H⟩
  · have hblk := H1.ob 0 rfl
    have hbs : b < w.heap.size := (Array.getElem?_eq_some_iff.1 hblk).1
    obtain ⟨⟨J, iJ, jw, hx⟩, _⟩ := (H1.get 1 rfl).pu
    have p2 : k + cap * 1 ≤ cells.length := p2
    have hc : ∀ (i : Nat) (x : Int), xs[i]? = some x → cells[k + i]? = some (.int .i64 x) := fun i x hi => by
      obtain ⟨cs, a, e⟩ := hx i x hi
      have e : cs = [.int .i64 x] := e
      have := a 0 (.int .i64 x) (by rw [e]; rfl)
      simpa [cInt, Cod.flat] using this
    have hH : Holds (Value.int .i64) w b k xs.toArray := fun j hj => by
      have hj' : j < xs.length := by simpa using hj
      refine ⟨?_, frozen_ad hblk⟩
      rw [show (⟨b, k + j, Option.none⟩ : Addr) = ad b (k + j) from rfl, cell_ad hblk]
      have := hc j xs[j] (List.getElem?_eq_getElem hj')
      simpa [hj'] using this
    rw [hv]
    refine (AnyM.slices_Sort_int L b k cap xs w hH hbs hlen).mono fun e w' h => ?_
    obtain ⟨rfl, n, os, rfl⟩ := h
    refine ⟨_, rfl, rfl, ?_⟩
    rw [sortZ_eq]
    have hsl : (sortZ xs).length = xs.length := (sortZ_permS xs).length_eq
    have q1 : ∀ i, i ≠ b → i < w.heap.size → (grow (putRow (Value.int .i64) (Go.Sort.ahead w n) b k (sortZ xs).toArray) os).heap[i]? = w.heap[i]? := fun i hi hlt => by
      simp only [Sort.grow, putRow, mapBlock, Go.Sort.ahead]
      rw [Array.getElem?_append_left (by simpa using hlt), Array.getElem?_modify, if_neg (fun e => hi e.symm)]
    have q2 : (grow (putRow (Value.int .i64) (Go.Sort.ahead w n) b k (sortZ xs).toArray) os).heap[b]? = some (.cells (putCells (Value.int .i64) k (sortZ xs).toArray cells.toArray) T (0, 0)) := by
      simp only [Sort.grow, putRow, mapBlock, Go.Sort.ahead]
      rw [Array.getElem?_append_left (by simpa using hbs), Array.getElem?_modify, if_pos rfl, hblk]; rfl
    have HP : St z I (grow (putRow (Value.int .i64) (Go.Sort.ahead w n) b k (sortZ xs).toArray) os) (Bl b T (putCells (Value.int .i64) k (sortZ xs).toArray cells.toArray).toList :: r) := by
      refine (H1.del 1).turn rfl rfl rfl (Nat.le_trans H1.dr (Nat.le_add_right _ _)) fun J' h1' _ _ l1' p' => ⟨one b (.cells (putCells (Value.int .i64) k (sortZ xs).toArray cells.toArray) T (0, 0)), ?_, one_le q2, fun i => ?_, fun i hi hlt => q1 i (fun e => by rw [e] at hi; rw [show h1' b = some _ from p'] at hi; cases hi) hlt⟩
      · show one b _ b = some _
        simp [one]
      · by_cases hi : i = b
        · subst hi; exact .inr (.inl (by rw [show h1' i = some _ from p']; simp))
        · exact .inl (by simp [one, hi])
    have HQ : St z I (grow (putRow (Value.int .i64) (Go.Sort.ahead w n) b k (sortZ xs).toArray) os) (Rws (cInt .i64) (putCells (Value.int .i64) k (sortZ xs).toArray cells.toArray).toList k (sortZ xs) :: Bl b T (putCells (Value.int .i64) k (sortZ xs).toArray cells.toArray).toList :: r) := by
      refine St.pu_intro ?_ HP
      intro i x hi
      refine ⟨[.int .i64 x], fun j u hj => ?_, rfl⟩
      have hj0 : j = 0 := by
        cases j with
        | zero => rfl
        | succ j => simp at hj
      subst hj0
      simp at hj; subst hj
      have hil : i < (sortZ xs).length := (List.getElem?_eq_some_iff.1 hi).1
      have hcl : k + i < cells.length := by omega
      show ((putCells (Value.int .i64) k (sortZ xs).toArray cells.toArray).toList.toArray)[k + i * 1 + 0]? = _
      simp only [putCells, Array.toArray_toList, Array.getElem?_mapIdx]
      rw [List.getElem?_toArray, show k + i * 1 + 0 = k + i by omega, List.getElem?_eq_getElem hcl, Option.map_some, if_pos ⟨by omega, by simp; omega⟩]
      rw [show k + i - k = i by omega]
      obtain ⟨_, e⟩ := List.getElem?_eq_some_iff.1 hi
      simp [hil, e]
    exact St.own_intro (b := b) (k := k) (cap := cap) (cells := (putCells (Value.int .i64) k (sortZ xs).toArray cells.toArray).toList) (T := T) (by rw [hsl]) (by rw [hsl]; exact p1) (by simp [putCells]; exact p2) (HQ.get 1 rfl)
end

/-- A part of a row is written anew. -/
def setR {α : Type} (xs : List α) (lo : Nat) (ys : List α) : List α := xs.take lo ++ ys ++ xs.drop (lo + ys.length)
theorem setR_len {α : Type} {xs ys : List α} {lo : Nat} (h : lo + ys.length ≤ xs.length) : (setR xs lo ys).length = xs.length := by simp [setR]; omega
theorem setR_get {α : Type} {xs ys : List α} {lo : Nat} (h : lo + ys.length ≤ xs.length) (i : Nat) : (setR xs lo ys)[i]? = if lo ≤ i ∧ i < lo + ys.length then ys[i - lo]? else xs[i]? := by
  unfold setR
  by_cases h1 : i < lo
  · rw [if_neg (by omega), List.append_assoc, List.getElem?_append_left (by simp; omega), List.getElem?_take, if_pos h1]
  · by_cases h2 : i < lo + ys.length
    · rw [if_pos (by omega), List.getElem?_append_left (by simp; omega), List.getElem?_append_right (by simp; omega)]
      congr 1; simp; omega
    · rw [if_neg (by omega), List.getElem?_append_right (by simp; omega), List.getElem?_drop]
      congr 1; simp; omega
/-- copy(xs[lo:hi], ys). -/
def copyx {α : Type} (xs : List α) (lo hi : Int) (ys : List α) : List α := setR xs lo.toNat (ys.take (min ys.length (hi - lo).toNat))
section
variable {P : Program} {α : Type} {c : Cod α} {z w : World} {I : Hp} {r : List Asn} {v : Value} {xs ys : List α} {a : Act} {N : Nat} {l : List (Nat × Value)} {d : Option Nat} {ty : TypeId} {pos : String} {af : Array Edge}
theorem own_write {fl : List Value} {lo : Nat} {b k cap : Nat} {cells : List Value} {T : TypeId} (hfl : fl.length = ys.length * c.n) (h1 : ∀ u ∈ fl, u.oneCell' = true) (hle : lo + ys.length ≤ xs.length) (p1 : xs.length ≤ cap) (p2 : k + cap * c.n ≤ cells.length)
    (H : St z I w (Bl b T cells :: Rws c cells k xs :: Rws c fl 0 ys :: r)) :
    ∃ w', (storeCells (ad b (k + lo * c.n)) fl 0).run P w = .ok () w' ∧ St z I w' (OwnSl c (.slice (some (ad b k)) xs.length cap) (setR xs lo ys) :: r) := by
  have hmul : (lo + ys.length) * c.n ≤ cap * c.n := Nat.mul_le_mul_right _ (by omega)
  rw [Nat.add_mul] at hmul
  have hfit : k + lo * c.n + fl.length ≤ cells.length := by rw [hfl]; omega
  obtain ⟨w', hr, e1, e2, e3, e5, e4⟩ := run_storeCells (P := P) fl (k + lo * c.n) 0 (H.ob 0 rfl) (by omega) h1
  refine ⟨w', hr, ?_⟩
  have H2 := H.put _ e1 e2 e3 (Nat.le_of_eq e5.symm) e4
  simp only [Nat.add_zero] at H2
  have H3 : St z I w' (Rws c cells k xs :: Rws c fl 0 ys :: Bl b T (setL cells (k + lo * c.n) fl) :: r) := (H2.get 2 rfl).get 2 rfl
  have H4 : St z I w' (Rws c (setL cells (k + lo * c.n) fl) k (setR xs lo ys) :: Bl b T (setL cells (k + lo * c.n) fl) :: r) := by
    refine H3.pu_map2 fun J _ hx hy i x hi => ?_
    rw [setR_get hle] at hi
    by_cases hin : lo ≤ i ∧ i < lo + ys.length
    · rw [if_pos hin] at hi
      obtain ⟨cs, a1, a2⟩ := hy _ x hi
      refine ⟨cs, fun j u hu => ?_, a2⟩
      have := a1 j u hu
      simp only [List.getElem?_toArray] at this ⊢
      have hlt := (List.getElem?_eq_some_iff.1 this).1
      have he : i * c.n = lo * c.n + (i - lo) * c.n := by rw [← Nat.add_mul]; congr 1; omega
      rw [setL_get _ _ _ _ hfit, if_pos (by omega), ← this]
      congr 1; omega
    · rw [if_neg hin] at hi
      obtain ⟨cs, a1, a2⟩ := hx i x hi
      refine ⟨cs, fun j u hu => ?_, a2⟩
      have hj : j < c.n := by rw [← c.len a2]; exact (List.getElem?_eq_some_iff.1 hu).1
      have := a1 j u hu
      simp only [List.getElem?_toArray] at this ⊢
      rw [setL_get _ _ _ _ hfit, if_neg ?_]
      · exact this
      · rw [hfl]
        rcases Nat.lt_or_ge i lo with h | h
        · have : (i + 1) * c.n ≤ lo * c.n := Nat.mul_le_mul_right _ h
          rw [Nat.add_mul] at this; omega
        · have : (lo + ys.length) * c.n ≤ i * c.n := Nat.mul_le_mul_right _ (by omega)
          rw [Nat.add_mul] at this; omega
  have hl := setR_len hle
  exact St.own_intro (b := b) (k := k) (cap := cap) (cells := setL cells (k + lo * c.n) fl) (T := T) (by rw [hl]) (by rw [hl]; exact p1) (by rw [setL_length]; exact p2) (H4.get 1 rfl)
/-- copy: what is written lies in a row of one's own, from lo up to hi. -/
theorem copy_core {t e : TypeId} {lo hi : Int} {u s : Value} {ss : List α} (ht : Slc P t e c.n) (h0 : 0 ≤ lo) (hlh : lo ≤ hi) (hhi : hi ≤ xs.length) (hu : ∀ A n cap, v = .slice A n cap → ∃ B cap', u = .slice B (hi - lo).toNat cap' ∧ (lo < hi → B = A.map fun p => p.add (lo.toNat * c.n)))
    (H : St z I w (OwnSl c v xs :: r)) (hr : Rd c I (OwnSl c v xs :: r) s ss) :
    ∃ w', (Builtin.copy_ #[t, t] ty #[u, s]).run P w = .ok (.int .i64 (min ss.length (hi - lo).toNat : Nat)) w' ∧ St z I w' (OwnSl c v (copyx xs lo hi ss) :: r) := by
  obtain ⟨J0, _, _, hs0⟩ := hr.st H
  obtain ⟨A0, cap0, hv0, _⟩ := (Rd.own (r := OwnSl c v xs :: r) 0 rfl).st H |>.choose_spec.2.2.form
  obtain ⟨B, cap', rfl, hB⟩ := hu _ _ _ hv0
  obtain ⟨S, cs, hsv, hsl⟩ := hs0.form
  subst hsv
  by_cases hm : min ss.length (hi - lo).toNat = 0
  · have hx : copyx xs lo hi ss = xs := by unfold copyx; rw [hm]; simp [setR]
    rw [hx, hm]
    refine ⟨w, ?_, H⟩
    have hn : Nat.min ss.length (hi - lo).toNat = 0 := hm
    cases S <;> cases B <;> simp [Builtin.copy_, run_underlying ht.1, Builtin.lenOf, hn, ht.2, Builtin.firstCells, loadCells, loadCellsFrom, storeCells, goInt]
  · have hss : ss ≠ [] := fun e => hm (by rw [e]; simp)
    obtain ⟨y0, hy0⟩ : ∃ y0, ss[0]? = some y0 := by cases ss with | nil => exact absurd rfl hss | cons y _ => exact ⟨y, rfl⟩
    obtain ⟨B', n, cap, cells, T, fr, hv, hsp, hh, _⟩ := hs0.cells 0 y0 hy0
    cases hv
    have hB' : B' = ad B'.block B'.off := by cases B'; simp only [ad] at *; subst hsp; rfl
    have rows : ∀ J : Hp, RdSl c J (hp w) (.slice (some B') ss.length cs) ss → ∀ (i : Nat) (x : α), (ss.take (min ss.length (hi - lo).toNat))[i]? = some x → ∃ cs, Sec cells (B'.off + i * c.n) cs ∧ c.rd J cs x := fun J h i x hi => by
      rw [List.getElem?_take] at hi
      split at hi
      · obtain ⟨B2, n', cap', cells', T', fr', hv', hsp', hh', h⟩ := h.cells i x hi
        cases hv'
        rw [hh] at hh'; cases hh'; exact h
      · cases hi
    have hyl : (ss.take (min ss.length (hi - lo).toNat)).length = min ss.length (hi - lo).toNat := by simp
    obtain ⟨fl, f1, f2, f4, f3⟩ := flat_of (c := c) (I := J0) (xs := ss.take (min ss.length (hi - lo).toNat)) (cells := cells) (k := B'.off) (rows J0 hs0)
    have HR : St z I w (Rws c fl 0 (ss.take (min ss.length (hi - lo).toNat)) :: OwnSl c v xs :: r) := H.dup fun J h iJ jw hw s i x hi => by
      obtain ⟨cs, a, b⟩ := rows J (hr J h (hp w) iJ jw hw s) i x hi
      refine ⟨cs, sec_fl (cells := cells.toList) (k := B'.off) (c.len b) a (fun j u hj => by simpa using f2 j u hj) ?_, b⟩
      rw [f1]; exact Nat.mul_le_mul_right _ (List.getElem?_eq_some_iff.1 hi).1
    rcases (HR.get 1 rfl).own_cases with ⟨rfl, A, _⟩ | ⟨b, k, cap2, cells2, T2, hv2, p1, p2, H1⟩
    · simp at hhi; omega
    · rw [hv2] at hv0
      cases hv0
      have hBv := hB (by omega)
      simp only [Option.map_some, ad_add] at hBv
      subst hBv
      have H1 : St z I w (Bl b T2 cells2 :: Rws c cells2 k xs :: Rws c fl 0 (ss.take (min ss.length (hi - lo).toNat)) :: r) := H1
      obtain ⟨w', hw, H'⟩ := own_write (P := P) (lo := lo.toNat) f1 f4 (by rw [hyl]; omega) p1 p2 H1
      refine ⟨w', ?_, by rw [hv2]; exact H'⟩
      have hfc := run_firstCells_some (P := P) w c.n (min ss.length (hi - lo).toNat) B' ss.length cs fl (by rw [f1, hyl]) (fun j u hj => by
        rw [hB', ad_add, cell_ad (show w.heap[B'.block]? = some (.cells cells T fr) from hh)]; exact f2 j u hj)
      have hn : Nat.min ss.length (hi - lo).toNat = min ss.length (hi - lo).toNat := rfl
      simp [Builtin.copy_, run_underlying ht.1, Builtin.lenOf, ht.2, hn, goInt]
      have hfc' : (Builtin.firstCells c.n (min ss.length (hi - lo).toNat) (.slice (some B') ss.length cs)).run P w = .ok fl.toArray w := hfc
      rw [hfc']
      simp [hw]
theorem d_copyO {x y : Operand} {t e : TypeId} {s : Value} {ss xs' : List α} (ht : Slc P t e c.n) (hE : Env a N l) (hx : ev l x = some v) (hy : ev l y = some s) (hc : some (copyx xs 0 xs.length ss) = some xs') (H : St z I w (OwnSl c v xs :: r)) (hr : Rd c I (OwnSl c v xs :: r) s ss) :
    Does P ⟨d, .call { callee := .builtin .copy, args := #[x, y], argTypes := #[t, t] }, ty, pos, af, none⟩ a w (fun V w' => V = .int .i64 (min ss.length xs.length : Nat) ∧ St z I w' (OwnSl c v xs' :: r)) := by
  cases hc
  obtain ⟨J0, _, _, hv0⟩ := (Rd.own (r := OwnSl c v xs :: r) 0 rfl).st H
  obtain ⟨A0, cap0, hv0, _⟩ := hv0.form
  obtain ⟨w', hw, H'⟩ := copy_core (P := P) (ty := ty) (lo := 0) (hi := xs.length) (u := v) ht (Int.le_refl _) (by omega) (Int.le_refl _) (fun A n cap hv => by
    have e := hv0.symm.trans hv
    injection e with e1 e2 e3
    subst e1; subst e3
    refine ⟨A0, cap0, by rw [hv0]; simp, fun _ => ?_⟩
    cases A0 with
    | none => rfl
    | some p => simp [Addr.add]) H hr
  have hw' : (Builtin.copy_ #[t, t] ty #[v, s]).run P w = .ok (.int .i64 (min ss.length xs.length : Nat)) w' := by simpa using hw
  exact does_value (w' := w') (v := .int .i64 (min ss.length xs.length : Nat)) (by simp [execOp, resolve, invoke, builtin, hE.ev hx, hE.ev hy, hw']) ⟨rfl, H'⟩
theorem d_copyC {x y : Operand} {t e : TypeId} {s : Value} {lo hi : Int} {ds ss xs' : List α} (ht : Slc P t e c.n) (hcut : cutx xs lo hi = some ds) (hE : Env a N l) (hx : ev l x = some (slv c.n v lo hi)) (hy : ev l y = some s) (hc : some (copyx xs lo hi ss) = some xs') (H : St z I w (OwnSl c v xs :: r)) (hr : Rd c I (OwnSl c v xs :: r) s ss) :
    Does P ⟨d, .call { callee := .builtin .copy, args := #[x, y], argTypes := #[t, t] }, ty, pos, af, none⟩ a w (fun V w' => V = .int .i64 (min ss.length ds.length : Nat) ∧ St z I w' (OwnSl c v xs' :: r)) := by
  cases hc
  obtain ⟨rfl, h0, h1, h2⟩ := cutx_some hcut
  obtain ⟨w', hw, H'⟩ := copy_core (P := P) (ty := ty) (lo := lo) (hi := hi) (u := slv c.n v lo hi) ht h0 h1 h2 (fun A n cap hv => by
    subst hv
    refine ⟨_, cap - lo.toNat, by simp only [slv, sliced]; congr 1; omega, fun hlt => ?_⟩
    obtain ⟨J0, _, _, hv0⟩ := (Rd.own (r := OwnSl c (.slice A n cap) xs :: r) 0 rfl).st H
    obtain ⟨A0, cap0, hv0, hle⟩ := hv0.form
    cases hv0
    rw [if_neg (by omega)]) H hr
  have hl : ((xs.take hi.toNat).drop lo.toNat).length = (hi - lo).toNat := by simp; omega
  exact does_value (w' := w') (v := .int .i64 (min ss.length (hi - lo).toNat : Nat)) (by simp [execOp, resolve, invoke, builtin, hE.ev hx, hE.ev hy, hw]) ⟨by rw [hl], H'⟩
end
end Go.Proofs.Ytbielnhpfbhkgaa
