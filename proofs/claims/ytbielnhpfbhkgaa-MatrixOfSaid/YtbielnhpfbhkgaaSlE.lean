/- slices.Compact at []int. -/
import Derived.Test.YtbielnhpfbhkgaaSlD
import Derived.Shelf.SlicesG.CompactI
set_option linter.unusedVariables false
set_option linter.unusedSimpArgs false
namespace Go.Proofs.Ytbielnhpfbhkgaa
open Go

/-- What stands side by side twice stands there once. -/
def uniqP : Option Int → List Int → List Int
  | _, [] => []
  | p, x :: l => if p = some x then uniqP (some x) l else x :: uniqP (some x) l
theorem uniqP_snoc : ∀ (l : List Int) (p : Option Int) (x : Int), uniqP p (l ++ [x]) = uniqP p l ++ (if (l.getLast?.or p) = some x then [] else [x])
  | [], p, x => by by_cases h : p = some x <;> simp [uniqP, h]
  | y :: l, p, x => by
    have e : (y :: l).getLast?.or p = l.getLast?.or (some y) := by
      cases l with
      | nil => rfl
      | cons z l =>
        have : ((y :: z :: l).getLast?) = ((z :: l).getLast?) := by simp
        rw [this]
        cases h : (z :: l).getLast? with
        | none => simp at h
        | some u => rfl
    simp only [List.cons_append, uniqP]
    rw [e]
    by_cases h : p = some y
    · rw [if_pos h, if_pos h, uniqP_snoc l (some y) x]
    · rw [if_neg h, if_neg h, uniqP_snoc l (some y) x]; rfl
def uniq (l : List Int) : Option (List Int) := if l.length ≤ 9223372036854775807 then some (uniqP none l) else none
theorem uniq_some {l r : List Int} (h : uniq l = some r) : r = uniqP none l ∧ l.length ≤ 9223372036854775807 := by
  unfold uniq at h
  split at h
  · cases h; exact ⟨rfl, by assumption⟩
  · cases h
theorem compact_eq (l : List Int) : Lib.compact l = uniqP none l := by
  have key : ∀ m, m ≤ l.length → Lib.compactUpTo l.toArray m = uniqP none (l.take m) := by
    intro m
    induction m with
    | zero => intro _; simp [Lib.compactUpTo, uniqP]
    | succ m ih =>
      intro hm
      have hlt : m < l.length := by omega
      have e1 : Lib.compactUpTo l.toArray (m + 1) = Lib.compactUpTo l.toArray m ++ (if Lib.keeps l.toArray m = true then [l[m]] else []) := by
        unfold Lib.compactUpTo
        rw [List.range_succ, List.filter_append, List.map_append]
        congr 1
        by_cases h : Lib.keeps l.toArray m = true
        · rw [if_pos h, List.filter_cons_of_pos h]; simp [hlt]
        · rw [if_neg h, List.filter_cons_of_neg h]; rfl
      rw [e1, ih (by omega), List.take_succ_eq_append_getElem hlt, uniqP_snoc]
      congr 1
      have hl : ((l.take m).getLast?.or none) = if h0 : 0 < m then some (l[m - 1]'(by omega)) else none := by
        rw [Option.or_none, List.getLast?_eq_getElem?]
        simp only [List.length_take]
        by_cases h0 : 0 < m
        · rw [dif_pos h0, show min m l.length - 1 = m - 1 by omega, List.getElem?_take, if_pos (by omega), List.getElem?_eq_getElem (by omega)]
        · have : m = 0 := by omega
          subst this; simp
      rw [hl]
      by_cases h0 : 0 < m
      · rw [dif_pos h0]
        have hk : Lib.keeps l.toArray m = true ↔ l[m - 1]'(by omega) ≠ l[m] := by
          unfold Lib.keeps
          simp [hlt, show m - 1 < l.length by omega, show m ≠ 0 by omega]
          exact ⟨fun h e => h e.symm, fun h e => h e.symm⟩
        by_cases h : l[m - 1]'(by omega) = l[m]
        · rw [if_neg fun e => hk.1 e h, if_pos (by rw [h])]
        · rw [if_pos (hk.2 h), if_neg (by simpa using h)]
      · have : m = 0 := by omega
        subst this
        rw [dif_neg h0, if_pos (by simp [Lib.keeps]), if_neg (by simp)]
  have := key l.length (Nat.le_refl _)
  rw [List.take_length] at this
  exact this
theorem uniqP_len : ∀ (l : List Int) (p : Option Int), (uniqP p l).length ≤ l.length
  | [], _ => Nat.le_refl _
  | x :: l, p => by
    simp only [uniqP]
    split
    · exact Nat.le_succ_of_le (uniqP_len l _)
    · simp; exact uniqP_len l _
section
open Go.Sort
variable {P : Program} {ρ : Shelf.Ren} {z w : World} {I : Hp} {r : List Asn} {v : Value} {xs ys : List Int}
theorem uniq_row (L : SlLaysN.n43 P ρ) (hs : uniq xs = some ys) (H : St z I w (OwnSl (cInt .i64) v xs :: r)) :
    Calls P (ρ.f 43) #[v] w (Rt fun u w' => ∃ v', u = v' ∧ St z I w' (OwnSl (cInt .i64) v' ys :: r)) := by
  obtain ⟨rfl, hlen⟩ := uniq_some hs
  rcases H.own_cases with ⟨rfl, A, rfl⟩ | ⟨b, k, cap, cells, T, hv, p1, p2, H1⟩
  · refine (AnyG.slices_Compact_int_empty L A 0 w).mono fun e w' h => ?_
    obtain ⟨rfl, rfl⟩ := h
    exact ⟨_, rfl, _, rfl, H⟩
  · have hblk := H1.ob 0 rfl
    have hbs : b < w.heap.size := (Array.getElem?_eq_some_iff.1 hblk).1
    obtain ⟨⟨J, iJ, jw, hx⟩, _⟩ := (H1.get 1 rfl).pu
    have p2 : k + cap * 1 ≤ cells.length := p2
    have hc : ∀ (i : Nat) (x : Int), xs[i]? = some x → cells[k + i]? = some (.int .i64 x) := fun i x hi => by
      obtain ⟨cs, a, e⟩ := hx i x hi
      have e : cs = [.int .i64 x] := e
      have := a 0 (.int .i64 x) (by rw [e]; rfl)
      simpa [cInt, Cod.flat] using this
    have hH : Holds (Value.int .i64) w b k xs.toArray := fun j hj => by
      have hj' : j < xs.length := by simpa using hj
      refine ⟨?_, frozen_ad hblk⟩
      rw [show (⟨b, k + j, Option.none⟩ : Addr) = ad b (k + j) from rfl, cell_ad hblk]
      have := hc j xs[j] (List.getElem?_eq_getElem hj')
      simpa [hj'] using this
    rw [hv]
    refine (AnyG.slices_Compact_int L b k cap xs w hH hlen p1).mono fun e w' h => ?_
    obtain ⟨rfl, q, rfl⟩ := h
    rw [compact_eq]
    have hul := uniqP_len xs none
    refine ⟨_, rfl, _, rfl, ?_⟩
    generalize hD : (uniqP none xs ++ List.replicate (xs.length - (uniqP none xs).length) (0 : Int)) = D
    have hDl : D.length = xs.length := by rw [← hD]; simp; omega
    have hDg : ∀ (i : Nat) (x : Int), (uniqP none xs)[i]? = some x → D[i]? = some x := fun i x hi => by
      have := (List.getElem?_eq_some_iff.1 hi).1
      rw [← hD, List.getElem?_append_left this]; exact hi
    have q1 : ∀ i, i ≠ b → i < w.heap.size → (putRow (Value.int .i64) (Go.Sort.ahead w q) b k D.toArray).heap[i]? = w.heap[i]? := fun i hi hlt => by
      simp only [putRow, mapBlock, Go.Sort.ahead]
      rw [Array.getElem?_modify, if_neg (fun e => hi e.symm)]
    have q2 : (putRow (Value.int .i64) (Go.Sort.ahead w q) b k D.toArray).heap[b]? = some (.cells (putCells (Value.int .i64) k D.toArray cells.toArray) T (0, 0)) := by
      simp only [putRow, mapBlock, Go.Sort.ahead]
      rw [Array.getElem?_modify, if_pos rfl, hblk]; rfl
    have HP : St z I (putRow (Value.int .i64) (Go.Sort.ahead w q) b k D.toArray) (Bl b T (putCells (Value.int .i64) k D.toArray cells.toArray).toList :: r) := by
      refine (H1.del 1).turn rfl rfl rfl (Nat.le_trans H1.dr (Nat.le_add_right _ _)) fun J' h1' _ _ l1' p' => ⟨one b (.cells (putCells (Value.int .i64) k D.toArray cells.toArray) T (0, 0)), ?_, one_le q2, fun i => ?_, fun i hi hlt => q1 i (fun e => by rw [e] at hi; rw [show h1' b = some _ from p'] at hi; cases hi) hlt⟩
      · show one b _ b = some _
        simp [one]
      · by_cases hi : i = b
        · subst hi; exact .inr (.inl (by rw [show h1' i = some _ from p']; simp))
        · exact .inl (by simp [one, hi])
    have HQ : St z I (putRow (Value.int .i64) (Go.Sort.ahead w q) b k D.toArray) (Rws (cInt .i64) (putCells (Value.int .i64) k D.toArray cells.toArray).toList k (uniqP none xs) :: Bl b T (putCells (Value.int .i64) k D.toArray cells.toArray).toList :: r) := by
      refine St.pu_intro ?_ HP
      intro i x hi
      refine ⟨[.int .i64 x], fun j u hj => ?_, rfl⟩
      have hj0 : j = 0 := by
        cases j with
        | zero => rfl
        | succ j => simp at hj
      subst hj0
      simp at hj; subst hj
      have hil : i < D.length := by have := (List.getElem?_eq_some_iff.1 (hDg i x hi)).1; exact this
      have hcl : k + i < cells.length := by omega
      show ((putCells (Value.int .i64) k D.toArray cells.toArray).toList.toArray)[k + i * 1 + 0]? = _
      simp only [putCells, Array.toArray_toList, Array.getElem?_mapIdx]
      rw [List.getElem?_toArray, show k + i * 1 + 0 = k + i by omega, List.getElem?_eq_getElem hcl, Option.map_some, if_pos ⟨by omega, by simp; omega⟩]
      rw [show k + i - k = i by omega]
      obtain ⟨_, e⟩ := List.getElem?_eq_some_iff.1 (hDg i x hi)
      simp [hil, e]
    exact St.own_intro (b := b) (k := k) (cap := cap) (cells := (putCells (Value.int .i64) k D.toArray cells.toArray).toList) (T := T) rfl (Nat.le_trans hul p1) (by simp [putCells]; exact p2) (HQ.get 1 rfl)
end
end Go.Proofs.Ytbielnhpfbhkgaa
