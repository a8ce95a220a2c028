/- Plain facts: a row of one thing (slices.Repeat), where a number stands (slices.BinarySearch), all distances by Floyd and Warshall. -/
import Derived.Test.YtbielnhpfbhkgaaPBell
import Derived.Test.YtbielnhpfbhkgaaM0
set_option linter.unusedVariables false
set_option linter.unusedSimpArgs false
namespace Go.Proofs.Ytbielnhpfbhkgaa
open Go Go.RowKit

theorem mul1_eq {n : Int} (h0 : 0 ≤ n) (h1 : n ≤ 1000) : m184 1 n = some (0, n) := by
  have e1 : andI .u64 1 4294967295 = 1 := and32 (by omega) (by omega)
  have e2 : andI .u64 n 4294967295 = n := and32 h0 (by omega)
  have w : ∀ x : Int, 0 ≤ x → x ≤ 18446744073709551615 → IntKind.u64.wrap x = x := fun x => wrapu_id
  have d1 : (1 : Int) / 2 ^ 32 = 0 := by decide
  have d2 : n / 2 ^ 32 = 0 := Int.ediv_eq_zero_of_lt h0 (by omega)
  simp only [m184, m225, e1, e2, d1, d2, Int.zero_mul, Int.one_mul, Int.mul_zero, Int.add_zero, Int.zero_add, Option.bind_some]
  rw [w 0 (by omega) (by omega), w n h0 (by omega), d2]
  simp only [Int.zero_add, Int.add_zero]
  rw [w 0 (by omega) (by omega)]
  have e3 : andI .u64 0 4294967295 = 0 := and32 (by omega) (by omega)
  rw [e3]
  simp only [Int.zero_add, Int.add_zero, Int.zero_ediv]
  rw [w 0 (by omega) (by omega)]
  simp only [Int.zero_ediv, Int.add_zero]
  rw [w 0 (by omega) (by omega)]
/-- slices.Repeat of one thing. -/
theorem repeat_ev (x : Int) (n : Nat) (h0 : 0 < n) (h1 : n ≤ 1000) : Ev (fun k => m145 k [x] (n : Int)) (List.replicate n x) := by
  have loop : ∀ (m y : Nat), y + m ≤ n + m → n ≤ y + m → 0 < y → Ev (fun k => m145_l0 k (List.replicate y x ++ List.replicate (n - y) 0) (y : Int)) (List.replicate n x) := by
    intro m
    induction m with
    | zero =>
      intro y h2 h3 h4
      have e : y = n := by omega
      subst e
      refine Ev.succ (Ev.all fun k => ?_)
      simp [m145_l0]
    | succ m ih =>
      intro y h2 h3 h4
      by_cases hy : y = n
      · subst hy
        refine Ev.succ (Ev.all fun k => ?_)
        simp [m145_l0]
      · have hyn : y < n := by omega
        have hlen : (List.replicate y x ++ List.replicate (n - y) (0 : Int)).length = n := by simp; omega
        refine Ev.succ ?_
        simp only [m145_l0]
        refine Ev.pos (by rw [hlen]; omega) (Ev.bnd (v := List.replicate (n - y) 0) ?_ (Ev.bnd (v := List.replicate y x) ?_ (Ev.bnd (v := List.replicate (y + min y (n - y)) x ++ List.replicate (n - (y + min y (n - y))) 0) ?_ ?_)))
        · unfold cutx
          rw [hlen, if_pos ⟨by omega, by omega, by omega⟩]
          simp only [Int.toNat_natCast]
          rw [List.take_of_length_le (by rw [hlen]; exact Nat.le_refl _), List.drop_left' (by simp)]
        · unfold cutx
          rw [hlen, if_pos ⟨by omega, by omega, by omega⟩]
          simp [List.take_append]
        · congr 1
          unfold copyx setR
          rw [hlen]
          refine List.ext_getElem? fun q => ?_
          simp only [Int.toNat_natCast, List.take_replicate, List.length_replicate]
          have e1 : ((n : Int) - (y : Int)).toNat = n - y := by omega
          rw [e1]
          simp only [List.getElem?_append, List.getElem?_replicate, List.length_take, List.length_append, List.length_replicate, List.getElem?_take, List.getElem?_drop]
          repeat' split
          all_goals first | rfl | omega | (simp only [List.getElem?_append, List.getElem?_replicate, List.length_replicate]; repeat' split) <;> first | rfl | omega
        · have e1 : IntKind.i64.wrap ((y : Int) + ((min (List.replicate y x).length (List.replicate (n - y) (0 : Int)).length : Nat) : Int)) = ((y + min y (n - y) : Nat) : Int) := by
            simp only [List.length_replicate]
            rw [wrap_id (by omega) (by omega)]; omega
          rw [e1]
          exact ih _ (by omega) (by omega) (by omega)
  refine Ev.neg (by omega) (Ev.bnd (v := (0, (n : Int))) ?_ (Ev.bnd (v := false) ?_ (Ev.neg (by simp) (Ev.bnd (v := List.replicate n 0) ?_ (Ev.bnd (v := List.replicate 1 x ++ List.replicate (n - 1) 0) ?_ (Ev.bind (v := List.replicate n x) ?_ (Ev.pure _)))))))
  · rw [show IntKind.u64.wrap (([x].length : Nat) : Int) = 1 from wrapu_id (by simp) (by simp), wrapu_id (by omega) (by omega)]
    exact mul1_eq (by omega) (by omega)
  · rw [if_neg (by simp)]
    simp; omega
  · show mkl 35184372088832 (IntKind.i64.wrap (n : Int)) 0 = _
    rw [wrap_id (by omega) (by omega)]
    unfold mkl
    rw [if_pos ⟨by omega, by omega⟩]; rfl
  · congr 1
    unfold copyx setR
    obtain ⟨j, rfl⟩ : ∃ j, n = j + 1 := ⟨n - 1, by omega⟩
    simp only [List.length_replicate, List.length_singleton, Int.toNat_zero, List.take_zero, List.nil_append, Int.sub_zero, Int.toNat_natCast]
    rw [Nat.min_eq_left (by omega : 1 ≤ j + 1)]
    simp [List.replicate_succ]
  · have e : ((min ([x].length) (List.replicate n (0 : Int)).length : Nat) : Int) = ((1 : Nat) : Int) := by simp; omega
    rw [e]
    exact loop n 1 (by omega) (by omega) (by omega)
theorem lessI_eq (a b : Int) : m147 a b = some (decide (a < b)) := by
  simp only [m147, m157, decide_true, Bool.not_true, Option.bind_some]
  simp
/-- slices.BinarySearch of what stands there. -/
theorem search_ev (ns : List Int) (hp : ns.Pairwise (· < ·)) (hl : ns.length ≤ 1000) (j : Nat) (hj : j < ns.length) : Ev (fun k => m88 k ns ns[j]) ((j : Int), true) := by
  have loop : ∀ (m i q : Nat), q - i ≤ m → i ≤ j → j ≤ q → q ≤ ns.length → Ev (fun k => m88_l0 ns ns[j] k i q) (j : Int) := by
    intro m
    induction m with
    | zero =>
      intro i q h1 h2 h3 h4
      obtain rfl : i = j := by omega
      refine Ev.succ (Ev.all fun k => ?_)
      simp only [m88_l0]; rw [if_neg (by omega)]
    | succ m ih =>
      intro i q h1 h2 h3 h4
      by_cases hiq : i < q
      · have e1 : IntKind.i64.wrap ((IntKind.u64.wrap (IntKind.i64.wrap ((i : Int) + (q : Int)))) / 2 ^ 1) = (((i + q) / 2 : Nat) : Int) := by
          rw [wrap_id (n := (i : Int) + q) (by omega) (by omega), wrapu_id (by omega) (by omega), wrap_id (by omega) (by omega)]; omega
        have hh : (i + q) / 2 < ns.length := by omega
        refine Ev.succ ?_
        simp only [m88_l0, e1]
        refine Ev.pos (by omega) (Ev.bnd (rdx_lt hh) (Ev.bnd (lessI_eq _ _) ?_))
        by_cases hlt : ns[(i + q) / 2] < ns[j]
        · have hm : (i + q) / 2 < j := by
            rcases Nat.lt_or_ge ((i + q) / 2) j with h | h
            · exact h
            · rcases Nat.eq_or_lt_of_le h with e | h
              · have : ns[j] = ns[(i + q) / 2] := by congr 1
                omega
              · have := List.pairwise_iff_getElem.1 hp j _ hj hh h; omega
          refine Ev.bind (v := ((((i + q) / 2 + 1 : Nat) : Int), (q : Int))) (Ev.pos (by simp [hlt]) (Ev.of ?_)) (ih _ q (by omega) (by omega) h3 h4)
          rw [wrap_id (by omega) (by omega)]; rfl
        · have hm : j ≤ (i + q) / 2 := by
            rcases Nat.lt_or_ge ((i + q) / 2) j with h | h
            · have := List.pairwise_iff_getElem.1 hp _ j hh hj h; omega
            · exact h
          exact Ev.bind (v := ((i : Int), (((i + q) / 2 : Nat) : Int))) (Ev.neg (by simp [hlt]) (Ev.pure _)) (ih i _ (by omega) h2 hm (by omega))
      · obtain rfl : i = j := by omega
        refine Ev.succ (Ev.all fun k => ?_)
        simp only [m88_l0]; rw [if_neg (by omega)]
  refine Ev.bind (loop ns.length 0 ns.length (by omega) (by omega) (by omega) (Nat.le_refl _)) (Ev.bind (v := true) ?_ (Ev.pure _))
  exact Ev.pos (by omega) (Ev.bnd (rdx_lt hj) (Ev.pos rfl (Ev.pure _)))

/-! A matrix as a function. -/
abbrev Mx := Nat → Nat → Int
def rowF (n : Nat) (f : Nat → Int) : List Int := (List.range n).map f
def matF (n : Nat) (D : Mx) : List (List Int) := (List.range n).map fun i => rowF n (D i)
def updM (D : Mx) (i k : Nat) (v : Int) : Mx := fun a b => if a = i ∧ b = k then v else D a b
section
variable {n : Nat} {D : Mx}
theorem rowF_len {f : Nat → Int} : (rowF n f).length = n := by simp [rowF]
theorem matF_len : (matF n D).length = n := by simp [matF]
theorem matF_row {i : Nat} (hi : i < n) : rdx (matF n D) (i : Int) = some (rowF n (D i)) := by
  rw [rdx_nat]; simp [matF, hi]
theorem rowF_at {f : Nat → Int} {k : Nat} (hk : k < n) : rdx (rowF n f) (k : Int) = some (f k) := by
  rw [rdx_nat]; simp [rowF, hk]
theorem rowF_set {f : Nat → Int} {k : Nat} (hk : k < n) (v : Int) : (rowF n f).set k v = rowF n (fun b => if b = k then v else f b) := by
  refine List.ext_getElem? fun q => ?_
  simp only [List.getElem?_set, rowF_len, rowF, List.getElem?_map]
  by_cases hq : q < n
  · rw [List.getElem?_range hq]
    by_cases e : k = q
    · subst e; simp [hk]
    · rw [if_neg e]; simp; exact fun h => absurd h.symm e
  · by_cases e : k = q
    · omega
    · rw [if_neg e]; simp [List.getElem?_eq_none, hq]
theorem matF_set {i k : Nat} (hi : i < n) (hk : k < n) (v : Int) : (matF n D).set i ((rowF n (D i)).set k v) = matF n (updM D i k v) := by
  rw [rowF_set hk]
  refine List.ext_getElem? fun q => ?_
  simp only [List.getElem?_set, matF_len, matF, List.getElem?_map]
  by_cases hq : q < n
  · rw [List.getElem?_range hq]
    by_cases e : i = q
    · subst e
      rw [if_pos rfl, if_pos (by simpa using hi)]
      simp only [Option.map_some]
      congr 2
      funext b
      simp [updM]
    · rw [if_neg e]
      simp only [Option.map_some]
      congr 2
      funext b
      simp [updM]; exact fun h => absurd h.symm e
  · by_cases e : i = q
    · omega
    · rw [if_neg e]; simp [List.getElem?_eq_none, hq]
end
def blankM : Mx := fun i k => if i = k then 0 else 18446744073709551615
/-- 'matrix.blank'. -/
theorem blank_ev (n : Nat) (h0 : 0 < n) (h1 : n ≤ 1000) : Ev (fun k => m87 k (n : Int)) (matF n blankM) := by
  let st : Nat → List (List Int) := fun y => (List.range n).map fun i => if i < y then rowF n (blankM i) else []
  have hst0 : st 0 = List.replicate n [] := by
    refine List.ext_getElem? fun q => ?_
    simp only [st, List.getElem?_map, List.getElem?_replicate]
    by_cases hq : q < n
    · rw [List.getElem?_range hq, if_pos hq]; simp
    · rw [if_neg hq]; simp [List.getElem?_eq_none, hq]
  have hlen : ∀ y, (st y).length = n := fun y => by simp [st]
  have hat : ∀ y q, q < n → (st y)[q]? = some (if q < y then rowF n (blankM q) else []) := fun y q hq => by simp [st, hq]
  have hrep : List.replicate n (18446744073709551615 : Int) = rowF n (fun _ => 18446744073709551615) := by
    refine List.ext_getElem? fun q => ?_
    simp only [rowF, List.getElem?_map, List.getElem?_replicate]
    by_cases hq : q < n
    · rw [List.getElem?_range hq, if_pos hq]; rfl
    · rw [if_neg hq]; simp [List.getElem?_eq_none, hq]
  have loop : ∀ (m y : Nat), y + m = n → Ev (fun k => m87_l0 (n : Int) (List.replicate n []) k (st y) y) (matF n blankM) := by
    intro m
    induction m with
    | zero =>
      intro y h
      refine Ev.succ (Ev.all fun k => ?_)
      simp only [m87_l0]
      rw [if_neg (by simp; omega)]
      congr 1
      refine List.map_congr_left fun i hi => ?_
      have := List.mem_range.1 hi
      rw [if_pos (by omega)]
    | succ m ih =>
      intro y h
      have hy : y < n := by omega
      refine Ev.succ ?_
      simp only [m87_l0]
      have hs1 : ∀ q, q < n → ((st y).set y (rowF n (fun _ => 18446744073709551615)))[q]? = some (if q = y then rowF n (fun _ => 18446744073709551615) else if q < y then rowF n (blankM q) else []) := fun q hq => by
        rw [List.getElem?_set, hlen]
        by_cases e : y = q
        · subst e; simp [hq]
        · rw [if_neg e, hat y q hq, if_neg (show ¬ q = y from fun h => e h.symm)]
      refine Ev.pos (by simp; omega) (Ev.bnd (v := 18446744073709551615) rfl (Ev.bind (repeat_ev _ n h0 h1) (Ev.bnd (v := []) ?_ (Ev.bnd (v := (st y).set y (rowF n (fun _ => 18446744073709551615))) ?_ (Ev.bnd (v := rowF n (fun _ => 18446744073709551615)) ?_ (Ev.bnd (v := 18446744073709551615) (rowF_at hy) (Ev.bnd (v := st (y + 1)) ?_ ?_)))))))
      · rw [rdx_nat, hat y y hy]; simp
      · rw [hrep]; rfl
      · rw [rdx_nat, hs1 y hy]; simp
      · congr 1
        refine List.ext_getElem? fun q => ?_
        show ((((st y).set y (rowF n (fun _ => 18446744073709551615))).set (Int.toNat (y : Int)) ((rowF n (fun _ => 18446744073709551615)).set (Int.toNat (y : Int)) 0)))[q]? = (st (y + 1))[q]?
        rw [Int.toNat_natCast, rowF_set hy]
        by_cases hq : q < n
        · rw [List.getElem?_set, List.length_set, hlen, hat _ q hq]
          by_cases e : y = q
          · subst e
            rw [if_pos rfl, if_pos hq, if_pos (by omega)]
            congr 2
            funext b
            simp only [blankM]
            by_cases e : b = y
            · rw [if_pos e, if_pos e.symm]
            · rw [if_neg e, if_neg fun h => e h.symm]
          · rw [if_neg e, hs1 q hq, if_neg (fun h => e h.symm)]
            by_cases e2 : q < y
            · rw [if_pos e2, if_pos (by omega)]
            · rw [if_neg e2, if_neg (by omega)]
        · rw [List.getElem?_eq_none (by rw [List.length_set, List.length_set, hlen]; omega), List.getElem?_eq_none (by rw [hlen]; omega)]
      · rw [show IntKind.i64.wrap ((y : Int) + 1) = ((y + 1 : Nat) : Int) from by rw [wrap_id (by omega) (by omega)]; omega]
        exact ih (y + 1) (by omega)
  refine Ev.bnd (v := List.replicate n []) ?_ (Ev.bind ?_ (Ev.pure _))
  · unfold mkl; rw [if_pos ⟨by omega, by omega⟩]; rfl
  · have := loop n 0 (by omega)
    rw [hst0] at this
    exact this
end Go.Proofs.Ytbielnhpfbhkgaa
