/- The plain law of MatrixOf: all distances, as the reference has them. -/
import Derived.Test.YtbielnhpfbhkgaaArgsMatrixOf
import Derived.Test.YtbielnhpfbhkgaaPMat
import Derived.KernelRfl
set_option linter.unusedVariables false
set_option linter.unusedSimpArgs false
namespace Go.Proofs.Ytbielnhpfbhkgaa
open Go Go.RowKit

theorem awake34 : Ev (fun k => m34 k) true := ⟨80, fun k hk => by
  obtain ⟨j, rfl⟩ : ∃ j, k = j + 80 := ⟨k - 80, by omega⟩
  kernel_rfl⟩
/-! The true distances. -/
def dcost (rs : List S_api_Route) (r v : Int) : Int := if v = r then 0 else match rs.find? (fun x => decide (x.To = v)) with | some x => x.Cost | none => 18446744073709551615
section
variable {l : List S_api_Arc} {r : Int} {rs : List S_api_Route}
theorem Way.trans {s v via via' c c' : Int} (h : Way l r s via c) (h' : Way l s v via' c') : Way l r v via (c + c') := by
  induction h' with
  | one ha hf => exact Way.more h ha hf
  | more h2 ha hf ih => rw [← Int.add_assoc]; exact Way.more ih ha hf
theorem dcost_some (hr : Routes l r rs) {x : S_api_Route} (hx : x ∈ rs) : dcost rs r x.To = x.Cost := by
  unfold dcost
  rw [if_neg (hr.way x hx).2]
  cases h : rs.find? (fun y => decide (y.To = x.To)) with
  | none => have := List.find?_eq_none.1 h x hx; simp at this
  | some y =>
    have hy := List.mem_of_find?_eq_some h
    have e : y.To = x.To := by simpa using List.find?_some h
    rw [hr.same hy hx e]
theorem dcost_cases (hm : May l) (hr : Routes l r rs) (v : Int) : dcost rs r v = 18446744073709551615 ∨ (v = r ∧ dcost rs r v = 0) ∨ (∃ via, Way l r v via (dcost rs r v)) ∧ 0 ≤ dcost rs r v ∧ dcost rs r v ≤ 69793218560 := by
  by_cases e : v = r
  · exact .inr (.inl ⟨e, by unfold dcost; rw [if_pos e]⟩)
  · cases h : rs.find? (fun y => decide (y.To = v)) with
    | none => left; unfold dcost; rw [if_neg e, h]
    | some x =>
      have hx := List.mem_of_find?_eq_some h
      have e2 : x.To = v := by simpa using List.find?_some h
      have hd := dcost_some hr hx
      rw [e2] at hd
      have hb := hr.to_in hm hx
      refine .inr (.inr ⟨⟨x.Via, ?_⟩, by omega, by omega⟩)
      rw [hd, ← e2]; exact (hr.way x hx).1
theorem dcost_u (hm : May l) (hr : Routes l r rs) (v : Int) : U64 (dcost rs r v) := by
  unfold U64
  rcases dcost_cases hm hr v with h | ⟨_, h⟩ | ⟨_, h1, h2⟩ <;> omega
theorem dcost_way (hm : May l) (hr : Routes l r rs) {v via c : Int} (h : Way l r v via c) : dcost rs r v ≤ c := by
  by_cases e : v = r
  · have := h.pos hm
    unfold dcost; rw [if_pos e]; omega
  · obtain ⟨x, hx, e2, hle⟩ := hr.all _ _ _ h e
    rw [← e2, dcost_some hr hx]
    unfold lexle at hle; omega
theorem dcost_tri (hm : May l) {s : Int} {rs' : List S_api_Route} (hr : Routes l r rs) (hr' : Routes l s rs') (v : Int) : dcost rs r v ≤ addS (dcost rs r s) (dcost rs' s v) := by
  have u1 := dcost_u hm hr v
  have u2 := dcost_u hm hr s
  have u3 := dcost_u hm hr' v
  unfold U64 at u1 u2 u3
  unfold addS
  split
  · rename_i hs
    rcases dcost_cases hm hr s with h | ⟨e, h⟩ | ⟨⟨via, hw⟩, _, _⟩
    · omega
    · subst e
      have : dcost rs s v = dcost rs' s v := by
        have a1 : dcost rs s v ≤ dcost rs' s v := by
          rcases dcost_cases hm hr' v with h' | ⟨e', h'⟩ | ⟨⟨via', hw'⟩, _, _⟩
          · omega
          · have : dcost rs s v = 0 := by unfold dcost; rw [if_pos e']
            omega
          · exact dcost_way hm hr hw'
        have a2 : dcost rs' s v ≤ dcost rs s v := by
          rcases dcost_cases hm hr v with h' | ⟨e', h'⟩ | ⟨⟨via', hw'⟩, _, _⟩
          · omega
          · have : dcost rs' s v = 0 := by unfold dcost; rw [if_pos e']
            omega
          · exact dcost_way hm hr' hw'
        omega
      omega
    · rcases dcost_cases hm hr' v with h' | ⟨e', h'⟩ | ⟨⟨via', hw'⟩, _, _⟩
      · omega
      · subst e'; omega
      · exact dcost_way hm hr (hw.trans hw')
  · omega
theorem entry_ev (hm : May l) (hl : l.length ≤ 5000) (h1 : 1 ≤ r ∧ r ≤ 64) (hr : Routes l r rs) {v : Int} (hv : 1 ≤ v ∧ v ≤ 64) : Ev (fun k => m38 k l r v) (dcost rs r v) := by
  obtain ⟨s, s1, hs⟩ := dist_ev l hl hm r h1 hr
  refine Ev.bind s1 (Ev.pos (by omega) ?_)
  by_cases e : v = r
  · have h2 := (hs.is v (by omega) (by omega)).2 (.inl e)
    refine Ev.pos h2 (Ev.pos (by omega) (Ev.of ?_))
    unfold dcost
    rw [if_pos e, e, hs.root.2]
  · cases h : rs.find? (fun y => decide (y.To = v)) with
    | none =>
      have hno : ¬ s.2 v.toNat = true := fun ht => by
        rcases (hs.is v (by omega) (by omega)).1 ht with e' | ⟨x, hx, e'⟩
        · exact e e'
        · have := List.find?_eq_none.1 h x hx
          simp [e'] at this
      refine Ev.neg hno (Ev.of ?_)
      unfold dcost
      rw [if_neg e, h]
    | some x =>
      have hx := List.mem_of_find?_eq_some h
      have e2 : x.To = v := by simpa using List.find?_some h
      have h2 := (hs.is v (by omega) (by omega)).2 (.inr ⟨x, hx, e2⟩)
      refine Ev.pos h2 (Ev.pos (by omega) (Ev.of ?_))
      rw [← e2, hs.cost x hx, dcost_some hr hx]
end
/-! Floyd and Warshall. -/
def fw (D : Mx) (b : Nat) : Mx := fun i k => if addS (D i b) (D b k) < D i k then addS (D i b) (D b k) else D i k
structure MInv (n : Nat) (dst : Mx) (D : Mx) : Prop where mk ::
  u : ∀ i k, i < n → k < n → U64 (D i k)
  diag : ∀ i, i < n → D i i = 0
  low : ∀ i k, i < n → k < n → dst i k ≤ D i k
section
variable {n b : Nat} {dst D : Mx}
theorem addS_mono {a b c d : Int} (h1 : a ≤ c) (h2 : b ≤ d) : addS a b ≤ addS c d := by
  unfold addS
  repeat' split
  all_goals omega
theorem fw_le (i k : Nat) : fw D b i k ≤ D i k := by unfold fw; split <;> omega
theorem fw_le2 (i k : Nat) : fw D b i k ≤ addS (D i b) (D b k) := by unfold fw; split <;> omega
theorem fw_or (i k : Nat) : fw D b i k = D i k ∨ fw D b i k = addS (D i b) (D b k) := by unfold fw; split <;> simp
theorem fw_col (h : MInv n dst D) (hb : b < n) {i : Nat} (hi : i < n) : fw D b i b = D i b := by
  have := h.u i b hi hb
  unfold U64 at this
  unfold fw
  rw [h.diag b hb]
  have e : addS (D i b) 0 = D i b := by unfold addS; rw [if_pos (by omega)]; omega
  rw [e]; split <;> rfl
theorem fw_row (h : MInv n dst D) (hb : b < n) {k : Nat} (hk : k < n) : fw D b b k = D b k := by
  have := h.u b k hb hk
  unfold U64 at this
  unfold fw
  rw [h.diag b hb]
  have e : addS 0 (D b k) = D b k := by unfold addS; rw [if_pos (by omega)]; omega
  rw [e]; split <;> rfl
theorem MInv.fw (h : MInv n dst D) (hb : b < n) (tri : ∀ i j k, i < n → j < n → k < n → dst i k ≤ addS (dst i j) (dst j k)) : MInv n dst (fw D b) := by
  refine ⟨fun i k hi hk => ?_, fun i hi => ?_, fun i k hi hk => ?_⟩
  · rcases fw_or (D := D) (b := b) i k with e | e <;> rw [e]
    · exact h.u i k hi hk
    · exact addS_u (h.u i b hi hb) (h.u b k hb hk)
  · have h1 := fw_le (D := D) (b := b) i i
    rw [h.diag i hi] at h1
    have h2 : 0 ≤ Go.Proofs.Ytbielnhpfbhkgaa.fw D b i i := by
      rcases fw_or (D := D) (b := b) i i with e | e <;> rw [e]
      · exact (h.u i i hi hi).1
      · exact (addS_u (h.u i b hi hb) (h.u b i hb hi)).1
    omega
  · rcases fw_or (D := D) (b := b) i k with e | e <;> rw [e]
    · exact h.low i k hi hk
    · exact Int.le_trans (tri i b k hi hb hk) (addS_mono (h.low i b hi hb) (h.low b k hb hk))
/-- By the nodes up to here nothing gets nearer. -/
def Clo (n m : Nat) (D : Mx) : Prop := ∀ j, j < m → ∀ i k, i < n → k < n → D i k ≤ addS (D i j) (D j k)
theorem addS_three {x y z a b c : Int} (ha : U64 a) (hb : U64 b) (hc : U64 c) (h : x ≤ addS a y) (hy : y ≤ addS b c) : x ≤ addS (addS a b) c := by
  unfold U64 at *
  unfold addS at *
  repeat' split at h
  all_goals repeat' split at hy
  all_goals repeat' split
  all_goals omega
theorem Clo.fw (h : MInv n dst D) (hc : Clo n b D) (hb : b < n) : Clo n (b + 1) (fw D b) := by
  intro j hj i k hi hk
  have hjn : j < n := by omega
  rcases Nat.lt_or_ge j b with hlt | hge
  · have u1 := h.u i j hi hjn
    have u2 := h.u j k hjn hk
    have u3 := h.u i b hi hb
    have u4 := h.u b k hb hk
    have u5 := h.u b j hb hjn
    have u6 := h.u j b hjn hb
    have c1 := hc j hlt i k hi hk
    have c2 := hc j hlt b k hb hk
    have c3 := hc j hlt i b hi hb
    have l1 := fw_le (D := D) (b := b) i k
    have l2 := fw_le2 (D := D) (b := b) i k
    unfold U64 at *
    rcases fw_or (D := D) (b := b) i j with e1 | e1 <;> rcases fw_or (D := D) (b := b) j k with e2 | e2 <;> rw [e1, e2] <;> unfold addS at * <;> (repeat' split at l2) <;> (repeat' split at c1) <;> (repeat' split at c2) <;> (repeat' split at c3) <;> (repeat' split) <;> omega
  · obtain rfl : j = b := by omega
    rw [fw_col h hb hi, fw_row h hb hk]
    exact fw_le2 i k
end
/-- What is done when row i has come to column y. -/
def ps (D : Mx) (b i y : Nat) : Mx := fun a c => if a < i ∨ (a = i ∧ c < y) then fw D b a c else D a c
theorem matF_congr {n : Nat} {D E : Mx} (h : ∀ i k, i < n → k < n → D i k = E i k) : matF n D = matF n E := by
  refine List.map_congr_left fun i hi => List.map_congr_left fun k hk => h i k (List.mem_range.1 hi) (List.mem_range.1 hk)
section
variable {n b : Nat} {dst D : Mx} {ns : List Int}
theorem l3_ev (hn : ns.length = n) (h64 : n ≤ 64) (h : MInv n dst D) (hb : b < n) {i : Nat} (hi : i < n) : ∀ (m y : Nat), y + m = n → Ev (fun k => m35_l3 ns b i k (matF n (ps D b i y)) y) (matF n (ps D b (i + 1) 0)) := by
  intro m
  induction m with
  | zero =>
    intro y hy
    refine Ev.succ (Ev.all fun k => ?_)
    simp only [m35_l3]
    rw [if_neg (by omega)]
    congr 1
    refine matF_congr fun a c ha hc => ?_
    unfold ps
    by_cases h1 : a < i ∨ (a = i ∧ c < y)
    · rw [if_pos h1, if_pos (by omega)]
    · rw [if_neg h1, if_neg (by omega)]
  | succ m ih =>
    intro y hy
    have hyn : y < n := by omega
    have e1 : ps D b i y i y = D i y := by unfold ps; rw [if_neg (by omega)]
    have e2 : ps D b i y i b = D i b := by
      unfold ps
      split
      · exact fw_col h hb hi
      · rfl
    have e3 : ps D b i y b y = D b y := by
      unfold ps
      split
      · exact fw_row h hb hyn
      · rfl
    refine Ev.succ ?_
    simp only [m35_l3]
    refine Ev.pos (by omega) (Ev.bnd (matF_row hi) (Ev.bnd (matF_row hi) (Ev.bnd (rowF_at hyn) (Ev.bnd (matF_row hi) (Ev.bnd (rowF_at hb) (Ev.bnd (matF_row hb) (Ev.bnd (rowF_at hyn) (Ev.bnd (v := addS (D i b) (D b y)) ?_ (Ev.bnd (rowF_at hyn) (Ev.bnd (v := matF n (ps D b i (y + 1))) ?_ ?_))))))))))
    · rw [e2, e3]; exact add_eq (h.u i b hi hb) (h.u b y hb hyn)
    · rw [e1, Int.toNat_natCast, Int.toNat_natCast, matF_set hi hyn]
      congr 1
      refine matF_congr fun a c ha hc => ?_
      unfold updM
      by_cases h1 : a = i ∧ c = y
      · obtain ⟨rfl, rfl⟩ := h1
        have e0 : ps D b a (c + 1) a c = fw D b a c := by unfold ps; rw [if_pos (by omega)]
        rw [if_pos ⟨rfl, rfl⟩, e0]
        rfl
      · rw [if_neg h1]
        unfold ps
        by_cases h2 : a < i ∨ (a = i ∧ c < y)
        · rw [if_pos h2, if_pos (by omega)]
        · rw [if_neg h2, if_neg (by omega)]
    · rw [show IntKind.i64.wrap ((y : Int) + 1) = ((y + 1 : Nat) : Int) from by rw [wrap_id (by omega) (by omega)]; omega]
      exact ih (y + 1) (by omega)
theorem l2_ev (hn : ns.length = n) (h64 : n ≤ 64) (h : MInv n dst D) (hb : b < n) : ∀ (m i : Nat), i + m = n → Ev (fun k => m35_l2 ns b k (matF n (ps D b i 0)) i) (matF n (fw D b)) := by
  intro m
  induction m with
  | zero =>
    intro i hi
    refine Ev.succ (Ev.all fun k => ?_)
    simp only [m35_l2]
    rw [if_neg (by omega)]
    congr 1
    refine matF_congr fun a c ha hc => ?_
    unfold ps
    rw [if_pos (by omega)]
  | succ m ih =>
    intro i hi
    refine Ev.succ ?_
    simp only [m35_l2]
    refine Ev.pos (by omega) (Ev.bind (l3_ev hn h64 h hb (by omega) n 0 (by omega)) ?_)
    rw [show IntKind.i64.wrap ((i : Int) + 1) = ((i + 1 : Nat) : Int) from by rw [wrap_id (by omega) (by omega)]; omega]
    exact ih (i + 1) (by omega)
theorem l1_ev (hn : ns.length = n) (h64 : n ≤ 64) (tri : ∀ i j k, i < n → j < n → k < n → dst i k ≤ addS (dst i j) (dst j k)) : ∀ (m b : Nat) (D : Mx), b + m = n → MInv n dst D → Clo n b D → ∃ E : Mx, Ev (fun k => m35_l1 ns k (matF n D) b) (matF n E) ∧ MInv n dst E ∧ Clo n n E ∧ ∀ i k, E i k ≤ D i k := by
  intro m
  induction m with
  | zero =>
    intro b D hb h hc
    obtain rfl : b = n := by omega
    refine ⟨D, Ev.succ (Ev.all fun k => ?_), h, hc, fun _ _ => Int.le_refl _⟩
    simp only [m35_l1]
    rw [if_neg (by omega)]
  | succ m ih =>
    intro b D hb h hc
    have hbn : b < n := by omega
    obtain ⟨E, e1, e2, e3, e4⟩ := ih (b + 1) (fw D b) (by omega) (h.fw hbn tri) (hc.fw h hbn)
    refine ⟨E, Ev.succ ?_, e2, e3, fun i k => Int.le_trans (e4 i k) (fw_le i k)⟩
    simp only [m35_l1]
    have h2 := l2_ev hn h64 h hbn n 0 (by omega)
    have e0 : matF n (ps D b 0 0) = matF n D := matF_congr fun a c _ _ => by unfold ps; rw [if_neg (by omega)]
    rw [e0] at h2
    refine Ev.pos (by omega) (Ev.bind h2 ?_)
    rw [show IntKind.i64.wrap ((b : Int) + 1) = ((b + 1 : Nat) : Int) from by rw [wrap_id (by omega) (by omega)]; omega]
    exact e1
/-- The arcs go in. -/
theorem l0_ev {l : List S_api_Arc} (hm : May l) (hlz : Sz l) (hn : ns.length = n) (h64 : n ≤ 64) (hp : ns.Pairwise (· < ·)) (hin : ∀ a ∈ l, a.From ∈ ns ∧ a.To ∈ ns)
    (harc : ∀ a ∈ l, ∀ i k (hi : i < ns.length) (hk : k < ns.length), ns[i] = a.From → ns[k] = a.To → dst i k ≤ a.Cost) : ∀ (m t : Nat) (D : Mx), t + m = l.length → MInv n dst D → (∀ a ∈ l.take t, ∀ i k (hi : i < ns.length) (hk : k < ns.length), ns[i] = a.From → ns[k] = a.To → D i k ≤ a.Cost) →
    ∃ E : Mx, Ev (fun k => m35_l0 l ns k (matF n D) t) (matF n E) ∧ MInv n dst E ∧ ∀ a ∈ l, ∀ i k (hi : i < ns.length) (hk : k < ns.length), ns[i] = a.From → ns[k] = a.To → E i k ≤ a.Cost := by
  intro m
  induction m with
  | zero =>
    intro t D ht h hc
    obtain rfl : t = l.length := by omega
    rw [List.take_length] at hc
    refine ⟨D, Ev.succ (Ev.all fun k => ?_), h, hc⟩
    simp only [m35_l0]
    rw [if_neg (by omega)]
  | succ m ih =>
    intro t D ht h hc
    have htl : t < l.length := by omega
    have ha := List.getElem_mem htl
    have hok := hm.1 _ ha
    unfold OkA at hok
    obtain ⟨i, hi, ei⟩ := List.getElem_of_mem (hin _ ha).1
    obtain ⟨j, hj, ej⟩ := List.getElem_of_mem (hin _ ha).2
    have hij : i ≠ j := fun e => by subst e; omega
    have hi' : i < n := by omega
    have hj' : j < n := by omega
    have s1 := search_ev ns hp (by omega) i hi
    have s2 := search_ev ns hp (by omega) j hj
    rw [ei] at s1
    rw [ej] at s2
    let v : Int := if l[t].Cost < D i j then l[t].Cost else D i j
    have hu := h.u i j hi' hj'
    unfold U64 at hu
    have hinj : ∀ a b (ha : a < ns.length) (hb : b < ns.length), ns[a] = ns[b] → a = b := fun a b ha hb e => by
      rcases Nat.lt_trichotomy a b with h | h | h
      · have := List.pairwise_iff_getElem.1 hp a b ha hb h; omega
      · exact h
      · have := List.pairwise_iff_getElem.1 hp b a hb ha h; omega
    have hI : MInv n dst (updM D i j v) := by
      refine ⟨fun a c h1 h2 => ?_, fun a h1 => ?_, fun a c h1 h2 => ?_⟩
      · unfold updM
        split
        · simp only [v, U64]; split <;> omega
        · exact h.u a c h1 h2
      · unfold updM
        rw [if_neg (by omega)]
        exact h.diag a h1
      · unfold updM
        split
        · rename_i e
          obtain ⟨rfl, rfl⟩ := e
          have l1 := harc _ ha a c hi hj ei ej
          have l2 := h.low a c h1 h2
          simp only [v]; split <;> omega
        · exact h.low a c h1 h2
    obtain ⟨E, e1, e2, e3⟩ := ih (t + 1) (updM D i j v) (by omega) hI fun a hat p q hp1 hq1 ep eq => by
      rw [List.take_succ_eq_append_getElem htl, List.mem_append, List.mem_singleton] at hat
      unfold updM
      split
      · rename_i e
        obtain ⟨rfl, rfl⟩ := e
        rcases hat with hat | rfl
        · have := hc a hat p q hp1 hq1 ep eq
          simp only [v]; split <;> omega
        · simp only [v]; split <;> omega
      · rename_i e
        rcases hat with hat | rfl
        · exact hc a hat p q hp1 hq1 ep eq
        · exact absurd ⟨hinj p i hp1 hi (by rw [ep, ei]), hinj q j hq1 hj (by rw [eq, ej])⟩ e
    refine ⟨E, Ev.succ ?_, e2, e3⟩
    simp only [m35_l0]
    refine Ev.pos (by omega) (Ev.bnd (rdx_lt htl) (Ev.bind s1 (Ev.bind s2 (Ev.bnd (matF_row hi') (Ev.bnd (matF_row hi') (Ev.bnd (rowF_at hj') (Ev.bnd (rowF_at hj') (Ev.bnd (v := matF n (updM D i j v)) ?_ ?_))))))))
    · rw [Int.toNat_natCast, Int.toNat_natCast, wrapu_id (by omega) (by omega), matF_set hi' hj']
    · rw [wrap_nat1 hlz htl]; exact e1
end
theorem ints_same (ns : List Int) (hz : Sz ns) : Ev (fun k => m37 k ns ns) true := by
  have loop : ∀ (n i : Nat), i + n = ns.length → Ev (fun k => m37_l0 ns ns k i) (.go ()) := by
    intro n
    induction n with
    | zero =>
      intro i h
      refine Ev.succ (Ev.all fun k => ?_)
      simp only [m37_l0]; rw [if_neg (by omega)]
    | succ n ih =>
      intro i h
      have hi : i < ns.length := by omega
      refine Ev.succ ?_
      simp only [m37_l0]
      refine Ev.pos (by omega) (Ev.bnd (rdx_lt hi) (Ev.bnd (rdx_lt hi) (Ev.pos rfl ?_)))
      rw [wrap_nat1 hz hi]; exact ih (i + 1) (by omega)
  exact Ev.pos rfl (Ev.onGo (loop ns.length 0 (by omega)) (Ev.pure _))
theorem matrixOf_true : matrixOf_pure := by
  intro l hgl hsz
  refine Ev.get (f := fun k => m5 k l) ?_
  have aw : Ev (fun k => Option.bind (m34 k) fun x => some x) true := Ev.bind awake34 (Ev.pure _)
  by_cases c0 : 40 < (l.length : Int)
  · exact Ev.pos c0 aw
  have hl : l.length ≤ 5000 := by omega
  refine Ev.neg c0 ?_
  obtain ⟨ns, n1, n2, n3, n4, n5⟩ := nodes_ev l hsz
  obtain ⟨bm, m1, m2⟩ := may_ev l hsz
  have hnil : ns = [] → Ev (fun k => m35 k l) ([], []) := fun e => by
    rw [e] at n1
    exact Ev.bind n1 (Ev.pos rfl (Ev.pure _))
  cases bm with
  | false =>
    have hm : ¬ May l := fun h => by have := m2.2 h; cases this
    refine Ev.bind (hnil (n5 hm)) (Ev.bind m1 (Ev.neg (by simp) (Ev.bind (v := true) (Ev.pos rfl (Ev.pos rfl aw)) (Ev.pure _))))
  | true =>
  have hm := m2.1 rfl
  obtain ⟨rs, r1, r2, r3, r4⟩ := nodesR_ev l hsz
  have hnr : ns = rs := lt_unique n2 r2 fun x => by
    rw [n4 hm, r4]
    exact ⟨fun h => ⟨(hm.node h).1, (hm.node h).2, h⟩, fun h => h.2.2⟩
  subst hnr
  have hnz : Sz ns := by unfold Sz; omega
  have hin : ∀ x ∈ ns, 1 ≤ x ∧ x ≤ 64 := fun x hx => hm.node ((n4 hm x).1 hx)
  -- what 'matrix.Of' gives
  have main : ∃ E : Mx, Ev (fun k => m35 k l) (ns, matF ns.length E) ∧ (∀ i k (hi : i < ns.length) (hk : k < ns.length), Ev (fun f => m38 f l ns[i] ns[k]) (E i k)) ∧ (∀ i k, i < ns.length → k < ns.length → U64 (E i k)) ∧ Clo ns.length ns.length E := by
    rcases Nat.eq_zero_or_pos ns.length with h0 | h0
    · have e := List.length_eq_zero_iff.1 h0
      refine ⟨blankM, ?_, fun i k hi => by omega, fun i k hi => by omega, fun j hj => by omega⟩
      have := hnil e
      rw [e]; exact this
    · have hR : ∀ r : Int, ∃ rs, Routes l r rs := fun r => by
        obtain ⟨rs, _, h, _⟩ := routes_ev l hl r
        exact ⟨rs, h hm⟩
      let R : Int → List S_api_Route := fun r => Classical.choose (hR r)
      have hRr : ∀ r, Routes l r (R r) := fun r => Classical.choose_spec (hR r)
      let nd : Nat → Int := fun i => ns.getD i 0
      have hnd : ∀ i (hi : i < ns.length), nd i = ns[i] := fun i hi => by simp [nd, hi]
      let dst : Mx := fun i k => dcost (R (nd i)) (nd i) (nd k)
      have tri : ∀ i j k, i < ns.length → j < ns.length → k < ns.length → dst i k ≤ addS (dst i j) (dst j k) := fun i j k _ _ _ => dcost_tri hm (hRr _) (hRr _) _
      have harc : ∀ a ∈ l, ∀ i k (hi : i < ns.length) (hk : k < ns.length), ns[i] = a.From → ns[k] = a.To → dst i k ≤ a.Cost := fun a ha i k hi hk e1 e2 => by
        simp only [dst]
        rw [hnd i hi, hnd k hk, e1, e2]
        exact dcost_way hm (hRr _) (Way.one ha rfl)
      have hB : MInv ns.length dst blankM := by
        refine ⟨fun i k _ _ => ?_, fun i _ => ?_, fun i k hi hk => ?_⟩
        · unfold blankM; split
          · exact ⟨by omega, by omega⟩
          · exact ⟨by omega, by omega⟩
        · unfold blankM; rw [if_pos rfl]
        · unfold blankM
          split
          · rename_i e; subst e
            simp only [dst]; unfold dcost; rw [if_pos rfl]; exact Int.le_refl _
          · exact (dcost_u hm (hRr _) _).2
      have hnode : ∀ a ∈ l, a.From ∈ ns ∧ a.To ∈ ns := fun a ha => ⟨(n4 hm _).2 ⟨a, ha, .inl rfl⟩, (n4 hm _).2 ⟨a, ha, .inr rfl⟩⟩
      obtain ⟨D, d1, d2, d3⟩ := l0_ev hm hsz rfl n3 n2 hnode harc l.length 0 blankM (by omega) hB (fun a ha => by simp at ha)
      obtain ⟨E, e1, e2, e3, e4⟩ := l1_ev (ns := ns) rfl n3 tri ns.length 0 D (by omega) d2 (fun j hj => by omega)
      refine ⟨E, ?_, fun i k hi hk => ?_, e2.u, e3⟩
      · exact Ev.bind n1 (Ev.neg (by omega) (Ev.bind (blank_ev ns.length h0 (by omega)) (Ev.bind d1 (Ev.bind e1 (Ev.pure _)))))
      · have hway : ∀ {r v via c : Int}, Way l r v via c → ∀ i (hi : i < ns.length), ns[i] = r → ∀ k (hk : k < ns.length), ns[k] = v → E i k ≤ c := by
          intro r v via c hw
          induction hw with
          | @one a ha hf =>
            intro i hi ei k hk ek
            exact Int.le_trans (e4 i k) (d3 a ha i k hi hk (by rw [ei, hf]) ek)
          | @more v via c a hw ha hf ih =>
            intro i hi ei k hk ek
            obtain ⟨j, hj, ej⟩ := List.getElem_of_mem (hnode a ha).1
            have h1 := ih i hi ei j hj (by rw [ej, hf])
            have h2 := Int.le_trans (e4 j k) (d3 a ha j k hj hk ej ek)
            have h3 := e3 j hj i k hi hk
            unfold addS at h3
            split at h3 <;> omega
        have hent := entry_ev hm hl (hin _ (List.getElem_mem hi)) (hRr ns[i]) (hin _ (List.getElem_mem hk))
        have hlow := e2.low i k hi hk
        simp only [dst] at hlow
        rw [hnd i hi, hnd k hk] at hlow
        have hup : E i k ≤ dcost (R ns[i]) ns[i] ns[k] := by
          rcases dcost_cases hm (hRr ns[i]) ns[k] with h | ⟨e, h⟩ | ⟨⟨via, hw⟩, _⟩
          · rw [h]; exact (e2.u i k hi hk).2
          · have : k = i := by
              rcases Nat.lt_trichotomy k i with h | h | h
              · have := List.pairwise_iff_getElem.1 n2 k i hk hi h; omega
              · exact h
              · have := List.pairwise_iff_getElem.1 n2 i k hi hk h; omega
            subst this
            rw [e2.diag k hk, h]; exact Int.le_refl _
          · exact hway hw i hi rfl k hk rfl
        have : E i k = dcost (R ns[i]) ns[i] ns[k] := by omega
        rw [this]; exact hent
  obtain ⟨E, e1, e2, e3, e4⟩ := main
  have hml : (matF ns.length E).length = ns.length := matF_len
  refine Ev.bind e1 (Ev.bind m1 (Ev.pos rfl (Ev.bind r1 (Ev.bind (v := false) ?_ (Ev.neg (by simp) ?_)))))
  · refine Ev.bind (ints_same ns hnz) (Ev.pos rfl (Ev.of ?_))
    simp [hml]
  have loop2 : ∀ (i k : Nat), i < ns.length → k < ns.length → ∀ (n j : Nat), j + n = ns.length → Ev (fun f => m5_l2 (ns, matF ns.length E) ns i k f j) (.go ()) := by
    intro i k hi hk n
    induction n with
    | zero =>
      intro j h
      refine Ev.succ (Ev.all fun k => ?_)
      simp only [m5_l2]; rw [if_neg (by omega)]
    | succ n ih =>
      intro j h
      have hj : j < ns.length := by omega
      refine Ev.succ ?_
      simp only [m5_l2]
      refine Ev.pos (by omega) (Ev.bind (v := false) (Ev.bnd (matF_row hj) (Ev.pos (by rw [rowF_len]) (Ev.bnd (matF_row hi) (Ev.bnd (rowF_at hk) (Ev.bnd (matF_row hi) (Ev.bnd (rowF_at hj) (Ev.bnd (matF_row hj) (Ev.bnd (rowF_at hk) (Ev.bnd (addR_eq (e3 i j hi hj) (e3 j k hj hk)) (Ev.of ?_)))))))))) (Ev.neg (by simp) ?_))
      · have := e4 j hj i k hi hk
        simp; exact this
      · rw [wrap_nat1 hnz hj]; exact ih (j + 1) (by omega)
  have loop1 : ∀ (i : Nat), i < ns.length → ∀ (n k : Nat), k + n = ns.length → Ev (fun f => m5_l1 l (ns, matF ns.length E) ns i f k) (.go ()) := by
    intro i hi n
    induction n with
    | zero =>
      intro k h
      refine Ev.succ (Ev.all fun f => ?_)
      simp only [m5_l1]; rw [if_neg (by omega)]
    | succ n ih =>
      intro k h
      have hk : k < ns.length := by omega
      refine Ev.succ ?_
      simp only [m5_l1]
      refine Ev.pos (by omega) (Ev.bnd (matF_row hi) (Ev.bnd (rowF_at hk) (Ev.bnd (rdx_lt hi) (Ev.bnd (rdx_lt hk) (Ev.bind (e2 i k hi hk) (Ev.pos rfl (Ev.onGo (loop2 i k hi hk ns.length 0 (by omega)) ?_)))))))
      rw [wrap_nat1 hnz hk]; exact ih (k + 1) (by omega)
  have loop0 : ∀ (n i : Nat), i + n = ns.length → Ev (fun f => m5_l0 l (ns, matF ns.length E) ns f i) (.go ()) := by
    intro n
    induction n with
    | zero =>
      intro i h
      refine Ev.succ (Ev.all fun f => ?_)
      simp only [m5_l0]; rw [if_neg (by omega)]
    | succ n ih =>
      intro i h
      have hi : i < ns.length := by omega
      refine Ev.succ ?_
      simp only [m5_l0]
      refine Ev.pos (by omega) (Ev.bnd (matF_row hi) (Ev.pos (by rw [rowF_len]) (Ev.onGo (loop1 i hi ns.length 0 (by omega)) ?_)))
      rw [wrap_nat1 hnz hi]; exact ih (i + 1) (by omega)
  exact Ev.onGo (loop0 ns.length 0 (by omega)) aw
end Go.Proofs.Ytbielnhpfbhkgaa
