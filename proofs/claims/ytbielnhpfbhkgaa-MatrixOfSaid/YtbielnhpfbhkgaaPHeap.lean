/- Plain facts on heaps of spots: what is put and taken, and that the least one is taken. -/
import Derived.Test.YtbielnhpfbhkgaaPTool
import Derived.Test.YtbielnhpfbhkgaaS0
set_option linter.unusedVariables false
set_option linter.unusedSimpArgs false
namespace Go.Proofs.Ytbielnhpfbhkgaa
open Go Go.RowKit

def leS (a b : S_api_Spot) : Prop := a.Cost < b.Cost ∨ (a.Cost = b.Cost ∧ a.Node ≤ b.Node)
def lessS (a b : S_api_Spot) : Bool := if a.Cost = b.Cost then decide (a.Node < b.Node) else decide (a.Cost < b.Cost)
theorem less_eq (a b : S_api_Spot) : m219 a b = some (lessS a b) := by
  simp only [m219, lessS]
  split <;> rfl
theorem lessS_t {a b : S_api_Spot} : lessS a b = true ↔ ¬ leS b a := by
  unfold lessS leS
  split <;> simp <;> omega
theorem lessS_f {a b : S_api_Spot} : lessS a b = false ↔ leS b a := by
  unfold lessS leS
  split <;> simp <;> omega
theorem leS.refl (a : S_api_Spot) : leS a a := by unfold leS; omega
theorem leS.trans {a b c : S_api_Spot} (h : leS a b) (k : leS b c) : leS a c := by unfold leS at *; omega
theorem leS.total (a b : S_api_Spot) : leS a b ∨ leS b a := by unfold leS; omega
def swp (h : List S_api_Spot) (i j : Nat) (a b : S_api_Spot) : List S_api_Spot := (h.set i b).set j a
theorem swp_len (h : List S_api_Spot) (i j : Nat) (a b : S_api_Spot) : (swp h i j a b).length = h.length := by simp [swp]
theorem swp_get {h : List S_api_Spot} {i j : Nat} {a b : S_api_Spot} (hij : i ≠ j) (hi : i < h.length) (hj : j < h.length) (k : Nat) : (swp h i j a b)[k]? = if k = j then some a else if k = i then some b else h[k]? := by
  unfold swp
  by_cases h1 : k = j
  · subst h1; simp [hj]
  · rw [if_neg h1, List.getElem?_set_ne (fun e => h1 e.symm)]
    by_cases h2 : k = i
    · subst h2; simp [hi]
    · rw [if_neg h2, List.getElem?_set_ne (fun e => h2 e.symm)]
theorem swp_perm {h : List S_api_Spot} {i j : Nat} {a b : S_api_Spot} (ha : h[i]? = some a) (hb : h[j]? = some b) : (swp h i j a b).Perm h := by
  obtain ⟨h1, rfl⟩ := List.getElem?_eq_some_iff.1 ha
  obtain ⟨h2, rfl⟩ := List.getElem?_eq_some_iff.1 hb
  exact List.set_set_perm h1 h2
/-- Each is no less than the one above it. -/
def Heap (h : List S_api_Spot) : Prop := ∀ (j : Nat) (x y : S_api_Spot), 0 < j → h[j]? = some x → h[(j - 1) / 2]? = some y → leS y x
theorem Heap.min {h : List S_api_Spot} (hh : Heap h) {y : S_api_Spot} (h0 : h[0]? = some y) : ∀ (n j : Nat) (x : S_api_Spot), j < n → h[j]? = some x → leS y x
  | 0, j, x, hn, _ => absurd hn (Nat.not_lt_zero _)
  | n + 1, j, x, hn, hx => by
    rcases Nat.eq_zero_or_pos j with e | e
    · subst e; rw [h0] at hx; cases hx; exact leS.refl _
    · have hlt : (j - 1) / 2 < h.length := by have := (List.getElem?_eq_some_iff.1 hx).1; omega
      exact (hh.min h0 n ((j - 1) / 2) _ (by omega) (List.getElem?_eq_getElem hlt)).trans (hh j x _ e hx (List.getElem?_eq_getElem hlt))
theorem Heap.min_mem {h : List S_api_Spot} (hh : Heap h) {y x : S_api_Spot} (h0 : h[0]? = some y) (hx : x ∈ h) : leS y x := by
  obtain ⟨j, hj⟩ := List.getElem?_of_mem hx
  exact hh.min h0 (j + 1) j x (Nat.lt_succ_self _) hj
/-- The same, but for i and what is above it. -/
structure HeapU (h : List S_api_Spot) (i : Nat) : Prop where mk ::
  one : ∀ (j : Nat) (x y : S_api_Spot), 0 < j → j ≠ i → h[j]? = some x → h[(j - 1) / 2]? = some y → leS y x
  two : ∀ (j : Nat) (x y : S_api_Spot), 0 < j → 0 < i → (j - 1) / 2 = i → h[j]? = some x → h[(i - 1) / 2]? = some y → leS y x
theorem HeapU.step {h : List S_api_Spot} {i : Nat} {a b : S_api_Spot} (hu : HeapU h i) (hi : 0 < i) (ha : h[i]? = some a) (hb : h[(i - 1) / 2]? = some b) (hl : ¬ leS b a) : HeapU (swp h i ((i - 1) / 2) a b) ((i - 1) / 2) := by
  have h1 := (List.getElem?_eq_some_iff.1 ha).1
  have h2 := (List.getElem?_eq_some_iff.1 hb).1
  have hab : leS a b := (leS.total a b).resolve_right hl
  have g := fun k => swp_get (a := a) (b := b) (show i ≠ (i - 1) / 2 by omega) h1 h2 k
  refine ⟨fun j x y hj hne hx hy => ?_, fun j x y hj hp hpar hx hy => ?_⟩
  · rw [g] at hx hy
    rw [if_neg hne] at hx
    by_cases e : j = i
    · subst e
      rw [if_pos rfl] at hx hy
      cases hx; cases hy; exact hab
    · rw [if_neg e] at hx
      by_cases e1 : (j - 1) / 2 = (i - 1) / 2
      · rw [if_pos e1] at hy; cases hy
        rw [← e1] at hb
        exact hab.trans (hu.one j x b hj e hx hb)
      · rw [if_neg e1] at hy
        by_cases e2 : (j - 1) / 2 = i
        · rw [if_pos e2] at hy; cases hy
          exact hu.two j x b hj hi e2 hx hb
        · rw [if_neg e2] at hy
          exact hu.one j x y hj e hx hy
  · rw [g] at hx hy
    rw [if_neg (by omega), if_neg (by omega)] at hy
    rw [if_neg (by omega)] at hx
    have hyb := hu.one ((i - 1) / 2) b y hp (by omega) hb hy
    by_cases e : j = i
    · subst e; rw [if_pos rfl] at hx; cases hx; exact hyb
    · rw [if_neg e] at hx
      refine hyb.trans (hu.one j x b hj e hx ?_)
      rw [hpar]; exact hb
theorem up_loop : ∀ (n i : Nat) (l : List S_api_Spot), i < n → i < l.length → l.length ≤ 8796093022208 → HeapU l i → ∃ o h', Ev (fun k => m165_l0 k l i) o ∧ (o = .ret h' ∨ o = .go h') ∧ h'.Perm l ∧ Heap h'
  | 0, i, l, hn, _, _, _ => absurd hn (Nat.not_lt_zero _)
  | n + 1, i, l, hn, hi, hs, hu => by
    by_cases h0 : i = 0
    · refine ⟨.go l, l, Ev.succ (Ev.all fun k => ?_), .inr rfl, List.Perm.refl _, fun j x y hj hx hy => hu.one j x y hj (by omega) hx hy⟩
      simp only [m165_l0]; rw [if_neg (by omega)]
    · have hp : (i - 1) / 2 < l.length := by omega
      have e1 : IntKind.i64.wrap (Int.tdiv (IntKind.i64.wrap ((i : Int) - 1)) 2) = (((i - 1) / 2 : Nat) : Int) := by
        rw [wrap_id (n := (i : Int) - 1) (by omega) (by omega), Int.tdiv_eq_ediv_of_nonneg (by omega), wrap_id (by omega) (by omega)]; omega
      cases hl : lessS l[i] l[(i - 1) / 2] with
      | false =>
        refine ⟨.ret l, l, Ev.succ ?_, .inl rfl, List.Perm.refl _, fun j x y hj hx hy => ?_⟩
        · simp only [m165_l0]
          rw [e1]
          exact Ev.pos (by omega) (Ev.bnd (rdx_lt hi) (Ev.bnd (rdx_lt hp) (Ev.bnd (less_eq _ _) (Ev.neg (by simp [hl]) (Ev.pure _)))))
        · by_cases e : j = i
          · subst e
            rw [List.getElem?_eq_getElem hi] at hx
            rw [List.getElem?_eq_getElem hp] at hy
            cases hx; cases hy; exact lessS_f.1 hl
          · exact hu.one j x y hj e hx hy
      | true =>
        have hu' := hu.step (by omega) (List.getElem?_eq_getElem hi) (List.getElem?_eq_getElem hp) (lessS_t.1 hl)
        obtain ⟨o, h', h1, h2, h3, h4⟩ := up_loop n ((i - 1) / 2) (swp l i ((i - 1) / 2) l[i] l[(i - 1) / 2]) (by omega) (by rw [swp_len]; exact hp) (by rw [swp_len]; exact hs) hu'
        refine ⟨o, h', Ev.succ ?_, h2, h3.trans (swp_perm (List.getElem?_eq_getElem hi) (List.getElem?_eq_getElem hp)), h4⟩
        simp only [m165_l0]
        rw [e1]
        refine Ev.pos (by omega) (Ev.bnd (rdx_lt hi) (Ev.bnd (rdx_lt hp) (Ev.bnd (less_eq _ _) (Ev.pos hl (Ev.bnd (rdx_lt hp) (Ev.bnd (rdx_lt hi) (Ev.bnd (rdx_lt hi) (Ev.bnd rfl ?_))))))))
        refine Ev.bnd (rdx_lt (show (i - 1) / 2 < (l.set (Int.toNat (i : Int)) l[(i - 1) / 2]).length by simpa using hp)) (Ev.bnd rfl ?_)
        simp only [Int.toNat_natCast]
        exact h1
/-- 'Put'. -/
theorem put_ev {h : List S_api_Spot} (x : S_api_Spot) (hh : Heap h) (hs : h.length < 8796093022208) : ∃ h', Ev (fun k => m165 k h x) h' ∧ h'.Perm (x :: h) ∧ Heap h' := by
  have hu : HeapU (h ++ [x]) h.length := by
    refine ⟨fun j u y hj hne hu hy => ?_, fun j u y hj hp hpar hu hy => ?_⟩
    · have hlt := (List.getElem?_eq_some_iff.1 hu).1
      simp at hlt
      rw [List.getElem?_append_left (by omega)] at hu hy
      exact hh j u y hj hu hy
    · have hlt := (List.getElem?_eq_some_iff.1 hu).1
      simp at hlt; omega
  obtain ⟨o, h', h1, h2, h3, h4⟩ := up_loop (h.length + 1) h.length (h ++ [x]) (by omega) (by simp) (by simp; omega) hu
  refine ⟨h', Ev.bnd (appd_ok (by simp; omega)) ?_, h3.trans List.perm_append_comm, h4⟩
  have e : IntKind.i64.wrap (((h ++ [x]).length : Int) - 1) = (h.length : Int) := by
    rw [wrap_id (by simp) (by simp; omega)]; simp
  rw [e]
  rcases h2 with rfl | rfl
  · exact Ev.onRet h1 (Ev.pure _)
  · exact Ev.onGo h1 (Ev.pure _)
/-- The same, but for i and what is below it. -/
structure HeapD (h : List S_api_Spot) (i : Nat) : Prop where mk ::
  one : ∀ (j : Nat) (x y : S_api_Spot), 0 < j → (j - 1) / 2 ≠ i → h[j]? = some x → h[(j - 1) / 2]? = some y → leS y x
  two : ∀ (j : Nat) (x y : S_api_Spot), 0 < j → 0 < i → (j - 1) / 2 = i → h[j]? = some x → h[(i - 1) / 2]? = some y → leS y x
/-- The least one of i and of those below it. -/
structure Least (h : List S_api_Spot) (i c : Nat) : Prop where mk ::
  lt : c < h.length
  is : c = i ∨ c = 2 * i + 1 ∨ c = 2 * i + 2
  le : ∀ (j : Nat) (x y : S_api_Spot), (j = i ∨ j = 2 * i + 1 ∨ j = 2 * i + 2) → h[c]? = some x → h[j]? = some y → leS x y
theorem HeapD.stop {h : List S_api_Spot} {i : Nat} (hd : HeapD h i) (hl : Least h i i) : Heap h := fun j x y hj hx hy => by
  by_cases e : (j - 1) / 2 = i
  · rw [e] at hy
    exact hl.le j y x (by omega) hy hx
  · exact hd.one j x y hj e hx hy
theorem HeapD.step {h : List S_api_Spot} {i c : Nat} {a b : S_api_Spot} (hd : HeapD h i) (hi : i < h.length) (hl : Least h i c) (hne : c ≠ i) (ha : h[i]? = some a) (hb : h[c]? = some b) : HeapD (swp h i c a b) c := by
  have hci : (c - 1) / 2 = i := by rcases hl.is with e | e | e <;> omega
  have hc0 : 0 < c := by rcases hl.is with e | e | e <;> omega
  have hic : i < c := by rcases hl.is with e | e | e <;> omega
  have g := fun k => swp_get (a := a) (b := b) (show i ≠ c from fun e => hne e.symm) hi hl.lt k
  have hba : leS b a := hl.le i b a (.inl rfl) hb ha
  refine ⟨fun j x y hj hnp hx hy => ?_, fun j x y hj hp hpar hx hy => ?_⟩
  · rw [g] at hx hy
    rw [if_neg hnp] at hy
    by_cases e1 : j = c
    · subst e1
      rw [if_pos rfl] at hx; rw [if_pos hci] at hy
      cases hx; cases hy; exact hba
    · rw [if_neg e1] at hx
      by_cases e2 : j = i
      · subst e2
        rw [if_pos rfl] at hx; rw [if_neg (by omega)] at hy
        cases hx
        exact hd.two c b y hc0 hj hci hb hy
      · rw [if_neg e2] at hx
        by_cases e3 : (j - 1) / 2 = i
        · rw [if_pos e3] at hy; cases hy
          exact hl.le j b x (by omega) hb hx
        · rw [if_neg e3] at hy
          exact hd.one j x y hj e3 hx hy
  · rw [g] at hx hy
    rw [hci, if_neg (by omega), if_pos rfl] at hy
    rw [if_neg (by omega), if_neg (by omega)] at hx
    cases hy
    refine hd.one j x b hj (by omega) hx ?_
    rw [hpar]; exact hb
theorem least_ev {h : List S_api_Spot} {i : Nat} (hi : i < h.length) (hs : h.length ≤ 8796093022208) : ∃ c : Nat, Ev (fun k => m167 k h i) (c : Int) ∧ Least h i c := by
  have w1 : IntKind.i64.wrap (IntKind.i64.wrap (2 * (i : Int)) + 1) = ((2 * i + 1 : Nat) : Int) := by rw [wrap_id (n := 2 * (i : Int)) (by omega) (by omega), wrap_id (by omega) (by omega)]; omega
  have w2 : IntKind.i64.wrap (IntKind.i64.wrap (2 * (i : Int)) + 2) = ((2 * i + 2 : Nat) : Int) := by rw [wrap_id (n := 2 * (i : Int)) (by omega) (by omega), wrap_id (by omega) (by omega)]; omega
  -- the third one
  have third : ∀ b : Nat, Ev (fun k => m167_l0 i h k b ((2 * i + 3 : Nat) : Int)) (b : Int) := fun b => Ev.succ (Ev.all fun k => by
    simp only [m167_l0]
    rw [w2, if_neg (by omega)]; rfl)
  have stop : ∀ (b y : Nat), h.length ≤ y → Ev (fun k => m167_l0 i h k b (y : Int)) (b : Int) := fun b y hy => Ev.succ (Ev.all fun k => by
    simp only [m167_l0]
    rw [w2]
    by_cases h1 : (y : Int) ≤ ((2 * i + 2 : Nat) : Int)
    · rw [if_pos h1]; simp; omega
    · rw [if_neg h1]; simp)
  have round : ∀ (b y : Nat) (o : Int) (hb : b < h.length) (hy : y < h.length), y ≤ 2 * i + 2 → Ev (fun k => m167_l0 i h k ((if lessS h[y] h[b] = true then y else b : Nat) : Int) ((y + 1 : Nat) : Int)) o → Ev (fun k => m167_l0 i h k b (y : Int)) o := fun b y o hb hy hle he => Ev.succ (by
    simp only [m167_l0]
    rw [w2]
    refine Ev.bind (v := true) (Ev.pos (by omega) (Ev.of (by simp; omega))) (Ev.pos rfl (Ev.bnd (rdx_lt hy) (Ev.bnd (rdx_lt hb) (Ev.bnd (less_eq _ _) (Ev.bind (v := ((if lessS h[y] h[b] = true then y else b : Nat) : Int)) (Ev.of ?_) ?_)))))
    · split <;> rfl
    · rw [show IntKind.i64.wrap ((y : Int) + 1) = ((y + 1 : Nat) : Int) from by rw [wrap_id (by omega) (by omega)]; omega]
      exact he)
  have start : ∀ {o : Int}, Ev (fun k => m167_l0 i h k (i : Int) ((2 * i + 1 : Nat) : Int)) o → Ev (fun k => m167 k h i) o := fun he => by
    simp only [m167]
    rw [w1]
    exact Ev.bind he (Ev.pure _)
  by_cases h1 : 2 * i + 1 < h.length
  · let b1 := if lessS h[2 * i + 1] h[i] = true then 2 * i + 1 else i
    have hb1 : b1 < h.length := by simp only [b1]; split <;> omega
    have i1 : b1 = i ∨ b1 = 2 * i + 1 := by simp only [b1]; split <;> simp
    have l1 : ∀ (j : Nat) (y : S_api_Spot), (j = i ∨ j = 2 * i + 1) → h[j]? = some y → leS h[b1] y := fun j y hj hy => by
      obtain ⟨hjl, rfl⟩ := List.getElem?_eq_some_iff.1 hy
      cases hl : lessS h[2 * i + 1] h[i] with
      | true =>
        have e : b1 = 2 * i + 1 := by simp [b1, hl]
        have hn := lessS_t.1 hl
        simp only [e]
        rcases hj with rfl | rfl
        · exact (leS.total _ _).resolve_right hn
        · exact leS.refl _
      | false =>
        have e : b1 = i := by simp [b1, hl]
        have hn := lessS_f.1 hl
        simp only [e]
        rcases hj with rfl | rfl
        · exact leS.refl _
        · exact hn
    by_cases h2 : 2 * i + 2 < h.length
    · let b2 := if lessS h[2 * i + 2] h[b1] = true then 2 * i + 2 else b1
      have hb2 : b2 < h.length := by simp only [b2]; split <;> omega
      refine ⟨b2, start (round i (2 * i + 1) _ hi h1 (by omega) (round b1 (2 * i + 2) _ hb1 h2 (Nat.le_refl _) (third b2))), hb2, by simp only [b2]; split <;> omega, fun j x y hj hx hy => ?_⟩
      rw [List.getElem?_eq_getElem hb2] at hx
      cases hx
      cases hl : lessS h[2 * i + 2] h[b1] with
      | true =>
        have e : b2 = 2 * i + 2 := by simp [b2, hl]
        have hn := (leS.total h[2 * i + 2] h[b1]).resolve_right (lessS_t.1 hl)
        simp only [e]
        rcases hj with hj | hj | hj
        · exact hn.trans (l1 j y (.inl hj) hy)
        · exact hn.trans (l1 j y (.inr hj) hy)
        · subst hj
          rw [List.getElem?_eq_getElem h2] at hy; cases hy; exact leS.refl _
      | false =>
        have e : b2 = b1 := by simp [b2, hl]
        simp only [e]
        rcases hj with hj | hj | hj
        · exact l1 j y (.inl hj) hy
        · exact l1 j y (.inr hj) hy
        · subst hj
          rw [List.getElem?_eq_getElem h2] at hy; cases hy; exact lessS_f.1 hl
    · refine ⟨b1, start (round i (2 * i + 1) _ hi h1 (by omega) (stop b1 _ (by omega))), hb1, by omega, fun j x y hj hx hy => ?_⟩
      rw [List.getElem?_eq_getElem hb1] at hx
      cases hx
      have hjl := (List.getElem?_eq_some_iff.1 hy).1
      exact l1 j y (by omega) hy
  · refine ⟨i, start (stop i _ (by omega)), hi, .inl rfl, fun j x y hj hx hy => ?_⟩
    have hjl := (List.getElem?_eq_some_iff.1 hy).1
    obtain rfl : j = i := by omega
    rw [hx] at hy; cases hy; exact leS.refl _
theorem down_loop (x0 : S_api_Spot × Bool) : ∀ (n i : Nat) (l : List S_api_Spot), l.length - i ≤ n → i < l.length → l.length ≤ 8796093022208 → HeapD l i → ∃ h', Ev (fun k => m123_l0 x0 k l i) (.ret (x0.1, true, h')) ∧ h'.Perm l ∧ Heap h'
  | 0, i, l, hn, hi, _, _ => by omega
  | n + 1, i, l, hn, hi, hs, hd => by
    obtain ⟨c, hc, hl⟩ := least_ev hi hs
    by_cases e : c = i
    · subst e
      refine ⟨l, Ev.succ ?_, List.Perm.refl _, hd.stop hl⟩
      simp only [m123_l0]
      exact Ev.bind hc (Ev.pos rfl (Ev.pure _))
    · have hic : i < c := by rcases hl.is with e' | e' | e' <;> omega
      have hd' := hd.step hi hl e (List.getElem?_eq_getElem hi) (List.getElem?_eq_getElem hl.lt)
      have hlt := hl.lt
      obtain ⟨h', h1, h2, h3⟩ := down_loop x0 n c (swp l i c l[i] l[c]) (by rw [swp_len]; omega) (by rw [swp_len]; exact hl.lt) (by rw [swp_len]; exact hs) hd'
      refine ⟨h', Ev.succ ?_, h2.trans (swp_perm (List.getElem?_eq_getElem hi) (List.getElem?_eq_getElem hl.lt)), h3⟩
      simp only [m123_l0]
      refine Ev.bind hc (Ev.neg (by omega) (Ev.bnd (rdx_lt hl.lt) (Ev.bnd (rdx_lt hi) (Ev.bnd (rdx_lt hi) (Ev.bnd rfl (Ev.bnd (rdx_lt (show c < (l.set (Int.toNat (i : Int)) l[c]).length by simpa using hl.lt)) (Ev.bnd rfl ?_)))))))
      simp only [Int.toNat_natCast]
      exact h1
/-- 'Take'. -/
theorem take_none : Ev (fun k => m123 k []) ((⟨0, 0⟩ : S_api_Spot), false, []) := by
  refine ⟨0, fun k _ => ?_⟩
  simp [m123, m166, m220]
theorem take_ev {h : List S_api_Spot} (hh : Heap h) (hne : h ≠ []) (hs : h.length ≤ 8796093022208) : ∃ x h', Ev (fun k => m123 k h) (x, true, h') ∧ (x :: h').Perm h ∧ Heap h' ∧ ∀ y ∈ h, leS x y := by
  obtain ⟨x, t, rfl⟩ : ∃ x t, h = x :: t := by cases h with | nil => exact absurd rfl hne | cons x t => exact ⟨x, t, rfl⟩
  have hmin : ∀ y ∈ x :: t, leS x y := fun y hy => hh.min_mem rfl hy
  have e166 : m166 (x :: t) = some (x, true) := by
    simp only [m166, m220, Option.bind_some]
    rw [if_neg (by simp only [List.length_cons]; omega)]
    simp [rdx]
  have ew : IntKind.i64.wrap (((x :: t).length : Int) - 1) = (t.length : Int) := by
    simp at hs
    rw [wrap_id (by simp) (by simp; omega)]; simp
  have hlast : t.length < (x :: t).length := by simp
  have hset : ∀ u : S_api_Spot, ((x :: t).set (Int.toNat 0) u) = u :: t := fun u => rfl
  have hcut : ∀ u : S_api_Spot, cutx (u :: t) 0 (t.length : Int) = some ((u :: t).take t.length) := fun u => by
    unfold cutx
    rw [if_pos ⟨by omega, by omega, by simp; omega⟩, Int.toNat_natCast]; rfl
  have pre : ∀ {h' : List S_api_Spot}, Ev (fun k => m123_l0 (x, true) k (((x :: t)[t.length] :: t).take t.length) 0) (.ret (x, true, h')) → Ev (fun k => m123 k (x :: t)) (x, true, h') := fun {h'} he => by
    simp only [m123]
    refine Ev.bnd e166 (Ev.pos rfl ?_)
    rw [ew]
    refine Ev.bnd (rdx_lt hlast) (Ev.bnd (v := x) (by simp [rdx]) (Ev.bnd rfl ?_))
    rw [hset]
    exact Ev.bnd (hcut _) (Ev.onRet he (Ev.pure _))
  cases ht : t with
  | nil =>
    subst ht
    refine ⟨x, [], pre (Ev.succ ?_), List.Perm.refl _, fun j u y hj hu => by simp at hu, hmin⟩
    simp only [m123_l0]
    refine Ev.bind (v := 0) ?_ (Ev.pos rfl (Ev.pure _))
    refine ⟨1, fun k hk => ?_⟩
    obtain ⟨j, rfl⟩ : ∃ j, k = j + 1 := ⟨k - 1, by omega⟩
    simp [m167, m167_l0, IntKind.wrap_i64]
  | cons t0 t1 =>
    have htl : 0 < t.length := by rw [ht]; simp
    have hL : (((x :: t)[t.length] :: t).take t.length).length = t.length := by simp
    have hget : ∀ j, 0 < j → j < t.length → (((x :: t)[t.length] :: t).take t.length)[j]? = (x :: t)[j]? := fun j h0 hj => by
      rw [List.getElem?_take, if_pos hj]
      obtain ⟨j', rfl⟩ : ∃ j', j = j' + 1 := ⟨j - 1, by omega⟩
      rfl
    have hd : HeapD (((x :: t)[t.length] :: t).take t.length) 0 := by
      refine ⟨fun j u y hj hp hu hy => ?_, fun j u y hj hp _ _ _ => absurd hp (Nat.lt_irrefl _)⟩
      have hjl := (List.getElem?_eq_some_iff.1 hu).1
      rw [hL] at hjl
      rw [hget j hj hjl] at hu
      rw [hget _ (by omega) (by omega)] at hy
      exact hh j u y hj hu hy
    obtain ⟨h', h1, h2, h3⟩ := down_loop (x, true) _ 0 _ (Nat.le_refl _) (by rw [hL]; exact htl) (by rw [hL]; simp at hs; omega) hd
    refine ⟨x, h', by rw [← ht]; exact pre h1, ?_, h3, by rw [← ht]; exact hmin⟩
    rw [← ht]
    refine List.Perm.cons x (h2.trans ?_)
    have e1 : (x :: t)[t.length] = t.getLast (by rw [ht]; simp) := by
      rw [List.getLast_eq_getElem]
      simp only [List.getElem_cons]
      rw [dif_neg (by omega)]
    have e2 : (((x :: t)[t.length] :: t).take t.length) = t.getLast (by rw [ht]; simp) :: t.dropLast := by
      rw [e1]
      obtain ⟨m, hm⟩ : ∃ m, t.length = m + 1 := ⟨t.length - 1, by omega⟩
      rw [hm, List.take_succ_cons, List.dropLast_eq_take, hm]; rfl
    rw [e2]
    have := List.dropLast_concat_getLast (l := t) (by rw [ht]; simp)
    exact (List.perm_append_comm (l₁ := [t.getLast (by rw [ht]; simp)]) (l₂ := t.dropLast)).trans (by rw [this])
end Go.Proofs.Ytbielnhpfbhkgaa
