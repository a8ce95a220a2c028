/- Plain facts on plain ways: what the program's walk and the document's list both give. -/
import Derived.Test.YtbielnhpfbhkgaaPSort
import Derived.Test.YtbielnhpfbhkgaaK1
set_option linter.unusedVariables false
set_option linter.unusedSimpArgs false
namespace Go.Proofs.Ytbielnhpfbhkgaa
open Go Go.RowKit

/-- The last one. -/
def lastI (l : List Int) : Int := l.getLastD 0
theorem lastI_snoc (l : List Int) (x : Int) : lastI (l ++ [x]) = x := by simp [lastI]
theorem rdx_last {l : List Int} (h : l ≠ []) (hs : Sz l) : rdx l (IntKind.i64.wrap ((l.length : Int) - 1)) = some (lastI l) := by
  have hp : 0 < l.length := List.length_pos_iff.2 h
  have := hs
  rw [wrap_id (by omega) (by omega), show ((l.length : Int) - 1) = ((l.length - 1 : Nat) : Int) by omega, rdx_nat]
  rw [List.getElem?_eq_getElem (by omega)]
  simp only [lastI, List.getLastD_eq_getLast?, List.getLast?_eq_getElem?]
  rw [List.getElem?_eq_getElem (by omega)]; rfl
/-- Which arcs lead on. -/
def onw (l : List S_api_Arc) (ns : List Int) (a : S_api_Arc) : Bool := decide (a.From = lastI ns) && !decide (a.To ∈ ns)
def ext (p : S_api_Path) (a : S_api_Arc) : S_api_Path := ⟨p.Nodes ++ [a.To], addS p.Cost a.Cost⟩
/-- All plain ways that go on from p, up to d steps. -/
def walk (l : List S_api_Arc) (to : Int) : Nat → S_api_Path → List S_api_Path
  | 0, p => if lastI p.Nodes = to then [p] else []
  | d + 1, p => if lastI p.Nodes = to then [p] else (l.filter (onw l p.Nodes)).flatMap fun a => walk l to d (ext p a)
/-- A plain way so far: over nodes of l, no node twice. -/
structure Plain (l : List S_api_Arc) (ns : List Int) (p : S_api_Path) : Prop where mk ::
  ne : p.Nodes ≠ []
  nd : p.Nodes.Nodup
  sub : ∀ x ∈ p.Nodes, x ∈ ns
  u : U64 p.Cost
theorem Plain.len {l : List S_api_Arc} {ns : List Int} {p : S_api_Path} (h : Plain l ns p) : p.Nodes.length ≤ ns.length := nodup_le h.nd h.sub
theorem onw_iff {l : List S_api_Arc} {ns : List Int} {a : S_api_Arc} : onw l ns a = true ↔ a.From = lastI ns ∧ a.To ∉ ns := by simp [onw]
theorem Plain.ext {l : List S_api_Arc} {ns : List Int} (hm : May l) (hns : ∀ x, x ∈ ns ↔ IsNode l x) {p : S_api_Path} (h : Plain l ns p) {a : S_api_Arc} (ha : a ∈ l) (ho : onw l p.Nodes a = true) : Plain l ns (ext p a) := by
  have h1 := onw_iff.1 ho
  have h2 := hm.1 a ha
  unfold OkA at h2
  refine ⟨by simp [Go.Proofs.Ytbielnhpfbhkgaa.ext], ?_, fun x hx => ?_, addS_u h.u ⟨by omega, by omega⟩⟩
  · exact List.nodup_append.2 ⟨h.nd, by simp, fun x hx y hy => by simp at hy; subst hy; exact fun e => h1.2 (by rw [← e]; exact hx)⟩
  · simp only [Go.Proofs.Ytbielnhpfbhkgaa.ext, List.mem_append, List.mem_singleton] at hx
    rcases hx with hx | hx
    · exact h.sub x hx
    · subst hx; exact (hns _).2 ⟨a, ha, .inr rfl⟩
theorem no_more {l : List S_api_Arc} {ns : List Int} (hm : May l) (hns : ∀ x, x ∈ ns ↔ IsNode l x) {p : S_api_Path} (h : Plain l ns p) (hl : ns.length ≤ p.Nodes.length) : l.filter (onw l p.Nodes) = [] := by
  rw [List.filter_eq_nil_iff]
  intro a ha ho
  have := (h.ext hm hns ha ho).len
  simp [Go.Proofs.Ytbielnhpfbhkgaa.ext] at this
  omega
theorem walk_plain {l : List S_api_Arc} {ns : List Int} {to : Int} (hm : May l) (hns : ∀ x, x ∈ ns ↔ IsNode l x) : ∀ (d : Nat) (p q : S_api_Path), Plain l ns p → q ∈ walk l to d p → Plain l ns q ∧ lastI q.Nodes = to ∧ p.Nodes <+: q.Nodes
  | 0, p, q, h, hq => by
    simp only [walk] at hq
    split at hq
    · simp at hq; subst hq; exact ⟨h, by assumption, List.prefix_refl _⟩
    · cases hq
  | d + 1, p, q, h, hq => by
    simp only [walk] at hq
    split at hq
    · simp at hq; subst hq; exact ⟨h, by assumption, List.prefix_refl _⟩
    · rw [List.mem_flatMap] at hq
      obtain ⟨a, ha, hq⟩ := hq
      rw [List.mem_filter] at ha
      obtain ⟨h1, h2, h3⟩ := walk_plain hm hns d _ q (h.ext hm hns ha.1 ha.2) hq
      exact ⟨h1, h2, (List.prefix_append p.Nodes [a.To]).trans h3⟩
theorem walk_len {l : List S_api_Arc} {to : Int} (hl : l.length ≤ 24) : ∀ (d : Nat) (p : S_api_Path), (walk l to d p).length ≤ 24 ^ d
  | 0, p => by simp only [walk]; split <;> simp
  | d + 1, p => by
    simp only [walk]
    split
    · simp; exact Nat.pow_pos (by decide)
    · rw [List.length_flatMap]
      have h1 : ∀ x ∈ (l.filter (onw l p.Nodes)).map fun a => (walk l to d (ext p a)).length, x ≤ 24 ^ d := fun x hx => by
        obtain ⟨a, _, rfl⟩ := List.mem_map.1 hx
        exact walk_len hl d _
      have h2 : ∀ (xs : List Nat), (∀ x ∈ xs, x ≤ 24 ^ d) → xs.sum ≤ xs.length * 24 ^ d := by
        intro xs
        induction xs with
        | nil => simp
        | cons x xs ih =>
          intro h
          have := ih fun y hy => h y (List.mem_cons_of_mem _ hy)
          have := h x (List.mem_cons_self ..)
          simp only [List.sum_cons, List.length_cons, Nat.add_mul, Nat.one_mul]; omega
      have h3 := h2 _ h1
      rw [List.length_map] at h3
      have h4 : (l.filter (onw l p.Nodes)).length ≤ 24 := Nat.le_trans (List.length_filter_le _ _) hl
      calc _ ≤ _ := h3
        _ ≤ 24 * 24 ^ d := Nat.mul_le_mul_right _ h4
        _ = 24 ^ (d + 1) := by rw [Nat.pow_succ, Nat.mul_comm]
/-- One round of the walk's loop. -/
theorem walk_loop {l : List S_api_Arc} {ns : List Int} {to : Int} (hm : May l) (hns : ∀ x, x ∈ ns ↔ IsNode l x) {p : S_api_Path} (h : Plain l ns p) (hsz : Sz l) (hp8 : p.Nodes.length ≤ 8) {W : S_api_Arc → List S_api_Path} {N B : Nat} (hB : B ≤ 200000000000) (hN : ∀ a, (W a).length ≤ N)
    (hW : ∀ a ∈ l, onw l p.Nodes a = true → ∀ out : List S_api_Path, out.length + N ≤ B → Ev (fun k => m92 k l to out (Go.Proofs.Ytbielnhpfbhkgaa.ext p a)) (out ++ W a)) (out : List S_api_Path) (ho : out.length + l.length * N ≤ B) :
    Ev2 (fun j k => m92_l0 (m92 j) p (lastI p.Nodes) to l k out 0) (out ++ (l.filter (onw l p.Nodes)).flatMap W) := by
  have hsp : Sz p.Nodes := by unfold Sz; omega
  have := ev2_list (xs := l) (L := fun j k (s : List S_api_Path) i => m92_l0 (m92 j) p (lastI p.Nodes) to l k s i) (fun s a => s ++ if onw l p.Nodes a = true then W a else []) (fun s => s) (fun i s => s.length + (l.length - i) * N ≤ B)
    (fun i hi s hv => ⟨?_, fun o h' => ?_⟩) (fun s hv => ?_) l.length 0 out (by omega) (by simpa using ho)
  · rw [List.drop_zero, foldl_flatMap] at this
    have e : ∀ xs : List S_api_Arc, (xs.flatMap fun a => if onw l p.Nodes a = true then W a else []) = (xs.filter (onw l p.Nodes)).flatMap W := by
      intro xs
      induction xs with
      | nil => rfl
      | cons x xs ih =>
        rw [List.flatMap_cons, ih]
        by_cases hx : onw l p.Nodes x = true
        · rw [if_pos hx, List.filter_cons_of_pos hx, List.flatMap_cons]
        · rw [if_neg hx, List.filter_cons_of_neg hx]; rfl
    rw [e] at this; exact this
  · have h1 : (if onw l p.Nodes l[i] = true then W l[i] else []).length ≤ N := by split; exact hN _; exact Nat.zero_le _
    have h2 : (l.length - i) * N = (l.length - (i + 1)) * N + N := by rw [show l.length - i = (l.length - (i + 1)) + 1 by omega, Nat.add_mul, Nat.one_mul]
    rw [List.length_append]; omega
  · have ha : l[i] ∈ l := List.getElem_mem hi
    have hok := hm.1 _ ha
    unfold OkA at hok
    refine Ev2.succ ?_
    simp only [m92_l0]
    refine Ev2.pos (by omega) (Ev2.bnd (rdx_lt hi) ?_)
    rw [wrap_nat1 hsz hi]
    refine Ev2.bind (v := onw l p.Nodes l[i]) ?_ (Ev2.bind (v := s ++ if onw l p.Nodes l[i] = true then W l[i] else []) ?_ h')
    · by_cases hf : l[i].From = lastI p.Nodes
      · refine Ev2.pos hf (Ev2.bind (Ev2.right (contains_ev _ _ hsp)) (Ev2.of ?_))
        simp [onw, hf]
      · refine Ev2.neg hf (Ev2.of ?_)
        simp [onw, hf]
    · by_cases hx : onw l p.Nodes l[i] = true
      · refine Ev2.pos hx ?_
        rw [if_pos hx]
        have h2 : (l.length - i) * N = (l.length - (i + 1)) * N + N := by rw [show l.length - i = (l.length - (i + 1)) + 1 by omega, Nat.add_mul, Nat.one_mul]
        have hw := hW _ ha hx s (by omega)
        refine Ev2.bnd (v := p.Nodes) (by simp only [m150]; rw [appd_ok (by simp; omega)]; rfl) (Ev2.bnd (appd_ok (by simp; omega)) (Ev2.bnd (v := addS p.Cost l[i].Cost) ?_ (Ev2.bind (Ev2.left hw) (Ev2.pure _))))
        rw [wrapu_id (by omega) (by omega)]
        exact add_eq h.u ⟨by omega, by omega⟩
      · refine Ev2.neg hx ?_
        rw [if_neg hx, List.append_nil]
        exact Ev2.pure _
  · refine Ev2.succ ?_
    simp only [m92_l0]
    exact Ev2.neg (by omega) (Ev2.pure _)
/-- The program's walk gives them, in this order. -/
theorem walk_ev {l : List S_api_Arc} {ns : List Int} {to : Int} (hm : May l) (hns : ∀ x, x ∈ ns ↔ IsNode l x) (hsz : Sz l) (hl : l.length ≤ 24) (hn8 : ns.length ≤ 8) : ∀ (d : Nat) (p : S_api_Path) (out : List S_api_Path), Plain l ns p → ns.length ≤ p.Nodes.length + d → out.length + 24 ^ d ≤ 200000000000 →
    Ev (fun k => m92 k l to out p) (out ++ walk l to d p) := by
  intro d
  induction d with
  | zero =>
    intro p out h hd ho
    have hsp : Sz p.Nodes := by have := h.len; unfold Sz; omega
    have hpl : p.Nodes.length ≤ 8 := by have := h.len; omega
    refine Ev.succ ?_
    simp only [m92, m92b]
    rw [rdx_last h.ne hsp]
    refine Ev.bnd rfl ?_
    by_cases ht : lastI p.Nodes = to
    · refine Ev.pos ht (Ev.bnd (v := p.Nodes) (by simp only [m150]; rw [appd_ok (by simp; omega)]; rfl) (Ev.bnd (appd_ok (by simp; omega)) ?_))
      simp only [walk, if_pos ht]
      exact Ev.pure _
    · refine Ev.neg ht ?_
      have := walk_loop (to := to) hm hns h hsz hpl (W := fun _ => []) (N := 0) (B := 200000000000) (Nat.le_refl _) (fun _ => Nat.zero_le _) (fun a ha hx => ?_) out (by omega)
      · refine Ev.bind (Ev2.diag this) ?_
        rw [no_more hm hns h hd]
        simp only [walk, if_neg ht, List.flatMap_nil]
        exact Ev.pure _
      · have := no_more hm hns h hd
        rw [List.filter_eq_nil_iff] at this
        exact absurd hx (this a ha)
  | succ d ih =>
    intro p out h hd ho
    have hsp : Sz p.Nodes := by have := h.len; unfold Sz; omega
    have hpl : p.Nodes.length ≤ 8 := by have := h.len; omega
    have hpow : 24 ^ (d + 1) = 24 * 24 ^ d := by rw [Nat.pow_succ, Nat.mul_comm]
    refine Ev.succ ?_
    simp only [m92, m92b]
    rw [rdx_last h.ne hsp]
    refine Ev.bnd rfl ?_
    by_cases ht : lastI p.Nodes = to
    · have : 0 < 24 ^ (d + 1) := Nat.pow_pos (by decide)
      refine Ev.pos ht (Ev.bnd (v := p.Nodes) (by simp only [m150]; rw [appd_ok (by simp; omega)]; rfl) (Ev.bnd (appd_ok (by simp; omega)) ?_))
      simp only [walk, if_pos ht]
      exact Ev.pure _
    · refine Ev.neg ht ?_
      have hmul : l.length * 24 ^ d ≤ 24 * 24 ^ d := Nat.mul_le_mul_right _ hl
      have := walk_loop (to := to) hm hns h hsz hpl (W := fun a => walk l to d (Go.Proofs.Ytbielnhpfbhkgaa.ext p a)) (N := 24 ^ d) (B := 200000000000) (Nat.le_refl _) (fun a => walk_len hl d _) (fun a ha hx out' ho' => ih _ out' (h.ext hm hns ha hx) (by simp [Go.Proofs.Ytbielnhpfbhkgaa.ext]; omega) ho') out (by omega)
      refine Ev.bind (Ev2.diag this) ?_
      simp only [walk, if_neg ht]
      exact Ev.pure _
/-! The order of ways. -/
def pathLt (p q : S_api_Path) : Bool := if p.Cost = q.Cost then lexlt p.Nodes q.Nodes else decide (p.Cost < q.Cost)
def lexc (a b : List Int) : Int := if lexlt a b = true then -1 else if lexlt b a = true then 1 else 0
def pcmp (p q : S_api_Path) : Int := if p.Cost = q.Cost then lexc p.Nodes q.Nodes else if p.Cost < q.Cost then -1 else 1
theorem pathLt_parts (xs : List S_api_Path) : Parts xs fun x y => pathLt x y = true := by
  refine ⟨fun x _ => by simp [pathLt, lexlt_irr], fun x _ y _ z _ h1 h2 => ?_, fun x _ y _ h => ?_⟩
  · simp only [pathLt] at *
    by_cases e1 : x.Cost = y.Cost
    · by_cases e2 : y.Cost = z.Cost
      · rw [if_pos e1] at h1; rw [if_pos e2] at h2; rw [if_pos (e1.trans e2)]; exact lexlt_tr h1 h2
      · rw [if_neg e2, decide_eq_true_eq] at h2; rw [if_neg (by omega)]; simp; omega
    · rw [if_neg e1, decide_eq_true_eq] at h1
      by_cases e2 : y.Cost = z.Cost
      · rw [if_neg (by omega)]; simp; omega
      · rw [if_neg e2, decide_eq_true_eq] at h2; rw [if_neg (by omega)]; simp; omega
  · simp only [pathLt]
    by_cases e : x.Cost = y.Cost
    · rw [if_pos e, if_pos e.symm]
      refine lexlt_tot fun e' => h ?_
      cases x; cases y; simp only at e e'; rw [e, e']
    · rw [if_neg e, if_neg fun e' => e e'.symm]; simp; omega
theorem pcmp_lt (p q : S_api_Path) : (pcmp p q < 0 ↔ pathLt p q = true) ∧ (pcmp p q ≤ 0 ↔ ¬ pathLt q p = true) := by
  simp only [pcmp, pathLt, lexc]
  by_cases e : p.Cost = q.Cost
  · simp only [if_pos e, if_pos e.symm]
    cases h1 : lexlt p.Nodes q.Nodes with
    | true =>
      have : lexlt q.Nodes p.Nodes ≠ true := fun h2 => by have := lexlt_tr h1 h2; rw [lexlt_irr] at this; cases this
      simp [this]
    | false => cases h2 : lexlt q.Nodes p.Nodes <;> simp
  · have e' : ¬ q.Cost = p.Cost := fun e' => e e'.symm
    simp only [if_neg e, if_neg e']
    by_cases h : p.Cost < q.Cost
    · simp [h]; omega
    · have h2 : q.Cost < p.Cost := by omega
      simp [h, h2]
theorem cmpu_eq (a b : Int) : m116 a b = some (if a < b then -1 else if b < a then 1 else 0) := by
  simp only [m116, m163, decide_true, Bool.not_true, Option.bind_some]
  by_cases h1 : a < b
  · simp [h1]
  · by_cases h2 : b < a <;> simp [h1, h2]
theorem compare_loop (a b : List Int) (ha : Sz a) (hb : Sz b) : ∀ n i : Nat, i + n = a.length → i ≤ b.length → ∃ o, Ev (fun k => m153_l0 a b k i) o ∧ o.on (fun q => some q) (fun _ => some (if (a.length : Int) < (b.length : Int) then (-1 : Int) else 0)) = some (lexc (a.drop i) (b.drop i))
  | 0, i, h, hi => by
    refine ⟨.go (), Ev.succ (Ev.all fun k => ?_), ?_⟩
    · simp only [m153_l0]; rw [if_neg (by omega)]
    · rw [List.drop_eq_nil_of_le (show a.length ≤ i by omega)]
      simp only [Out.on, lexc]
      by_cases hlt : i < b.length
      · rw [if_pos (by omega), List.drop_eq_getElem_cons hlt]; simp [lexlt]
      · rw [if_neg (by omega), List.drop_eq_nil_of_le (by omega)]; simp [lexlt]
  | n + 1, i, h, hi => by
    have hia : i < a.length := by omega
    by_cases hib : i < b.length
    · rw [List.drop_eq_getElem_cons hia, List.drop_eq_getElem_cons hib]
      by_cases hx : a[i] = b[i]
      · obtain ⟨o, h1, h2⟩ := compare_loop a b ha hb n (i + 1) (by omega) (by omega)
        refine ⟨o, Ev.succ ?_, ?_⟩
        · simp only [m153_l0]
          refine Ev.pos (by omega) (Ev.bnd (rdx_lt hia) (Ev.neg (by omega) (Ev.bnd (rdx_lt hib) (Ev.bnd (cmp_eq _ _) ?_))))
          rw [hx]
          refine Ev.pos (by simp) ?_
          rw [wrap_nat1 ha hia]; exact h1
        · rw [h2]; simp [lexc, lexlt, hx]
      · refine ⟨.ret (if a[i] < b[i] then -1 else 1), Ev.succ ?_, ?_⟩
        · simp only [m153_l0]
          refine Ev.pos (by omega) (Ev.bnd (rdx_lt hia) (Ev.neg (by omega) (Ev.bnd (rdx_lt hib) (Ev.bnd (cmp_eq _ _) (Ev.neg ?_ (Ev.of ?_))))))
          · by_cases h1 : a[i] < b[i]
            · simp [h1]
            · rw [if_neg h1, if_pos (by omega)]; decide
          · by_cases h1 : a[i] < b[i]
            · simp [h1]
            · rw [if_neg h1, if_neg h1, if_pos (by omega)]
        · simp only [Out.on, lexc, lexlt, if_neg hx, if_neg fun e : b[i] = a[i] => hx e.symm, decide_eq_true_eq]
          by_cases h1 : a[i] < b[i]
          · simp [h1]
          · rw [if_neg h1, if_neg h1, if_pos (by omega)]
    · refine ⟨.ret 1, Ev.succ ?_, ?_⟩
      · simp only [m153_l0]
        exact Ev.pos (by omega) (Ev.bnd (rdx_lt hia) (Ev.pos (by omega) (Ev.pure _)))
      · rw [List.drop_eq_getElem_cons hia, List.drop_eq_nil_of_le (show b.length ≤ i by omega)]
        simp [Out.on, lexc, lexlt]
theorem compare_ev (a b : List Int) (ha : Sz a) (hb : Sz b) : Ev (fun k => m153 k a b) (lexc a b) := by
  obtain ⟨o, h1, h2⟩ := compare_loop a b ha hb a.length 0 (by omega) (by omega)
  rw [List.drop_zero, List.drop_zero] at h2
  cases o with
  | ret q => simp only [Out.on] at h2; cases h2; exact Ev.onRet h1 (Ev.pure _)
  | go u =>
    simp only [Out.on] at h2
    refine Ev.onGo h1 (Ev.of ?_)
    rw [← h2]; split <;> rfl
theorem pcmp_ev (p q : S_api_Path) (hp : Sz p.Nodes) (hq : Sz q.Nodes) : Ev (fun k => m94 k p q) (pcmp p q) := by
  refine Ev.bnd (cmpu_eq _ _) (Ev.bind (compare_ev _ _ hp hq) (Ev.bind (or2_ev _ _) (Ev.of ?_)))
  simp only [pcmp]
  by_cases e : p.Cost = q.Cost
  · simp [e]
  · by_cases h : p.Cost < q.Cost
    · simp [e, h]
    · have h2 : q.Cost < p.Cost := by omega
      simp [e, h, h2]
/-- 'ahead' of the document. -/
theorem ahead_loop (p q : S_api_Path) (hp : Sz p.Nodes) (hq : Sz q.Nodes) : ∀ n i : Nat, i + n = p.Nodes.length → i ≤ q.Nodes.length → ∃ o, Ev (fun k => m96_l0 p q k i) o ∧ o.on (fun b => some b) (fun _ => some (decide ((p.Nodes.length : Int) < (q.Nodes.length : Int)))) = some (lexlt (p.Nodes.drop i) (q.Nodes.drop i))
  | 0, i, h, hi => by
    refine ⟨.go (), Ev.succ (Ev.all fun k => ?_), ?_⟩
    · simp only [m96_l0]; rw [if_neg (by omega)]; simp
    · rw [List.drop_eq_nil_of_le (show p.Nodes.length ≤ i by omega)]
      simp only [Out.on]
      by_cases hlt : i < q.Nodes.length
      · rw [List.drop_eq_getElem_cons hlt]; simp [lexlt]; omega
      · rw [List.drop_eq_nil_of_le (show q.Nodes.length ≤ i by omega)]; simp [lexlt]; omega
  | n + 1, i, h, hi => by
    have hia : i < p.Nodes.length := by omega
    by_cases hib : i < q.Nodes.length
    · rw [List.drop_eq_getElem_cons hia, List.drop_eq_getElem_cons hib]
      by_cases hx : p.Nodes[i] = q.Nodes[i]
      · obtain ⟨o, h1, h2⟩ := ahead_loop p q hp hq n (i + 1) (by omega) (by omega)
        refine ⟨o, Ev.succ ?_, ?_⟩
        · simp only [m96_l0]
          refine Ev.bind (v := true) (Ev.pos (by omega) (Ev.of (by simp; omega))) (Ev.pos rfl (Ev.bnd (rdx_lt hia) (Ev.bnd (rdx_lt hib) (Ev.pos hx ?_))))
          rw [wrap_nat1 hp hia]; exact h1
        · rw [h2]; simp [lexlt, hx]
      · refine ⟨.ret (decide (p.Nodes[i] < q.Nodes[i])), Ev.succ ?_, by simp [Out.on, lexlt, hx]⟩
        simp only [m96_l0]
        exact Ev.bind (v := true) (Ev.pos (by omega) (Ev.of (by simp; omega))) (Ev.pos rfl (Ev.bnd (rdx_lt hia) (Ev.bnd (rdx_lt hib) (Ev.neg hx (Ev.bnd (rdx_lt hia) (Ev.bnd (rdx_lt hib) (Ev.pure _)))))))
    · refine ⟨.go (), Ev.succ (Ev.all fun k => ?_), ?_⟩
      · simp only [m96_l0]; rw [if_pos (by omega)]; simp; omega
      · rw [List.drop_eq_getElem_cons hia, List.drop_eq_nil_of_le (show q.Nodes.length ≤ i by omega)]
        simp [Out.on, lexlt]; omega
theorem ahead_ev (p q : S_api_Path) (hp : Sz p.Nodes) (hq : Sz q.Nodes) : Ev (fun k => m96 k p q) (pathLt p q) := by
  simp only [pathLt]
  by_cases e : p.Cost = q.Cost
  · rw [if_pos e]
    refine Ev.pos e ?_
    obtain ⟨o, h1, h2⟩ := ahead_loop p q hp hq p.Nodes.length 0 (by omega) (by omega)
    rw [List.drop_zero, List.drop_zero] at h2
    cases o with
    | ret b => simp only [Out.on] at h2; cases h2; exact Ev.onRet h1 (Ev.pure _)
    | go u => simp only [Out.on] at h2; exact Ev.onGo h1 (Ev.of h2)
  · rw [if_neg e]; exact Ev.neg e (Ev.pure _)
/-! What an arc costs, and a way. -/
def arcC (l : List S_api_Arc) (a b : Int) : Int := l.foldl (fun s x => if x.From = a ∧ x.To = b then x.Cost else s) 0
theorem fold_last (f : S_api_Arc → Bool) : ∀ (xs : List S_api_Arc) (s : Int), (∀ x ∈ xs, f x = false) → xs.foldl (fun s x => if f x = true then x.Cost else s) s = s
  | [], _, _ => rfl
  | x :: xs, s, h => by
    simp only [List.foldl_cons]
    rw [if_neg (by rw [h x (List.mem_cons_self ..)]; simp)]
    exact fold_last f xs s fun y hy => h y (List.mem_cons_of_mem _ hy)
theorem arcC_some {l : List S_api_Arc} (hm : May l) {x : S_api_Arc} (hx : x ∈ l) : arcC l x.From x.To = x.Cost := by
  have key : ∀ (xs : List S_api_Arc) (s : Int), xs.Pairwise Lt2 → x ∈ xs → xs.foldl (fun s y => if y.From = x.From ∧ y.To = x.To then y.Cost else s) s = x.Cost := by
    intro xs
    induction xs with
    | nil => exact fun _ _ h => by cases h
    | cons y xs ih =>
      intro s hp hx
      have hp' := List.pairwise_cons.1 hp
      simp only [List.foldl_cons]
      rcases List.mem_cons.1 hx with e | hx
      · subst e
        rw [if_pos ⟨rfl, rfl⟩]
        have := fold_last (fun y => decide (y.From = x.From ∧ y.To = x.To)) xs x.Cost fun y hy => by
          have := hp'.1 y hy
          unfold Lt2 at this
          simp; omega
        simpa using this
      · exact ih _ hp'.2 hx
  exact key l 0 hm.2 hx
theorem arcC_none {l : List S_api_Arc} {a b : Int} (h : ∀ x ∈ l, ¬ (x.From = a ∧ x.To = b)) : arcC l a b = 0 := by
  have := fold_last (fun y => decide (y.From = a ∧ y.To = b)) l 0 fun y hy => by simpa using fun e => fun e' => h y hy ⟨e, e'⟩
  simpa [arcC] using this
theorem arcC_ev (l : List S_api_Arc) (hl : Sz l) (ns : List Int) (i : Nat) (hi : i + 1 < ns.length) (hns : Sz ns) : Ev (fun k => m95_l1 l ns i k 0 0) (arcC l ns[i] ns[i + 1]) := by
  refine ev_list0 hl (L := fun k (s : Int) j => m95_l1 l ns i k s j) (fun s x => if x.From = ns[i] ∧ x.To = ns[i + 1] then x.Cost else s) (fun s => s) (fun _ _ => True) (fun j hj s _ => ⟨trivial, fun o h => ?_⟩) (fun s _ => ?_) 0 trivial
  · refine Ev.succ ?_
    simp only [m95_l1]
    refine Ev.pos (by omega) ?_
    rw [wrap_nat1 hl hj]
    refine Ev.bind (v := decide (l[j].From = ns[i] ∧ l[j].To = ns[i + 1])) ?_ (Ev.bind (v := if l[j].From = ns[i] ∧ l[j].To = ns[i + 1] then l[j].Cost else s) ?_ h)
    · refine Ev.bnd (rdx_lt hj) (Ev.bnd (rdx_lt (show i < ns.length by omega)) ?_)
      by_cases h1 : l[j].From = ns[i]
      · refine Ev.pos h1 (Ev.bnd (rdx_lt hj) ?_)
        rw [wrap_nat1 hns (show i < ns.length by omega)]
        exact Ev.bnd (rdx_lt hi) (Ev.of (by simp [h1]))
      · exact Ev.neg h1 (Ev.of (by simp [h1]))
    · by_cases h1 : l[j].From = ns[i] ∧ l[j].To = ns[i + 1]
      · rw [if_pos h1]; exact Ev.pos (by simpa using h1) (Ev.bnd (rdx_lt hj) (Ev.pure _))
      · rw [if_neg h1]; exact Ev.neg (by simpa using h1) (Ev.pure _)
  · refine Ev.succ ?_
    simp only [m95_l1]
    exact Ev.neg (by omega) (Ev.pure _)
/-- What a way costs, if its arcs are there. -/
def pc (l : List S_api_Arc) : Int → List Int → Option Int
  | n, a :: b :: rest => if arcC l a b = 0 then none else pc l (addS n (arcC l a b)) (b :: rest)
  | n, _ => some n
def pcR (l : List S_api_Arc) (n : Int) (ns : List Int) : Int × Bool := match pc l n ns with
  | some c => (c, true)
  | none => (0, false)
theorem pcR_some {l : List S_api_Arc} {n c : Int} {ns : List Int} (h : pc l n ns = some c) : pcR l n ns = (c, true) := by unfold pcR; rw [h]
theorem pcR_none {l : List S_api_Arc} {n : Int} {ns : List Int} (h : pc l n ns = none) : pcR l n ns = (0, false) := by unfold pcR; rw [h]
theorem pc_snoc (l : List S_api_Arc) : ∀ (ns : List Int) (n x : Int), ns ≠ [] → pc l n (ns ++ [x]) = (pc l n ns).bind fun c => if arcC l (lastI ns) x = 0 then none else some (addS c (arcC l (lastI ns) x))
  | [], _, _, h => absurd rfl h
  | [a], n, x, _ => by simp only [List.cons_append, List.nil_append, pc, lastI, Option.bind_some, List.getLastD_cons, List.getLastD_nil]
  | a :: b :: rest, n, x, _ => by
    have e : lastI (a :: b :: rest) = lastI (b :: rest) := by simp [lastI]
    simp only [List.cons_append, pc, e]
    split
    · rfl
    · exact pc_snoc l (b :: rest) _ x (by simp)
theorem arcC_u {l : List S_api_Arc} (hc : ∀ x ∈ l, 0 ≤ x.Cost ∧ x.Cost ≤ 1073741824) (a b : Int) : 0 ≤ arcC l a b ∧ arcC l a b ≤ 1073741824 := by
  have key : ∀ (xs : List S_api_Arc) (s : Int), (∀ x ∈ xs, x ∈ l) → 0 ≤ s ∧ s ≤ 1073741824 → 0 ≤ xs.foldl (fun s x => if x.From = a ∧ x.To = b then x.Cost else s) s ∧ xs.foldl (fun s x => if x.From = a ∧ x.To = b then x.Cost else s) s ≤ 1073741824 := by
    intro xs
    induction xs with
    | nil => exact fun _ _ h => h
    | cons x xs ih =>
      intro s hs h
      simp only [List.foldl_cons]
      refine ih _ (fun y hy => hs y (List.mem_cons_of_mem _ hy)) ?_
      split
      · exact hc x (hs x (List.mem_cons_self ..))
      · exact h
  exact key l 0 (fun _ h => h) ⟨by omega, by omega⟩
theorem cost_loop48 (l : List S_api_Arc) (hl : Sz l) (hc : ∀ x ∈ l, 0 ≤ x.Cost ∧ x.Cost ≤ 1073741824) (ns : List Int) (hns : ns.length ≤ 1000) : ∀ (m i : Nat) (n : Int), i + m = ns.length → U64 n → ∃ o, Ev (fun k => m95_l0 l ns k n i) o ∧ o.on (fun q => some q) (fun s => some (s, true)) = some (pcR l n (ns.drop i))
  | 0, i, n, h, hn => by
    refine ⟨.go n, Ev.succ (Ev.all fun k => ?_), ?_⟩
    · simp only [m95_l0]
      rw [if_neg (by rw [wrap_id (by omega) (by omega)]; omega)]
    · rw [List.drop_eq_nil_of_le (by omega)]; rfl
  | m + 1, i, n, h, hn => by
    have hi : i < ns.length := by omega
    have hw : IntKind.i64.wrap ((i : Int) + 1) = ((i + 1 : Nat) : Int) := by rw [wrap_id (by omega) (by omega)]; omega
    by_cases h1 : i + 1 < ns.length
    · have ha := arcC_ev l hl ns i h1 (by unfold Sz; omega)
      have hu := arcC_u hc ns[i] ns[i + 1]
      have e : pc l n (ns.drop i) = if arcC l ns[i] ns[i + 1] = 0 then none else pc l (addS n (arcC l ns[i] ns[i + 1])) (ns.drop (i + 1)) := by
        rw [List.drop_eq_getElem_cons hi, List.drop_eq_getElem_cons h1]; rfl
      by_cases h0 : arcC l ns[i] ns[i + 1] = 0
      · refine ⟨.ret (0, false), Ev.succ ?_, by rw [pcR_none (by rw [e, if_pos h0])]; rfl⟩
        simp only [m95_l0]
        rw [hw]
        exact Ev.pos (by omega) (Ev.bind ha (Ev.pos h0 (Ev.pure _)))
      · obtain ⟨o, g1, g2⟩ := cost_loop48 l hl hc ns hns m (i + 1) (addS n (arcC l ns[i] ns[i + 1])) (by omega) (addS_u hn ⟨by omega, by omega⟩)
        refine ⟨o, Ev.succ ?_, by rw [g2]; unfold pcR; rw [e, if_neg h0]⟩
        simp only [m95_l0]
        rw [hw]
        refine Ev.pos (by omega) (Ev.bind ha (Ev.neg h0 (Ev.bnd ?_ g1)))
        rw [wrapu_id (by omega) (by omega)]
        exact addR_eq hn ⟨by omega, by omega⟩
    · refine ⟨.go n, Ev.succ (Ev.all fun k => ?_), ?_⟩
      · simp only [m95_l0]
        rw [hw, if_neg (by omega)]
      · rw [List.drop_eq_getElem_cons hi, List.drop_eq_nil_of_le (show ns.length ≤ i + 1 by omega)]; rfl
theorem cost48_ev (l : List S_api_Arc) (hl : Sz l) (hc : ∀ x ∈ l, 0 ≤ x.Cost ∧ x.Cost ≤ 1073741824) (ns : List Int) (hns : ns.length ≤ 1000) : Ev (fun k => m95 k l ns) (pcR l 0 ns) := by
  obtain ⟨o, h1, h2⟩ := cost_loop48 l hl hc ns hns ns.length 0 0 (by omega) ⟨by omega, by omega⟩
  rw [List.drop_zero] at h2
  cases o with
  | ret q => simp only [Out.on] at h2; cases h2; exact Ev.onRet h1 (Ev.pure _)
  | go s => simp only [Out.on] at h2; exact Ev.onGo h1 (Ev.of h2)
end Go.Proofs.Ytbielnhpfbhkgaa
