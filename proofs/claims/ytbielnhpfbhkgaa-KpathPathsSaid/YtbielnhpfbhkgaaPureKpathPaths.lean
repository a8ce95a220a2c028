/- The plain law of KpathPaths: the program's ways are the document's, in its order. -/
import Derived.Test.YtbielnhpfbhkgaaArgsKpathPaths
import Derived.Test.YtbielnhpfbhkgaaPKpath
import Derived.KernelRfl
set_option linter.unusedVariables false
set_option linter.unusedSimpArgs false
namespace Go.Proofs.Ytbielnhpfbhkgaa
open Go Go.RowKit

/-- Where a way comes among those that are there. -/
theorem place_ev (out : List S_api_Path) (q : S_api_Path) (b : Bool) (hs : Sz out) (ho : ∀ x ∈ out, Sz x.Nodes) (hq : Sz q.Nodes) : ∀ n i : Nat, i + n = out.length →
    Ev (fun k => m42_l0 out q.Nodes (q.Cost, b) k i) ((i + ((out.drop i).takeWhile fun x => pathLt x q).length : Nat) : Int)
  | 0, i, h => by
    refine Ev.succ ?_
    simp only [m42_l0]
    refine Ev.bind (v := false) (Ev.neg (by omega) (Ev.pure _)) (Ev.neg (by simp) ?_)
    rw [List.drop_eq_nil_of_le (by omega)]
    exact Ev.of (by simp)
  | n + 1, i, h => by
    have hi : i < out.length := by omega
    refine Ev.succ ?_
    simp only [m42_l0]
    refine Ev.bind (v := pathLt out[i] q) (Ev.pos (by omega) (Ev.bnd (rdx_lt hi) (Ev.bind (ahead_ev _ _ (ho _ (List.getElem_mem hi)) hq) (Ev.pure _)))) ?_
    rw [List.drop_eq_getElem_cons hi]
    cases hp : pathLt out[i] q with
    | true =>
      refine Ev.pos rfl ?_
      have e : ((out[i] :: out.drop (i + 1)).takeWhile fun x => pathLt x q) = out[i] :: (out.drop (i + 1)).takeWhile fun x => pathLt x q := by simp only [List.takeWhile_cons, hp, if_true]
      rw [wrap_nat1 hs hi, e, List.length_cons]
      have := place_ev out q b hs ho hq n (i + 1) (by omega)
      rw [show i + (((out.drop (i + 1)).takeWhile fun x => pathLt x q).length + 1) = i + 1 + ((out.drop (i + 1)).takeWhile fun x => pathLt x q).length by omega]
      exact this
    | false =>
      refine Ev.neg (by simp) ?_
      have e : ((out[i] :: out.drop (i + 1)).takeWhile fun x => pathLt x q) = [] := by simp only [List.takeWhile_cons, hp, Bool.false_eq_true, if_false]
      rw [e]
      exact Ev.pure _
theorem take_takeWhile {α : Type} (p : α → Bool) : ∀ l : List α, l.take (l.takeWhile p).length = l.takeWhile p
  | [] => rfl
  | x :: l => by cases h : p x <;> simp [h, take_takeWhile p l]
theorem drop_takeWhile {α : Type} (p : α → Bool) : ∀ l : List α, l.drop (l.takeWhile p).length = l.dropWhile p
  | [] => rfl
  | x :: l => by cases h : p x <;> simp [h, drop_takeWhile p l]
/-- Which numbers lead on: just those to which an arc does. -/
theorem on_nums {l : List S_api_Arc} {ns : List Int} (hm : May l) (hns : ∀ x, x ∈ ns ↔ IsNode l x) (nodes : List Int) : (ints 1 64).filter (fun y => decide (arcC l (lastI nodes) y ≠ 0) && !decide (y ∈ nodes)) = (l.filter (onw l nodes)).map (·.To) := by
  refine lt_unique (ints_lt.filter _) ?_ fun x => ?_
  · rw [List.pairwise_map]
    refine (hm.2.sublist List.filter_sublist).imp_of_mem fun {a b} ha hb h => ?_
    have h1 := (onw_iff.1 (List.mem_filter.1 ha).2).1
    have h2 := (onw_iff.1 (List.mem_filter.1 hb).2).1
    unfold Lt2 at h
    omega
  · rw [List.mem_filter, mem_ints, List.mem_map]
    simp only [Bool.and_eq_true, decide_eq_true_eq, Bool.not_eq_true', decide_eq_false_iff_not]
    constructor
    · rintro ⟨h1, h2, h3⟩
      refine Classical.byContradiction fun hn => h2 (arcC_none fun a ha h => hn ⟨a, List.mem_filter.2 ⟨ha, onw_iff.2 ⟨h.1, ?_⟩⟩, h.2⟩)
      rw [h.2]; exact h3
    · rintro ⟨a, ha, rfl⟩
      obtain ⟨ha, ho⟩ := List.mem_filter.1 ha
      have ho := onw_iff.1 ho
      have hok := hm.1 a ha
      unfold OkA at hok
      refine ⟨by omega, ?_, ho.2⟩
      rw [← ho.1, arcC_some hm ha]; omega
/-- The document's list: each way goes to its place. -/
theorem all_loop {l : List S_api_Arc} {ns : List Int} {to : Int} (hm : May l) (hns : ∀ x, x ∈ ns ↔ IsNode l x) {p : S_api_Path} (h : Plain l ns p) (hsz : Sz l) (hp8 : p.Nodes.length ≤ 8) {W : S_api_Arc → List S_api_Path} {N B : Nat} (hB : B ≤ 200000000000) (hN : ∀ a, (W a).length ≤ N)
    (hW : ∀ a ∈ l, onw l p.Nodes a = true → ∀ out : List S_api_Path, out.length + N ≤ B → (∀ x ∈ out, Plain l ns x) → (∀ x ∈ W a, Plain l ns x) ∧ Ev (fun k => m42 k l (p.Nodes ++ [a.To]) to out) ((W a).foldl (insR pathLt) out)) (out : List S_api_Path) (ho : out.length + l.length * N ≤ B) (hop : ∀ x ∈ out, Plain l ns x) :
    Ev2 (fun j k => m42_l1 (m42 j) l p.Nodes to (lastI p.Nodes) k out 1) (((l.filter (onw l p.Nodes)).flatMap W).foldl (insR pathLt) out) := by
  have hsp : Sz p.Nodes := by unfold Sz; omega
  have hc : ∀ x ∈ l, 0 ≤ x.Cost ∧ x.Cost ≤ 1073741824 := fun x hx => by have := hm.1 x hx; unfold OkA at this; omega
  -- for each number, the arc that leads there
  let q : Int → Bool := fun y => decide (arcC l (lastI p.Nodes) y ≠ 0) && !decide (y ∈ p.Nodes)
  let arcs := l.filter (onw l p.Nodes)
  let V : Int → List S_api_Path := fun y => match arcs.find? (fun a => decide (a.To = y)) with
    | some a => W a
    | none => []
  have hfind : ∀ a ∈ arcs, V a.To = W a := fun a ha => by
    have hs : ∃ b, arcs.find? (fun x => decide (x.To = a.To)) = some b := by
      cases e : arcs.find? (fun x => decide (x.To = a.To)) with
      | some b => exact ⟨b, rfl⟩
      | none => have := List.find?_eq_none.1 e a ha; simp at this
    obtain ⟨b, hb⟩ := hs
    have h1 : b.To = a.To := by simpa using List.find?_some hb
    have hb' := List.mem_of_find?_eq_some hb
    have hba : b = a := by
      have g1 := onw_iff.1 (List.mem_filter.1 ha).2
      have g2 := onw_iff.1 (List.mem_filter.1 hb').2
      have key : ∀ xs : List S_api_Arc, xs.Pairwise Lt2 → a ∈ xs → b ∈ xs → b = a := by
        intro xs
        induction xs with
        | nil => exact fun _ h _ => by cases h
        | cons x xs ih =>
          intro hp ha hb
          have hp' := List.pairwise_cons.1 hp
          rcases List.mem_cons.1 ha with e | ha
          · rcases List.mem_cons.1 hb with e' | hb
            · rw [e, e']
            · have := hp'.1 b hb; rw [← e] at this; unfold Lt2 at this; omega
          · rcases List.mem_cons.1 hb with e' | hb
            · have := hp'.1 a ha; rw [← e'] at this; unfold Lt2 at this; omega
            · exact ih hp'.2 ha hb
      exact key l hm.2 (List.mem_filter.1 ha).1 (List.mem_filter.1 hb').1
    show (match arcs.find? (fun x => decide (x.To = a.To)) with | some a => W a | none => []) = _
    rw [hb, hba]
  have harc : ∀ y, q y = true → 1 ≤ y → y ≤ 64 → ∃ a ∈ arcs, a.To = y := fun y hy h1 h2 => by
    have : y ∈ (ints 1 64).filter q := List.mem_filter.2 ⟨mem_ints.2 ⟨h1, by omega⟩, hy⟩
    rw [on_nums hm hns] at this
    obtain ⟨a, ha, e⟩ := List.mem_map.1 this
    exact ⟨a, ha, e⟩
  have hcount : ∀ n : Nat, ∀ y : Int, 1 ≤ y → y + n = 65 → ((ints y n).filter q).length ≤ l.length := fun n y h1 h2 => by
    have e : (arcs.map (·.To)).length ≤ l.length := by rw [List.length_map]; exact List.length_filter_le _ _
    rw [← on_nums hm hns] at e
    refine Nat.le_trans (nodup_le (lt_nodup (ints_lt.filter _)) fun x hx => ?_) e
    obtain ⟨g1, g2⟩ := List.mem_filter.1 hx
    have := mem_ints.1 g1
    exact List.mem_filter.2 ⟨mem_ints.2 ⟨by omega, by omega⟩, g2⟩
  have hfl : ∀ (xs s : List S_api_Path), (xs.foldl (insR pathLt) s).length = xs.length + s.length := fun xs => by
    induction xs with
    | nil => exact fun s => by simp
    | cons x xs ih => intro s; rw [List.foldl_cons, ih, (insR_perm pathLt s x).length_eq]; simp; omega
  have hfm : ∀ (xs s : List S_api_Path), (∀ x ∈ xs, Plain l ns x) → (∀ x ∈ s, Plain l ns x) → ∀ x ∈ xs.foldl (insR pathLt) s, Plain l ns x := fun xs => by
    induction xs with
    | nil => exact fun s _ h => h
    | cons x xs ih =>
      intro s h1 h2
      refine ih _ (fun y hy => h1 y (List.mem_cons_of_mem _ hy)) fun y hy => ?_
      rcases List.mem_cons.1 ((insR_perm pathLt s x).mem_iff.1 hy) with e | hy
      · rw [e]; exact h1 x (List.mem_cons_self ..)
      · exact h2 y hy
  have := ev2_ints (lo := 1) (hi := 64) (L := fun j k (s : List S_api_Path) y => m42_l1 (m42 j) l p.Nodes to (lastI p.Nodes) k s y) (fun s y => if q y = true then (V y).foldl (insR pathLt) s else s) (fun s => s)
    (fun y s => (∀ x ∈ s, Plain l ns x) ∧ ∃ n : Nat, y + n = 65 ∧ s.length + ((ints y n).filter q).length * N ≤ B) (fun y s h1 h2 hv => ?_) (fun s _ => ?_) 64 1 out (by omega) (by omega) ⟨hop, 64, by omega, ?_⟩
  · have e : ∀ (xs : List Int) (s : List S_api_Path), xs.foldl (fun s y => if q y = true then (V y).foldl (insR pathLt) s else s) s = ((xs.filter q).flatMap V).foldl (insR pathLt) s := fun xs => by
      induction xs with
      | nil => exact fun s => rfl
      | cons x xs ih =>
        intro s
        rw [List.foldl_cons, ih]
        by_cases hx : q x = true
        · rw [if_pos hx, List.filter_cons_of_pos hx, List.flatMap_cons, List.foldl_append]
        · rw [if_neg hx, List.filter_cons_of_neg hx]
    rw [e, on_nums hm hns, List.flatMap_map] at this
    have e2 : ∀ xs : List S_api_Arc, (∀ a ∈ xs, a ∈ arcs) → xs.flatMap (fun a => V a.To) = xs.flatMap W := fun xs => by
      induction xs with
      | nil => exact fun _ => rfl
      | cons x xs ih => intro hx; rw [List.flatMap_cons, List.flatMap_cons, hfind x (hx x (List.mem_cons_self ..)), ih fun a ha => hx a (List.mem_cons_of_mem _ ha)]
    rw [e2 _ fun a ha => ha] at this
    exact this
  · obtain ⟨hv1, n, hn, hb⟩ := hv
    obtain ⟨n', rfl⟩ : ∃ n', n = n' + 1 := ⟨n - 1, by omega⟩
    have hcost := cost48_ev l hsz hc [lastI p.Nodes, y] (by simp)
    have hpc : (pcR l 0 [lastI p.Nodes, y]).2 = decide (arcC l (lastI p.Nodes) y ≠ 0) := by
      simp only [pcR, pc]
      by_cases h0 : arcC l (lastI p.Nodes) y = 0 <;> simp [h0]
    by_cases hx : q y = true
    · obtain ⟨a, ha, hay⟩ := harc y hx h1 h2
      have hal := List.mem_filter.1 ha
      rw [show ints y (n' + 1) = y :: ints (y + 1) n' from rfl, List.filter_cons_of_pos hx, List.length_cons, Nat.add_mul, Nat.one_mul] at hb
      obtain ⟨w1, w2⟩ := hW a hal.1 hal.2 s (by omega) hv1
      have hVy : V y = W a := by rw [← hay]; exact hfind a ha
      refine ⟨?_, fun o h' => ?_⟩
      · rw [if_pos hx, hVy]
        refine ⟨hfm _ _ w1 hv1, n', by omega, ?_⟩
        have := hN a
        rw [hfl]; omega
      · rw [if_pos hx, hVy] at h'
        refine Ev2.succ ?_
        simp only [m42_l1]
        have hq := hx
        simp only [q, Bool.and_eq_true, decide_eq_true_eq, Bool.not_eq_true', decide_eq_false_iff_not] at hq
        refine Ev2.pos h2 (Ev2.bind (Ev2.right hcost) (Ev2.bind (v := true) (Ev2.pos (by rw [hpc]; simpa using hq.1) (Ev2.bind (Ev2.right (has_ev _ _ hsp)) (Ev2.of (by simp [hq.2])))) ?_))
        rw [wrap_id (n := y + 1) (by omega) (by omega)]
        refine Ev2.bind (v := (W a).foldl (insR pathLt) s) (Ev2.pos rfl (Ev2.bnd (appd_ok (by simp; omega)) (Ev2.bnd (appd_ok (by simp; omega)) (Ev2.bind (Ev2.left ?_) (Ev2.pure _))))) h'
        rw [List.nil_append, ← hay]; exact w2
    · rw [show ints y (n' + 1) = y :: ints (y + 1) n' from rfl, List.filter_cons_of_neg hx] at hb
      refine ⟨?_, fun o h' => ?_⟩
      · rw [if_neg hx]; exact ⟨hv1, n', by omega, hb⟩
      · rw [if_neg hx] at h'
        refine Ev2.succ ?_
        simp only [m42_l1]
        refine Ev2.pos h2 (Ev2.bind (Ev2.right hcost) (Ev2.bind (v := false) ?_ ?_))
        · by_cases h0 : arcC l (lastI p.Nodes) y = 0
          · exact Ev2.neg (by rw [hpc]; simp [h0]) (Ev2.pure _)
          · refine Ev2.pos (by rw [hpc]; simp [h0]) (Ev2.bind (Ev2.right (has_ev _ _ hsp)) (Ev2.of ?_))
            have : y ∈ p.Nodes := Classical.byContradiction fun hn => hx (by simp [q, h0, hn])
            simp [this]
        · rw [wrap_id (n := y + 1) (by omega) (by omega)]
          exact Ev2.bind (Ev2.neg (by simp) (Ev2.pure _)) h'
  · refine Ev2.succ ?_
    simp only [m42_l1]
    exact Ev2.neg (by omega) (Ev2.pure _)
  · have := hcount 64 1 (by omega) (by omega)
    have := Nat.mul_le_mul_right N this
    omega
theorem insR_eval (out : List S_api_Path) (q : S_api_Path) (b : Bool) (hs : out.length ≤ 200000000000) : (Option.bind (cutx out ((0 + ((out.drop 0).takeWhile fun x => pathLt x q).length : Nat) : Int) (out.length : Int)) fun l1 => Option.bind (appd 4398046511104 [] l1) fun l2 => Option.bind (cutx out 0 ((0 + ((out.drop 0).takeWhile fun x => pathLt x q).length : Nat) : Int)) fun l3 => Option.bind (appd 4398046511104 [] l3) fun l4 => Option.bind (appd 4398046511104 l4 [q]) fun l5 => Option.bind (appd 4398046511104 l5 l2) fun l6 => some l6) = some (insR pathLt out q) := by
  rw [List.drop_zero, Nat.zero_add]
  have hle : (out.takeWhile fun x => pathLt x q).length ≤ out.length := (List.takeWhile_sublist _).length_le
  have e1 : cutx out (((out.takeWhile fun x => pathLt x q).length : Nat) : Int) (out.length : Int) = some (out.dropWhile fun x => pathLt x q) := by
    unfold cutx
    rw [if_pos ⟨by omega, by omega, by omega⟩, Int.toNat_natCast, Int.toNat_natCast, List.take_of_length_le (Nat.le_refl _), drop_takeWhile]
  have e2 : cutx out 0 (((out.takeWhile fun x => pathLt x q).length : Nat) : Int) = some (out.takeWhile fun x => pathLt x q) := by
    unfold cutx
    rw [if_pos ⟨by omega, by omega, by omega⟩, Int.toNat_natCast, take_takeWhile]; rfl
  have hd : (out.dropWhile fun x => pathLt x q).length ≤ out.length := (List.dropWhile_sublist _).length_le
  rw [e1, Option.bind_some, appd_ok (by simp; omega), Option.bind_some, e2, Option.bind_some, appd_ok (by simp; omega), Option.bind_some, appd_ok (by simp; omega), Option.bind_some, appd_ok (by simp; omega), Option.bind_some]
  simp [insR]
theorem all_ev {l : List S_api_Arc} {ns : List Int} {to : Int} (hm : May l) (hns : ∀ x, x ∈ ns ↔ IsNode l x) (hsz : Sz l) (hl : l.length ≤ 24) (hn8 : ns.length ≤ 8) : ∀ (d : Nat) (p : S_api_Path) (out : List S_api_Path), Plain l ns p → pc l 0 p.Nodes = some p.Cost → ns.length ≤ p.Nodes.length + d → out.length + 24 ^ d ≤ 200000000000 → (∀ x ∈ out, Plain l ns x) →
    Ev (fun k => m42 k l p.Nodes to out) ((walk l to d p).foldl (insR pathLt) out) := by
  have hc : ∀ x ∈ l, 0 ≤ x.Cost ∧ x.Cost ≤ 1073741824 := fun x hx => by have := hm.1 x hx; unfold OkA at this; omega
  have base : ∀ (p : S_api_Path) (out : List S_api_Path), Plain l ns p → pc l 0 p.Nodes = some p.Cost → lastI p.Nodes = to → out.length ≤ 200000000000 → (∀ x ∈ out, Plain l ns x) → Ev (fun k => m42 k l p.Nodes to out) (insR pathLt out p) := by
    intro p out h hpc ht ho hop
    have hpl : p.Nodes.length ≤ 8 := by have := h.len; omega
    have hsp : Sz p.Nodes := by unfold Sz; omega
    refine Ev.succ ?_
    simp only [m42, m42b]
    rw [rdx_last h.ne hsp]
    refine Ev.bnd rfl (Ev.pos ht (Ev.bind (cost48_ev l hsz hc p.Nodes (by omega)) (Ev.bnd (appd_ok (by simp; omega)) ?_)))
    rw [pcR_some hpc, List.nil_append]
    exact Ev.bind (place_ev out p true (by unfold Sz; omega) (fun x hx => by have := (hop x hx).len; unfold Sz; omega) hsp out.length 0 (by omega)) (Ev.of (insR_eval out p true ho))
  intro d
  induction d with
  | zero =>
    intro p out h hpc hd ho hop
    have hpl : p.Nodes.length ≤ 8 := by have := h.len; omega
    have hsp : Sz p.Nodes := by unfold Sz; omega
    by_cases ht : lastI p.Nodes = to
    · simp only [walk, if_pos ht, List.foldl_cons, List.foldl_nil]
      exact base p out h hpc ht (by omega) hop
    · refine Ev.succ ?_
      simp only [m42, m42b]
      rw [rdx_last h.ne hsp]
      have := all_loop (to := to) hm hns h hsz hpl (W := fun _ => []) (N := 0) (B := 200000000000) (Nat.le_refl _) (fun _ => Nat.zero_le _) (fun a ha hx => ?_) out (by omega) hop
      · refine Ev.bnd rfl (Ev.neg ht (Ev.bind (Ev2.diag this) ?_))
        rw [no_more hm hns h hd]
        simp only [walk, if_neg ht, List.flatMap_nil]
        exact Ev.pure _
      · have := no_more hm hns h hd
        rw [List.filter_eq_nil_iff] at this
        exact absurd hx (this a ha)
  | succ d ih =>
    intro p out h hpc hd ho hop
    have hpl : p.Nodes.length ≤ 8 := by have := h.len; omega
    have hsp : Sz p.Nodes := by unfold Sz; omega
    have hpow : 24 ^ (d + 1) = 24 * 24 ^ d := by rw [Nat.pow_succ, Nat.mul_comm]
    by_cases ht : lastI p.Nodes = to
    · have : 0 < 24 ^ (d + 1) := Nat.pow_pos (by decide)
      simp only [walk, if_pos ht, List.foldl_cons, List.foldl_nil]
      exact base p out h hpc ht (by omega) hop
    · refine Ev.succ ?_
      simp only [m42, m42b]
      rw [rdx_last h.ne hsp]
      have hmul : l.length * 24 ^ d ≤ 24 * 24 ^ d := Nat.mul_le_mul_right _ hl
      have := all_loop (to := to) hm hns h hsz hpl (W := fun a => walk l to d (Go.Proofs.Ytbielnhpfbhkgaa.ext p a)) (N := 24 ^ d) (B := 200000000000) (Nat.le_refl _) (fun a => walk_len hl d _) (fun a ha hx out' ho' hop' => ⟨fun x hx' => (walk_plain hm hns d _ x (h.ext hm hns ha hx) hx').1, ?_⟩) out (by omega) hop
      · refine Ev.bnd rfl (Ev.neg ht (Ev.bind (Ev2.diag this) ?_))
        simp only [walk, if_neg ht]
        exact Ev.pure _
      · refine ih (Go.Proofs.Ytbielnhpfbhkgaa.ext p a) out' (h.ext hm hns ha hx) ?_ (by simp [Go.Proofs.Ytbielnhpfbhkgaa.ext]; omega) ho' hop'
        have ho := onw_iff.1 hx
        have hok := hm.1 a ha
        unfold OkA at hok
        simp only [Go.Proofs.Ytbielnhpfbhkgaa.ext]
        rw [pc_snoc l p.Nodes 0 a.To h.ne, hpc, Option.bind_some, ← ho.1, arcC_some hm ha, if_neg (by omega)]/-- Two rows of ways, are they one? -/
theorem same_in (a b : List S_api_Path) (hb : a = b) (hs : Sz a) (hn : ∀ x ∈ a, Sz x.Nodes) (i : Nat) (hi : i < a.length) : ∀ n j : Nat, j + n = a[i].Nodes.length → Ev (fun k => m43_l1 a b i k j) (.go ())
  | 0, j, h => by
    refine Ev.succ ?_
    simp only [m43_l1]
    exact Ev.bnd (rdx_lt hi) (Ev.neg (by omega) (Ev.pure _))
  | n + 1, j, h => by
    subst hb
    have hj : j < a[i].Nodes.length := by omega
    refine Ev.succ ?_
    simp only [m43_l1]
    refine Ev.bnd (rdx_lt hi) (Ev.pos (by omega) (Ev.bnd (rdx_lt hi) (Ev.bnd (rdx_lt hj) (Ev.bnd (rdx_lt hi) (Ev.bnd (rdx_lt hj) (Ev.pos rfl ?_))))))
    rw [wrap_nat1 (hn _ (List.getElem_mem hi)) hj]
    exact same_in a a rfl hs hn i hi n (j + 1) (by omega)
theorem same_loop (a : List S_api_Path) (hs : Sz a) (hn : ∀ x ∈ a, Sz x.Nodes) : ∀ n i : Nat, i + n = a.length → Ev (fun k => m43_l0 a a k i) (.go ())
  | 0, i, h => by
    refine Ev.succ ?_
    simp only [m43_l0]
    exact Ev.neg (by omega) (Ev.pure _)
  | n + 1, i, h => by
    have hi : i < a.length := by omega
    refine Ev.succ ?_
    simp only [m43_l0]
    refine Ev.pos (by omega) (Ev.bind (v := false) (Ev.bnd (rdx_lt hi) (Ev.bnd (rdx_lt hi) (Ev.pos rfl (Ev.bnd (rdx_lt hi) (Ev.bnd (rdx_lt hi) (Ev.of (by simp))))))) (Ev.neg (by simp) ?_))
    rw [wrap_nat1 hs hi]
    exact Ev.onGo (same_in a a rfl hs hn i hi a[i].Nodes.length 0 (by omega)) (same_loop a hs hn n (i + 1) (by omega))
theorem same_ev (a : List S_api_Path) (hs : Sz a) (hn : ∀ x ∈ a, Sz x.Nodes) : Ev (fun k => m43 k a a) true := by
  refine Ev.pos rfl (Ev.onGo (same_loop a hs hn a.length 0 (by omega)) (Ev.pure _))
/-- 'kpath.Paths'. -/
theorem paths_ev (l : List S_api_Arc) (hsz : Sz l) (hl : l.length ≤ 24) (f t most : Int) : ∃ ns, Ev (fun k => m86 k l) ns ∧ ns.Pairwise (· < ·) ∧ (May l → ∀ x, x ∈ ns ↔ IsNode l x) ∧ (¬ May l → ns = []) ∧
    ∃ p, Ev (fun k => m41 k l f t most) p ∧ ((f = t ∨ most < 1 ∨ 8 < ns.length ∨ f ∉ ns ∨ t ∉ ns) → p = []) ∧
      ((f ≠ t ∧ 1 ≤ most ∧ ns.length ≤ 8 ∧ f ∈ ns ∧ t ∈ ns) → ∃ ys, ys.Perm (walk l t 8 ⟨[f], 0⟩) ∧ Asc (fun x y => pathLt x y = true) ys ∧ p = ys.take (min (min ys.length most.toNat) 20)) := by
  obtain ⟨ns, n1, n2, n3, n4, n5⟩ := nodes_ev l hsz
  refine ⟨ns, n1, n2, n4, n5, ?_⟩
  have hnz : Sz ns := by unfold Sz; omega
  by_cases hg : f = t ∨ most < 1 ∨ 8 < ns.length ∨ f ∉ ns ∨ t ∉ ns
  · refine ⟨[], Ev.bind n1 (Ev.bind (v := true) ?_ (Ev.pos rfl (Ev.pure _))), fun _ => rfl, fun h => ?_⟩
    · by_cases c1 : f = t
      · exact Ev.pos c1 (Ev.pure _)
      · refine Ev.neg c1 ?_
        by_cases c2 : most < 1
        · exact Ev.pos c2 (Ev.pure _)
        · refine Ev.neg c2 ?_
          by_cases c3 : 8 < (ns.length : Int)
          · exact Ev.pos c3 (Ev.pure _)
          · refine Ev.neg c3 (Ev.bind (contains_ev ns f hnz) ?_)
            by_cases c4 : f ∈ ns
            · refine Ev.pos (by simp [c4]) (Ev.bind (contains_ev ns t hnz) (Ev.of ?_))
              have : t ∉ ns := by
                rcases hg with h | h | h | h | h
                · exact absurd h c1
                · exact absurd h c2
                · omega
                · exact absurd c4 h
                · exact h
              simp [this]
            · exact Ev.neg (by simp [c4]) (Ev.pure _)
    · exfalso
      rcases hg with h' | h' | h' | h' | h'
      · exact h.1 h'
      · omega
      · omega
      · exact h' h.2.2.2.1
      · exact h' h.2.2.2.2
  · have g : f ≠ t ∧ 1 ≤ most ∧ ns.length ≤ 8 ∧ f ∈ ns ∧ t ∈ ns := by
      simp only [not_or, Classical.not_not] at hg
      exact ⟨hg.1, by omega, by omega, hg.2.2.2.1, hg.2.2.2.2⟩
    have hm : May l := Classical.byContradiction fun h => by have := n5 h; rw [this] at g; exact absurd g.2.2.2.1 (by simp)
    have hp0 : Plain l ns ⟨[f], 0⟩ := ⟨by simp, by simp, fun x hx => by simp at hx; rw [hx]; exact g.2.2.2.1, (show U64 0 from ⟨by omega, by omega⟩)⟩
    have hw := walk_ev (to := t) hm (n4 hm) hsz hl g.2.2.1 8 ⟨[f], 0⟩ [] hp0 (by simp; omega) (by simp)
    rw [List.nil_append] at hw
    have hwl := walk_len (to := t) hl 8 ⟨[f], 0⟩
    have hnode : ∀ x ∈ walk l t 8 ⟨[f], 0⟩, Sz x.Nodes := fun x hx => by have := (walk_plain hm (n4 hm) 8 _ x hp0 hx).1.len; unfold Sz; omega
    obtain ⟨ys, y1, y2, y3⟩ := sortF_ev (cmp := fun k x y => m94 k x y) (c := pcmp) (pathLt_parts (walk l t 8 ⟨[f], 0⟩)) (fun x hx y hy => pcmp_ev x y (hnode x hx) (hnode y hy)) (fun x _ y _ => pcmp_lt x y) (by omega)
    refine ⟨ys.take (min (min ys.length most.toNat) 20), Ev.bind n1 (Ev.bind (v := false) ?_ (Ev.neg (by simp) (Ev.bind hw (Ev.bind y1 (Ev.of ?_))))), fun h => absurd h hg, fun _ => ⟨ys, y2, y3, rfl⟩⟩
    · refine Ev.neg g.1 (Ev.neg (by omega) (Ev.neg (by omega) (Ev.bind (contains_ev ns f hnz) (Ev.pos (by simp [g.2.2.2.1]) (Ev.bind (contains_ev ns t hnz) (Ev.of (by simp [g.2.2.2.2])))))))
    · have e : (if 20 < (if most < (ys.length : Int) then most else (ys.length : Int)) then (20 : Int) else (if most < (ys.length : Int) then most else (ys.length : Int))) = ((min (min ys.length most.toNat) 20 : Nat) : Int) := by
        by_cases h1 : most < (ys.length : Int)
        · simp only [if_pos h1]; split <;> omega
        · simp only [if_neg h1]; split <;> omega
      rw [e]
      unfold cutx
      rw [if_pos ⟨by omega, by omega, by omega⟩, Int.toNat_natCast]; rfl
theorem awake40 : Ev (fun k => m40 k) true := by
  refine ⟨60, fun k hk => ?_⟩
  obtain ⟨j, rfl⟩ : ∃ j, k = j + 60 := ⟨k - 60, by omega⟩
  revert j
  intro j _
  kernel_rfl
theorem kpathPaths_true : kpathPaths_pure := by
  intro l hgl hsz x hx
  refine Ev.get (f := fun k => m6 k l x) ?_
  obtain ⟨f, t, most⟩ := x
  have aw : Ev (fun k => Option.bind (m40 k) fun x => some x) true := Ev.bind awake40 (Ev.pure _)
  by_cases c0 : 24 < (l.length : Int)
  · exact Ev.pos c0 aw
  refine Ev.neg c0 ?_
  have hl : l.length ≤ 24 := by omega
  obtain ⟨ns, n1, n2, n3, n4, p, p1, p2, p3⟩ := paths_ev l hsz hl f t most
  obtain ⟨rs, r1, r2, r3, r4⟩ := nodesR_ev l hsz
  obtain ⟨bm, m1, m2⟩ := may_ev l hsz
  have hrz : Sz rs := by unfold Sz; omega
  have hns : May l → ns = rs := fun hm => lt_unique n2 r2 fun x => by
    rw [n3 hm, r4]
    exact ⟨fun h => ⟨(hm.node h).1, (hm.node h).2, h⟩, fun h => h.2.2⟩
  refine Ev.bind p1 (Ev.bind r1 ?_)
  by_cases hg : ¬ May l ∨ 8 < rs.length ∨ f = t ∨ most < 1 ∨ f ∉ rs ∨ t ∉ rs
  · have hp : p = [] := p2 (by
      by_cases hm : May l
      · rw [hns hm]
        rcases hg with h | h | h | h | h | h
        · exact absurd hm h
        · exact .inr (.inr (.inl h))
        · exact .inl h
        · exact .inr (.inl h)
        · exact .inr (.inr (.inr (.inl h)))
        · exact .inr (.inr (.inr (.inr h)))
      · rw [n4 hm]; simp)
    subst hp
    refine Ev.bind (v := true) ?_ (Ev.pos rfl (Ev.bind (v := true) (Ev.pos (by simp) aw) (Ev.pure _)))
    refine Ev.bind m1 ?_
    cases bm with
    | false => exact Ev.neg (by simp) (Ev.pure _)
    | true =>
      have hm := m2.1 rfl
      refine Ev.pos rfl ?_
      by_cases c1 : 8 < (rs.length : Int)
      · exact Ev.pos c1 (Ev.pure _)
      refine Ev.neg c1 ?_
      by_cases c2 : f = t
      · exact Ev.pos c2 (Ev.pure _)
      refine Ev.neg c2 ?_
      by_cases c3 : most < 1
      · exact Ev.pos c3 (Ev.pure _)
      refine Ev.neg c3 (Ev.bind (has_ev rs f hrz) ?_)
      by_cases c4 : f ∈ rs
      · refine Ev.pos (by simp [c4]) (Ev.bind (has_ev rs t hrz) (Ev.of ?_))
        have : t ∉ rs := by
          rcases hg with h | h | h | h | h | h
          · exact absurd hm h
          · omega
          · exact absurd h c2
          · exact absurd h c3
          · exact absurd c4 h
          · exact h
        simp [this]
      · exact Ev.neg (by simp [c4]) (Ev.pure _)
  · simp only [not_or, Classical.not_not] at hg
    obtain ⟨hm, g1, g2, g3, g4, g5⟩ := hg
    have hbm : bm = true := m2.2 hm
    subst hbm
    obtain ⟨ys, y1, y2, rfl⟩ := p3 (by rw [hns hm]; exact ⟨g2, by omega, by omega, g4, g5⟩)
    refine Ev.bind (v := false) ?_ (Ev.neg (by simp) ?_)
    · exact Ev.bind m1 (Ev.pos rfl (Ev.neg (by omega) (Ev.neg g2 (Ev.neg g3 (Ev.bind (has_ev rs f hrz) (Ev.pos (by simp [g4]) (Ev.bind (has_ev rs t hrz) (Ev.of (by simp [g5])))))))))
    by_cases c6 : 6 < (rs.length : Int)
    · exact Ev.pos c6 aw
    refine Ev.neg c6 ?_
    have hnn : ∀ x, x ∈ ns ↔ IsNode l x := n3 hm
    have hp0 : Plain l ns ⟨[f], 0⟩ := ⟨by simp, by simp, fun x hx => by simp at hx; rw [hx, hns hm]; exact g4, (show U64 0 from ⟨by omega, by omega⟩)⟩
    have hall := all_ev (to := t) hm hnn hsz hl (by rw [hns hm]; omega) 8 ⟨[f], 0⟩ [] hp0 rfl (by simp; rw [hns hm]; omega) (by simp) (by simp)
    obtain ⟨f1, f2⟩ := insR_fold (lt := pathLt) (walk l t 8 ⟨[f], 0⟩) [] (pathLt_parts _) List.Pairwise.nil
    rw [List.append_nil] at f1
    have hys : ys = (walk l t 8 ⟨[f], 0⟩).foldl (insR pathLt) [] := Asc.unique (pathLt_parts _) (y1.trans f1.symm) y2 f2
    rw [← hys] at hall
    have hyl : ys.length ≤ 200000000000 := by
      have := walk_len (to := t) hl 8 ⟨[f], 0⟩
      rw [← y1.length_eq] at this; omega
    have hyn : ∀ x ∈ ys, Sz x.Nodes := fun x hx => by have := (walk_plain hm hnn 8 _ x hp0 (y1.mem_iff.1 hx)).1.len; rw [hns hm] at this; unfold Sz; omega
    refine Ev.bind hall ?_
    refine Ev.bind (v := if most < (ys.length : Int) then most else (ys.length : Int)) (Ev.of (by split <;> rfl)) ?_
    refine Ev.bind (v := ((min (min ys.length most.toNat) 20 : Nat) : Int)) (Ev.of ?_) ?_
    · by_cases h1 : most < (ys.length : Int)
      · simp only [if_pos h1]; split <;> congr 1 <;> omega
      · simp only [if_neg h1]; split <;> congr 1 <;> omega
    refine Ev.bind (v := true) (Ev.bnd (v := ys.take (min (min ys.length most.toNat) 20)) ?_ (Ev.bind (same_ev _ ?_ ?_) (Ev.pos rfl aw))) (Ev.pure _)
    · unfold cutx
      rw [if_pos ⟨by omega, by omega, by omega⟩, Int.toNat_natCast]; rfl
    · unfold Sz; rw [List.length_take]; omega
    · exact fun x hx => hyn x (List.mem_of_mem_take hx)
end Go.Proofs.Ytbielnhpfbhkgaa
