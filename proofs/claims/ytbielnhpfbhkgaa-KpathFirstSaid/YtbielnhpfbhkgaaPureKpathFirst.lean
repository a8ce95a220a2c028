/- The plain law of KpathFirst: the first way costs the distance; each one costs what its arcs do. -/
import Derived.Test.YtbielnhpfbhkgaaArgsKpathFirst
import Derived.Test.YtbielnhpfbhkgaaPDijk
import Derived.Test.YtbielnhpfbhkgaaPKpath2
import Derived.KernelRfl
set_option linter.unusedVariables false
set_option linter.unusedSimpArgs false
namespace Go.Proofs.Ytbielnhpfbhkgaa
open Go Go.RowKit

/-- A way that goes on, arc by arc. -/
inductive Ext (l : List S_api_Arc) (p : S_api_Path) : S_api_Path → Prop where
  | refl : Ext l p p
  | step {q : S_api_Path} {a : S_api_Arc} (h : Ext l p q) (ha : a ∈ l) (ho : onw l q.Nodes a = true) : Ext l p (ext q a)
inductive Ex2 (l : List S_api_Arc) : S_api_Path → S_api_Path → Prop where
  | refl {p : S_api_Path} : Ex2 l p p
  | head {p q : S_api_Path} {a : S_api_Arc} (ha : a ∈ l) (ho : onw l p.Nodes a = true) (h : Ex2 l (ext p a) q) : Ex2 l p q
theorem Ext.ex2 {l : List S_api_Arc} {p q : S_api_Path} (h : Ext l p q) : ∀ {r : S_api_Path}, Ex2 l q r → Ex2 l p r := by
  induction h with
  | refl => exact fun h => h
  | step h ha ho ih => exact fun h' => ih (.head ha ho h')
theorem Ex2.pre {l : List S_api_Arc} {p q : S_api_Path} (h : Ex2 l p q) : p.Nodes <+: q.Nodes := by
  induction h with
  | refl => exact List.prefix_refl _
  | @head p q a ha ho h ih => exact (List.prefix_append p.Nodes [a.To]).trans ih
section
variable {l : List S_api_Arc} {ns : List Int} {t f : Int}
theorem lastI_mem {xs : List Int} (h : xs ≠ []) : lastI xs ∈ xs := by
  obtain ⟨ys, y, rfl⟩ : ∃ ys y, xs = ys ++ [y] := ⟨xs.dropLast, xs.getLast h, (List.dropLast_concat_getLast h).symm⟩
  rw [lastI_snoc]; simp
theorem lastI_app (xs : List Int) {ys : List Int} (h : ys ≠ []) : lastI (xs ++ ys) = lastI ys := by
  obtain ⟨zs, z, rfl⟩ : ∃ zs z, ys = zs ++ [z] := ⟨ys.dropLast, ys.getLast h, (List.dropLast_concat_getLast h).symm⟩
  rw [← List.append_assoc, lastI_snoc, lastI_snoc]
theorem Ex2.walk (hm : May l) (hns : ∀ x, x ∈ ns ↔ IsNode l x) {q : S_api_Path} (hq : Plain l ns q) (ht : lastI q.Nodes = t) : ∀ (d : Nat) (p : S_api_Path), Plain l ns p → Ex2 l p q → ns.length ≤ p.Nodes.length + d → q ∈ Go.Proofs.Ytbielnhpfbhkgaa.walk l t d p := by
  intro d
  induction d with
  | zero =>
    intro p hp h hd
    cases h with
    | refl => simp [Go.Proofs.Ytbielnhpfbhkgaa.walk, ht]
    | head ha ho h =>
      have := no_more hm hns hp hd
      rw [List.filter_eq_nil_iff] at this
      exact absurd ho (this _ ha)
  | succ d ih =>
    intro p hp h hd
    cases h with
    | refl => simp [Go.Proofs.Ytbielnhpfbhkgaa.walk, ht]
    | @head _ _ a ha ho h =>
      have hne : lastI p.Nodes ≠ t := fun e => by
        have h1 : t ∈ p.Nodes := by rw [← e]; exact lastI_mem hp.ne
        obtain ⟨rest, hr⟩ := h.pre
        have hr : p.Nodes ++ (a.To :: rest) = q.Nodes := by rw [← hr]; simp [Go.Proofs.Ytbielnhpfbhkgaa.ext]
        have h2 : t ∈ a.To :: rest := by
          rw [← ht, ← hr]
          have : lastI (p.Nodes ++ (a.To :: rest)) = lastI (a.To :: rest) := lastI_app _ (by simp)
          rw [this]
          exact lastI_mem (by simp)
        have hnd := hq.nd
        rw [← hr] at hnd
        exact (List.nodup_append.1 hnd).2.2 t h1 t h2 rfl
      simp only [Go.Proofs.Ytbielnhpfbhkgaa.walk, if_neg hne, List.mem_flatMap]
      exact ⟨a, List.mem_filter.2 ⟨ha, ho⟩, ih _ (hp.ext hm hns ha ho) h (by simp [Go.Proofs.Ytbielnhpfbhkgaa.ext]; omega)⟩
/-- What a plain way from f costs, and where it leads. -/
structure Good (l : List S_api_Arc) (ns : List Int) (f : Int) (q : S_api_Path) : Prop where mk ::
  pl : Plain l ns q
  e : Ext l ⟨[f], 0⟩ q
  w : (q.Nodes = [f] ∧ q.Cost = 0) ∨ ∃ via, Way l f (lastI q.Nodes) via q.Cost
  c0 : 0 ≤ q.Cost
  c : q.Cost ≤ (q.Nodes.length : Int) * 1073741824
theorem Good.step (hm : May l) (hns : ∀ x, x ∈ ns ↔ IsNode l x) (hn : ns.length ≤ 64) {q : S_api_Path} (h : Good l ns f q) {a : S_api_Arc} (ha : a ∈ l) (ho : onw l q.Nodes a = true) : Good l ns f (ext q a) ∧ (ext q a).Cost = q.Cost + a.Cost := by
  have hok := hm.1 a ha
  unfold OkA at hok
  have hlen := h.pl.len
  have hc := h.c
  have hc0 := h.c0
  have hcost : (ext q a).Cost = q.Cost + a.Cost := by
    simp only [Go.Proofs.Ytbielnhpfbhkgaa.ext, addS]
    rw [if_pos (by omega)]
  refine ⟨⟨h.pl.ext hm hns ha ho, .step h.e ha ho, .inr ?_, by rw [hcost]; omega, ?_⟩, hcost⟩
  · have hf := (onw_iff.1 ho).1
    have e : lastI (ext q a).Nodes = a.To := by simp only [Go.Proofs.Ytbielnhpfbhkgaa.ext]; exact lastI_snoc _ _
    rw [e, hcost]
    rcases h.w with ⟨e1, e2⟩ | ⟨via, hw⟩
    · refine ⟨a.To, ?_⟩
      rw [e2, Int.zero_add]
      exact Way.one ha (by rw [hf, e1]; rfl)
    · exact ⟨via, Way.more hw ha hf⟩
  · rw [hcost]
    simp only [Go.Proofs.Ytbielnhpfbhkgaa.ext, List.length_append, List.length_cons, List.length_nil]
    omega
theorem Good.start (hf : f ∈ ns) : Good l ns f ⟨[f], 0⟩ := ⟨⟨by simp, by simp, fun x hx => by simp at hx; rw [hx]; exact hf, (show U64 0 from ⟨by omega, by omega⟩)⟩, .refl, .inl ⟨rfl, rfl⟩, Int.le_refl _, by show (0 : Int) ≤ _; omega⟩
/-- A part of a plain way leads to each of its nodes. -/
theorem Good.part (hm : May l) (hns : ∀ x, x ∈ ns ↔ IsNode l x) (hn : ns.length ≤ 64) (hf : f ∈ ns) {q : S_api_Path} (e : Ext l ⟨[f], 0⟩ q) : Good l ns f q ∧ ∀ x ∈ q.Nodes, ∃ q', Good l ns f q' ∧ lastI q'.Nodes = x ∧ q'.Cost ≤ q.Cost := by
  induction e with
  | refl => exact ⟨Good.start hf, fun x hx => ⟨_, Good.start hf, by simp at hx; rw [hx]; rfl, Int.le_refl _⟩⟩
  | @step q a e ha ho ih =>
    have hok := hm.1 a ha
    unfold OkA at hok
    obtain ⟨g, gp⟩ := ih
    obtain ⟨g', gc⟩ := g.step hm hns hn ha ho
    refine ⟨g', fun x hx => ?_⟩
    simp only [Go.Proofs.Ytbielnhpfbhkgaa.ext, List.mem_append, List.mem_singleton] at hx
    rcases hx with hx | hx
    · obtain ⟨q', h1, h2, h3⟩ := gp x hx
      exact ⟨q', h1, h2, by rw [gc]; omega⟩
    · exact ⟨_, g', by rw [hx]; simp only [Go.Proofs.Ytbielnhpfbhkgaa.ext]; exact lastI_snoc _ _, Int.le_refl _⟩
/-- Any way costs no less than a plain one. -/
theorem way_plain (hm : May l) (hns : ∀ x, x ∈ ns ↔ IsNode l x) (hn : ns.length ≤ 64) (hf : f ∈ ns) {v via c : Int} (h : Way l f v via c) : ∃ q, Good l ns f q ∧ lastI q.Nodes = v ∧ q.Cost ≤ c := by
  have on : ∀ {q : S_api_Path} {a : S_api_Arc} {c : Int}, Good l ns f q → a ∈ l → a.From = lastI q.Nodes → q.Cost ≤ c → ∃ q', Good l ns f q' ∧ lastI q'.Nodes = a.To ∧ q'.Cost ≤ c + a.Cost := fun {q a c} g ha hfr hc => by
    have hok := hm.1 a ha
    unfold OkA at hok
    by_cases hx : a.To ∈ q.Nodes
    · obtain ⟨q', h1, h2, h3⟩ := (Good.part hm hns hn hf g.e).2 _ hx
      exact ⟨q', h1, h2, by omega⟩
    · obtain ⟨g', gc⟩ := g.step hm hns hn ha (onw_iff.2 ⟨hfr, hx⟩)
      exact ⟨_, g', by simp only [Go.Proofs.Ytbielnhpfbhkgaa.ext]; exact lastI_snoc _ _, by omega⟩
  induction h with
  | one ha hfr =>
    obtain ⟨q', h1, h2, h3⟩ := on (Good.start hf) ha (by rw [hfr]; rfl) (Int.le_refl _)
    exact ⟨q', h1, h2, by have : (⟨[f], 0⟩ : S_api_Path).Cost = 0 := rfl; omega⟩
  | more h ha hfr ih =>
    obtain ⟨q, g, g1, g2⟩ := ih
    exact on g ha (by rw [hfr, g1]) g2
/-- What the walk gives are plain ways. -/
theorem walk_good (hm : May l) (hns : ∀ x, x ∈ ns ↔ IsNode l x) (hn : ns.length ≤ 64) : ∀ (d : Nat) (p q : S_api_Path), Good l ns f p → pc l 0 p.Nodes = some p.Cost → q ∈ Go.Proofs.Ytbielnhpfbhkgaa.walk l t d p → Good l ns f q ∧ lastI q.Nodes = t ∧ pc l 0 q.Nodes = some q.Cost
  | 0, p, q, h, hp, hq => by
    simp only [Go.Proofs.Ytbielnhpfbhkgaa.walk] at hq
    split at hq
    · simp at hq; subst hq; exact ⟨h, by assumption, hp⟩
    · cases hq
  | d + 1, p, q, h, hp, hq => by
    simp only [Go.Proofs.Ytbielnhpfbhkgaa.walk] at hq
    split at hq
    · simp at hq; subst hq; exact ⟨h, by assumption, hp⟩
    · rw [List.mem_flatMap] at hq
      obtain ⟨a, ha, hq⟩ := hq
      rw [List.mem_filter] at ha
      have hok := hm.1 a ha.1
      unfold OkA at hok
      refine walk_good hm hns hn d _ q (h.step hm hns hn ha.1 ha.2).1 ?_ hq
      simp only [Go.Proofs.Ytbielnhpfbhkgaa.ext]
      rw [pc_snoc l p.Nodes 0 a.To h.pl.ne, hp, Option.bind_some, ← (onw_iff.1 ha.2).1, arcC_some hm ha.1, if_neg (by omega)]
end
/-- 'spf.Distance'. -/
theorem distance_ev (l : List S_api_Arc) (hl : l.length ≤ 5000) (hm : May l) (f t : Int) (hne : f ≠ t) : ∃ d ok, Ev (fun k => m60 k l f t) (d, ok) ∧ (ok = true → (∃ via, Way l f t via d) ∧ ∀ via c, Way l f t via c → d ≤ c) ∧ (ok = false → ∀ via c, ¬ Way l f t via c) := by
  obtain ⟨rs, r1, r2, _⟩ := routes_ev l hl f
  have hr := r2 hm
  have hlen : rs.length ≤ 64 := by
    have := small_len (lt_nodup hr.asc) fun v hv => by
      obtain ⟨x, hx, rfl⟩ := List.mem_map.1 hv
      have := (hr.way x hx).1.pos hm
      omega
    simpa using this
  have hz : Sz rs := by unfold Sz; omega
  have loop : ∀ n i : Nat, i + n = rs.length → (∃ x ∈ rs, x.To = t ∧ Ev (fun k => m60_l0 t rs k i) (.ret (x.Cost, true))) ∨ ((∀ x ∈ rs.drop i, x.To ≠ t) ∧ Ev (fun k => m60_l0 t rs k i) (.go ())) := by
    intro n
    induction n with
    | zero =>
      intro i h
      refine .inr ⟨by rw [List.drop_eq_nil_of_le (by omega)]; simp, Ev.succ (Ev.all fun k => ?_)⟩
      simp only [m60_l0]; rw [if_neg (by omega)]
    | succ n ih =>
      intro i h
      have hi : i < rs.length := by omega
      by_cases hx : rs[i].To = t
      · refine .inl ⟨rs[i], List.getElem_mem hi, hx, Ev.succ ?_⟩
        simp only [m60_l0]
        exact Ev.pos (by omega) (Ev.bnd (rdx_lt hi) (Ev.pos hx (Ev.pure _)))
      · have e : ∀ {o}, Ev (fun k => m60_l0 t rs k ((i + 1 : Nat) : Int)) o → Ev (fun k => m60_l0 t rs k i) o := fun {o} he => Ev.succ (by
          simp only [m60_l0]
          refine Ev.pos (by omega) (Ev.bnd (rdx_lt hi) (Ev.neg hx ?_))
          rw [wrap_nat1 hz hi]; exact he)
        rcases ih (i + 1) (by omega) with ⟨x, h1, h2, h3⟩ | ⟨h1, h2⟩
        · exact .inl ⟨x, h1, h2, e h3⟩
        · refine .inr ⟨fun x hx' => ?_, e h2⟩
          rw [List.drop_eq_getElem_cons hi] at hx'
          rcases List.mem_cons.1 hx' with e' | hx'
          · rw [e']; exact hx
          · exact h1 x hx'
  rcases loop rs.length 0 (by omega) with ⟨x, h1, h2, h3⟩ | ⟨h1, h2⟩
  · refine ⟨x.Cost, true, Ev.neg hne (Ev.bind r1 (Ev.onRet h3 (Ev.pure _))), fun _ => ⟨⟨x.Via, by rw [← h2]; exact (hr.way x h1).1⟩, fun via c hw => ?_⟩, fun h => by cases h⟩
    obtain ⟨y, hy, hy1, hy2⟩ := hr.all t via c hw fun e => hne e.symm
    have : y = x := by
      have key : ∀ xs : List S_api_Route, (xs.map (·.To)).Pairwise (· < ·) → x ∈ xs → y ∈ xs → y = x := by
        intro xs
        induction xs with
        | nil => exact fun _ h _ => by cases h
        | cons z xs ih =>
          intro hp ha hb
          rw [List.map_cons] at hp
          have hp' := List.pairwise_cons.1 hp
          rcases List.mem_cons.1 ha with e | ha
          · rcases List.mem_cons.1 hb with e' | hb
            · rw [e, e']
            · have := hp'.1 y.To (List.mem_map.2 ⟨y, hb, rfl⟩); rw [← e] at this; omega
          · rcases List.mem_cons.1 hb with e' | hb
            · have := hp'.1 x.To (List.mem_map.2 ⟨x, ha, rfl⟩); rw [← e'] at this; omega
            · exact ih hp'.2 ha hb
      exact key rs hr.asc h1 hy
    rw [this] at hy2
    unfold lexle at hy2; omega
  · refine ⟨0, false, Ev.neg hne (Ev.bind r1 (Ev.onGo h2 (Ev.pure _))), fun h => (nomatch h), fun _ via c hw => ?_⟩
    obtain ⟨y, hy, hy1, _⟩ := hr.all t via c hw fun e => hne e.symm
    rw [List.drop_zero] at h1
    exact h1 y hy hy1
/-- 'slices.IndexFunc' over arcs. -/
theorem find_ev (l : List S_api_Arc) (hm : May l) (hsz : Sz l) (nodes : List Int) (i : Nat) (hi : i < nodes.length) {a : S_api_Arc} (ha : a ∈ l) (hf : a.From = nodes[i]) : ∃ j : Nat, ∃ hj : j < l.length, Ev (fun k => m126v1 k l nodes i a.To) (j : Int) ∧ l[j] = a := by
  have loop : ∀ n j : Nat, j + n = l.length → a ∈ l.drop j → ∃ j' : Nat, ∃ hj : j' < l.length, Ev (fun k => m126v1_l0 l nodes i a.To k j) (.ret (j' : Int)) ∧ l[j'] = a := by
    intro n
    induction n with
    | zero => intro j h hx; rw [List.drop_eq_nil_of_le (by omega)] at hx; cases hx
    | succ n ih =>
      intro j h hx
      have hj : j < l.length := by omega
      have e127 : m127v1 l[j] nodes i a.To = some (decide (l[j].From = nodes[i]) && decide (l[j].To = a.To)) := by
        simp only [m127v1]
        rw [rdx_lt hi]
        by_cases h1 : l[j].From = nodes[i] <;> simp [h1]
      by_cases he : l[j] = a
      · refine ⟨j, hj, Ev.succ ?_, he⟩
        simp only [m126v1_l0]
        exact Ev.pos (by omega) (Ev.bnd (rdx_lt hj) (Ev.bnd e127 (Ev.pos (by simp [he, hf]) (Ev.pure _))))
      · rw [List.drop_eq_getElem_cons hj] at hx
        have hx' := (List.mem_cons.1 hx).resolve_left fun e => he e.symm
        obtain ⟨j', hj', h1, h2⟩ := ih (j + 1) (by omega) hx'
        refine ⟨j', hj', Ev.succ ?_, h2⟩
        simp only [m126v1_l0]
        refine Ev.pos (by omega) (Ev.bnd (rdx_lt hj) (Ev.bnd e127 (Ev.neg ?_ ?_)))
        · have hp : (l.drop j).Pairwise Lt2 := hm.2.sublist (List.drop_sublist _ _)
          rw [List.drop_eq_getElem_cons hj] at hp
          have := (List.pairwise_cons.1 hp).1 a hx'
          unfold Lt2 at this
          simp; omega
        · rw [wrap_nat1 hsz hj]; exact h1
  obtain ⟨j, hj, h1, h2⟩ := loop l.length 0 (by omega) (by rw [List.drop_zero]; exact ha)
  exact ⟨j, hj, Ev.onRet h1 (Ev.pure _), h2⟩
theorem arcC_ex {l : List S_api_Arc} {a b : Int} (h : arcC l a b ≠ 0) : ∃ x ∈ l, x.From = a ∧ x.To = b := Classical.byContradiction fun hn => h (arcC_none fun x hx e => hn ⟨x, hx, e⟩)
/-- 'kpath.Cost' of a way that is there. -/
theorem kcost_ev (l : List S_api_Arc) (hm : May l) (hsz : Sz l) {ns : List Int} (hns : Ev (fun k => m86 k l) ns) (hnz : Sz ns) {nodes : List Int} {c : Int} (hp : pc l 0 nodes = some c) (hn : nodes ≠ []) (hin : ∀ x ∈ nodes, x ∈ ns) (hlen : nodes.length ≤ 1000) : Ev (fun k => m61 k l nodes) (c, true) := by
  obtain ⟨x, rest, rfl⟩ : ∃ x rest, nodes = x :: rest := by cases nodes with | nil => exact absurd rfl hn | cons x r => exact ⟨x, r, rfl⟩
  have hrl : rest.length ≤ 1000 := by simp at hlen; omega
  have loop : ∀ (m i : Nat) (n : Int), i + m = rest.length → U64 n → pc l n ((x :: rest).drop i) = some c → Ev (fun k => m61_l0 l (x :: rest) rest k n i) (.go c) := by
    intro m
    induction m with
    | zero =>
      intro i n h hu hpc
      have hi : i < (x :: rest).length := by simp; omega
      rw [List.drop_eq_getElem_cons hi, List.drop_eq_nil_of_le (by simp; omega)] at hpc
      simp only [pc] at hpc
      cases hpc
      refine Ev.succ (Ev.all fun k => ?_)
      simp only [m61_l0]; rw [if_neg (by omega)]
    | succ m ih =>
      intro i n h hu hpc
      have hi : i < rest.length := by omega
      have hi1 : i < (x :: rest).length := by simp; omega
      have hi2 : i + 1 < (x :: rest).length := by simp; omega
      rw [List.drop_eq_getElem_cons hi1, List.drop_eq_getElem_cons hi2] at hpc
      have e1 : (x :: rest)[i + 1] = rest[i] := rfl
      simp only [pc] at hpc
      split at hpc
      · cases hpc
      · rename_i hne
        obtain ⟨a, ha, hf, ht⟩ := arcC_ex hne
        have hok := hm.1 a ha
        unfold OkA at hok
        obtain ⟨j, hj, j1, j2⟩ := find_ev l hm hsz (x :: rest) i hi1 ha hf
        have hac : arcC l (x :: rest)[i] (x :: rest)[i + 1] = a.Cost := by rw [← hf, ← ht]; exact arcC_some hm ha
        rw [hac] at hpc
        refine Ev.succ ?_
        simp only [m61_l0]
        refine Ev.pos (by omega) (Ev.bnd (rdx_lt hi) (Ev.bind (v := (j : Int)) ?_ (Ev.neg (by omega) (Ev.bnd (rdx_lt hj) (Ev.bnd (v := addS n a.Cost) ?_ ?_)))))
        · rw [← e1, ← ht]; exact j1
        · rw [j2, wrapu_id (by omega) (by omega)]; exact add_eq hu ⟨by omega, by omega⟩
        · rw [show IntKind.i64.wrap ((i : Int) + 1) = ((i + 1 : Nat) : Int) from by rw [wrap_id (by omega) (by omega)]; omega]
          exact ih (i + 1) _ (by omega) (addS_u hu ⟨by omega, by omega⟩) (by rw [List.drop_eq_getElem_cons hi2]; exact hpc)
  have hl := loop rest.length 0 0 (by omega) ⟨by omega, by omega⟩ (by rw [List.drop_zero]; exact hp)
  refine Ev.bind (v := false) (Ev.neg (by simp; omega) (Ev.bind hns (Ev.bnd (v := x) (by simp [rdx]) (Ev.bind (contains_ev ns x hnz) (Ev.of ?_))))) (Ev.neg (by simp) (Ev.bnd (v := rest) ?_ (Ev.onGo hl (Ev.pure _))))
  · simp [hin x (List.mem_cons_self ..)]
  · unfold cutx
    rw [if_pos ⟨by omega, by simp; omega, by simp⟩]
    simp
theorem kpathFirst_true : kpathFirst_pure := by
  intro l hgl hsz x hx
  refine Ev.get (f := fun k => m11 k l x) ?_
  obtain ⟨f, t, most⟩ := x
  have aw : Ev (fun k => Option.bind (m40 k) fun x => some x) true := Ev.bind awake40 (Ev.pure _)
  by_cases c0 : 24 < (l.length : Int)
  · exact Ev.bind (v := true) (Ev.pos c0 (Ev.pure _)) (Ev.pos rfl aw)
  have hl : l.length ≤ 24 := by omega
  obtain ⟨bm, m1, m2⟩ := may_ev l hsz
  cases bm with
  | false => exact Ev.bind (v := true) (Ev.neg c0 (Ev.bind m1 (Ev.neg (by simp) (Ev.pure _)))) (Ev.pos rfl aw)
  | true =>
  have hm := m2.1 rfl
  obtain ⟨rs, r1, r2, r3, r4⟩ := nodesR_ev l hsz
  by_cases c1 : 6 < (rs.length : Int)
  · exact Ev.bind (v := true) (Ev.neg c0 (Ev.bind m1 (Ev.pos rfl (Ev.bind r1 (Ev.pos c1 (Ev.pure _)))))) (Ev.pos rfl aw)
  by_cases c2 : most < 1
  · exact Ev.bind (v := true) (Ev.neg c0 (Ev.bind m1 (Ev.pos rfl (Ev.bind r1 (Ev.neg c1 (Ev.pos c2 (Ev.pure _))))))) (Ev.pos rfl aw)
  by_cases c3 : f = t
  · exact Ev.bind (v := true) (Ev.neg c0 (Ev.bind m1 (Ev.pos rfl (Ev.bind r1 (Ev.neg c1 (Ev.neg c2 (Ev.of (by simp [c3])))))))) (Ev.pos rfl aw)
  refine Ev.bind (v := false) (Ev.neg c0 (Ev.bind m1 (Ev.pos rfl (Ev.bind r1 (Ev.neg c1 (Ev.neg c2 (Ev.of (by simp [c3])))))))) (Ev.neg (by simp) ?_)
  obtain ⟨ns, n1, n2, n3, n4, p, p1, p2, p3⟩ := paths_ev l hsz hl f t most
  have hns := n3 hm
  have hnr : ns = rs := lt_unique n2 r2 fun x => by
    rw [hns, r4]
    exact ⟨fun h => ⟨(hm.node h).1, (hm.node h).2, h⟩, fun h => h.2.2⟩
  have hn6 : ns.length ≤ 6 := by rw [hnr]; omega
  have hnz : Sz ns := by unfold Sz; omega
  obtain ⟨d, ok, d1, d2, d3⟩ := distance_ev l (by omega) hm f t c3
  refine Ev.bind p1 (Ev.bind d1 ?_)
  by_cases hin : f ∈ ns ∧ t ∈ ns
  · obtain ⟨ys, y1, y2, hp⟩ := p3 ⟨c3, by omega, by omega, hin.1, hin.2⟩
    have hgood : ∀ q ∈ ys, Good l ns f q ∧ lastI q.Nodes = t ∧ pc l 0 q.Nodes = some q.Cost := fun q hq => walk_good hm hns (by omega) 8 _ q (Good.start hin.1) rfl (y1.mem_iff.1 hq)
    have hcomp : ∀ via c, Way l f t via c → ∃ q ∈ ys, q.Cost ≤ c := fun via c hw => by
      obtain ⟨q, g1, g2, g3⟩ := way_plain hm hns (by omega) hin.1 hw
      exact ⟨q, y1.mem_iff.2 (Ex2.walk hm hns g1.pl g2 8 _ (Good.start hin.1).pl (g1.e.ex2 .refl) (by simp; omega)), g3⟩
    have hway : ∀ q ∈ ys, ∃ via, Way l f t via q.Cost := fun q hq => by
      obtain ⟨g1, g2, _⟩ := hgood q hq
      rcases g1.w with ⟨e1, _⟩ | ⟨via, hw⟩
      · rw [e1] at g2; exact absurd g2 (by simpa [lastI] using c3)
      · exact ⟨via, by rw [← g2]; exact hw⟩
    have hle : ys.Pairwise fun a b => a.Cost ≤ b.Cost := y2.imp fun {a b} h => by
      rcases h with e | e
      · rw [e]; exact Int.le_refl _
      · simp only [pathLt] at e
        split at e
        · omega
        · have := of_decide_eq_true e; omega
    -- the law's test
    have hpl : p.length ≤ 20 := by rw [hp, List.length_take]; omega
    have hpz : Sz p := by unfold Sz; omega
    have hpy : ∀ q ∈ p, q ∈ ys := fun q hq => by rw [hp] at hq; exact List.mem_of_mem_take hq
    have hpp : p.Pairwise fun a b => a.Cost ≤ b.Cost := by rw [hp]; exact hle.sublist (List.take_sublist _ _)
    have hok : ok = decide (0 < (p.length : Int)) := by
      cases hys : ys with
      | nil =>
        have h0 : p = [] := by rw [hp, hys]; rfl
        cases ok with
        | false => simp [h0]
        | true =>
          obtain ⟨via, hw⟩ := (d2 rfl).1
          obtain ⟨q, hq, _⟩ := hcomp via d hw
          rw [hys] at hq; cases hq
      | cons y ys' =>
        have h0 : 0 < p.length := by rw [hp, hys, List.length_take]; simp; omega
        cases ok with
        | true => simp; omega
        | false =>
          obtain ⟨via, hw⟩ := hway y (by rw [hys]; exact List.mem_cons_self ..)
          exact absurd hw (d3 rfl via _)
    refine Ev.bind (v := false) ?_ (Ev.neg (by simp) ?_)
    · refine Ev.pos (by rw [hok]; simp) ?_
      cases ok with
      | false => exact Ev.neg (by simp) (Ev.pure _)
      | true =>
        have h0 : 0 < p.length := by have := of_decide_eq_true hok.symm; omega
        refine Ev.pos rfl (Ev.bnd (v := p[0]) (by have := rdx_lt h0; simpa using this) (Ev.of ?_))
        have h1 : d ≤ p[0].Cost := by
          obtain ⟨via, hw⟩ := hway p[0] (hpy _ (List.getElem_mem h0))
          exact (d2 rfl).2 via _ hw
        have h2 : p[0].Cost ≤ d := by
          obtain ⟨via, hw⟩ := (d2 rfl).1
          obtain ⟨q, hq, hqc⟩ := hcomp via d hw
          have e : p[0] = ys[0]'(by have := List.length_pos_of_mem hq; exact this) := by simp only [hp]; exact List.getElem_take
          rw [e]
          obtain ⟨j, hj⟩ := List.getElem_of_mem hq
          obtain ⟨hjl, hj⟩ := hj
          rcases Nat.eq_zero_or_pos j with e' | e'
          · subst e'; rw [hj]; exact hqc
          · have := List.pairwise_iff_getElem.1 hle 0 j (by omega) hjl e'
            rw [hj] at this; omega
        simp; omega
    · -- each one
      have loop : ∀ n i : Nat, i + n = p.length → Ev (fun k => m11_l0 l p k i) (.go ()) := by
        intro n
        induction n with
        | zero =>
          intro i h
          refine Ev.succ (Ev.all fun k => ?_)
          simp only [m11_l0]; rw [if_neg (by omega)]
        | succ n ih =>
          intro i h
          have hi : i < p.length := by omega
          obtain ⟨g1, g2, g3⟩ := hgood p[i] (hpy _ (List.getElem_mem hi))
          have hk := kcost_ev l hm hsz n1 hnz g3 g1.pl.ne g1.pl.sub (by have := g1.pl.len; omega)
          refine Ev.succ ?_
          simp only [m11_l0]
          refine Ev.pos (by omega) (Ev.bnd (rdx_lt hi) (Ev.bind hk (Ev.bind (v := false) (Ev.pos rfl (Ev.bnd (rdx_lt hi) (Ev.pos rfl ?_))) (Ev.neg (by simp) ?_))))
          · by_cases h0 : 0 < i
            · refine Ev.pos (by omega) ?_
              rw [wrap_nat_pred hpz hi h0]
              refine Ev.bnd (rdx_lt (show i - 1 < p.length by omega)) (Ev.of ?_)
              have := List.pairwise_iff_getElem.1 hpp (i - 1) i (by omega) hi (by omega)
              simp; omega
            · exact Ev.neg (by omega) (Ev.pure _)
          · rw [wrap_nat1 hpz hi]; exact ih (i + 1) (by omega)
      exact Ev.onGo (loop p.length 0 (by omega)) aw
  · -- one of them is no node
    have hp : p = [] := p2 (by
      by_cases h1 : f ∈ ns
      · exact .inr (.inr (.inr (.inr fun h2 => hin ⟨h1, h2⟩)))
      · exact .inr (.inr (.inr (.inl h1))))
    subst hp
    have hno : ok = false := by
      cases ok with
      | false => rfl
      | true =>
        obtain ⟨via, hw⟩ := (d2 rfl).1
        exfalso
        apply hin
        have ends : ∀ {v via c}, Way l f v via c → f ∈ ns ∧ v ∈ ns := fun {v via c} hw => by
          induction hw with
          | one ha hf => exact ⟨(hns _).2 ⟨_, ha, .inl hf.symm⟩, (hns _).2 ⟨_, ha, .inr rfl⟩⟩
          | more h ha hf ih => exact ⟨ih.1, (hns _).2 ⟨_, ha, .inr rfl⟩⟩
        exact ends hw
    subst hno
    refine Ev.bind (v := false) (Ev.pos (by simp) (Ev.neg (by simp) (Ev.pure _))) (Ev.neg (by simp) (Ev.onGo (s := ()) (Ev.succ (Ev.all fun k => ?_)) aw))
    simp only [m11_l0]; rw [if_neg (by simp)]
end Go.Proofs.Ytbielnhpfbhkgaa
