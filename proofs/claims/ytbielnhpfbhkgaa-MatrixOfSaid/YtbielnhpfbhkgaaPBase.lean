/- Plain facts on functions that many laws reach. -/
import Derived.Test.YtbielnhpfbhkgaaEv
import Derived.Test.YtbielnhpfbhkgaaB1
set_option linter.unusedVariables false
set_option linter.unusedSimpArgs false
namespace Go.Proofs.Ytbielnhpfbhkgaa
open Go Go.RowKit

abbrev Sz {α : Type} (l : List α) : Prop := l.length ≤ 9223372036854775807
theorem wrap_nat1 {α : Type} {l : List α} (hl : Sz l) {i : Nat} (hi : i < l.length) : IntKind.i64.wrap ((i : Int) + 1) = ((i + 1 : Nat) : Int) := by
  have := hl
  rw [wrap_id (by omega) (by omega)]; omega
theorem wrap_nat_pred {α : Type} {l : List α} (hl : Sz l) {i : Nat} (hi : i < l.length) (h0 : 0 < i) : IntKind.i64.wrap ((i : Int) - 1) = ((i - 1 : Nat) : Int) := by
  have := hl
  rw [wrap_id (by omega) (by omega)]; omega
/-- 'Has'. -/
theorem has_loop (l : List Int) (x : Int) (hl : Sz l) : ∀ n i : Nat, i + n = l.length → Ev (fun k => m30_l0 l x k i) (if x ∈ l.drop i then .ret true else .go ())
  | 0, i, h => by
    refine Ev.succ (Ev.all fun k => ?_)
    simp only [m30_l0]
    rw [if_neg (by omega), List.drop_eq_nil_of_le (by omega)]; simp
  | n + 1, i, h => by
    have hi : i < l.length := by omega
    have ih := has_loop l x hl n (i + 1) (by omega)
    refine Ev.succ (Ev.eq (f := fun k => if l[i] = x then some (.ret true) else m30_l0 l x k ((i + 1 : Nat) : Int)) ?_ fun k => ?_)
    · rw [List.drop_eq_getElem_cons hi]
      by_cases hx : l[i] = x
      · refine Ev.pos hx ?_
        rw [if_pos (by rw [hx]; exact List.mem_cons_self ..)]; exact Ev.pure _
      · refine Ev.neg hx (Ev.eq (f := fun k => m30_l0 l x k ((i + 1 : Nat) : Int)) ?_ fun _ => rfl)
        have he : (x ∈ l[i] :: l.drop (i + 1)) ↔ x ∈ l.drop (i + 1) := by
          simp only [List.mem_cons]; exact ⟨fun h => h.resolve_left fun e => hx e.symm, .inr⟩
        simp only [he]; exact ih
    · simp only [m30_l0]
      rw [if_pos (by omega), rdx_lt hi, Option.bind_some, wrap_nat1 hl hi]
theorem has_ev (l : List Int) (x : Int) (hl : Sz l) : Ev (fun k => m30 k l x) (decide (x ∈ l)) := by
  have h := has_loop l x hl l.length 0 (by omega)
  rw [List.drop_zero] at h
  by_cases hx : x ∈ l
  · rw [if_pos hx] at h
    refine Ev.onRet (q := true) h ?_
    rw [decide_eq_true hx]; exact Ev.pure _
  · rw [if_neg hx] at h
    refine Ev.onGo (s := ()) h ?_
    rw [decide_eq_false hx]; exact Ev.pure _
/-- 'slices.Index', 'slices.Contains'. -/
theorem index_loop (l : List Int) (x : Int) (hl : Sz l) : ∀ n i : Nat, i + n = l.length → ∃ o, Ev (fun k => m149_l0 l x k i) o ∧ ((∃ j : Nat, o = .ret (j : Int) ∧ l[j]? = some x) ∨ (o = .go () ∧ x ∉ l.drop i))
  | 0, i, h => by
    refine ⟨.go (), Ev.succ (Ev.all fun k => ?_), .inr ⟨rfl, ?_⟩⟩
    · simp only [m149_l0]
      rw [if_neg (by omega)]
    · rw [List.drop_eq_nil_of_le (by omega)]; simp
  | n + 1, i, h => by
    have hi : i < l.length := by omega
    have e : ∀ k, m149_l0 l x (k + 1) i = if x = l[i] then some (.ret (i : Int)) else m149_l0 l x k ((i + 1 : Nat) : Int) := fun k => by
      simp only [m149_l0]
      rw [if_pos (by omega), rdx_lt hi, Option.bind_some, wrap_nat1 hl hi]
    by_cases hx : x = l[i]
    · exact ⟨.ret i, Ev.succ (Ev.eq (Ev.pos hx (Ev.pure _)) e), .inl ⟨i, rfl, by simp [hx, hi]⟩⟩
    · obtain ⟨o, h1, h2⟩ := index_loop l x hl n (i + 1) (by omega)
      refine ⟨o, Ev.succ (Ev.eq (Ev.neg hx h1) e), ?_⟩
      rcases h2 with h2 | ⟨h2, h3⟩
      · exact .inl h2
      · refine .inr ⟨h2, ?_⟩
        rw [List.drop_eq_getElem_cons hi]
        simp only [List.mem_cons, not_or]
        exact ⟨hx, h3⟩
theorem contains_ev (l : List Int) (x : Int) (hl : Sz l) : Ev (fun k => m91 k l x) (decide (x ∈ l)) := by
  obtain ⟨o, h1, h2⟩ := index_loop l x hl l.length 0 (by omega)
  rw [List.drop_zero] at h2
  rcases h2 with ⟨j, rfl, hj⟩ | ⟨rfl, hx⟩
  · have hm : x ∈ l := List.mem_of_getElem? hj
    refine Ev.bind (v := (j : Int)) (Ev.onRet h1 (Ev.pure _)) ?_
    rw [decide_eq_true hm, decide_eq_true (Int.natCast_nonneg j)]; exact Ev.pure _
  · refine Ev.bind (v := -1) (Ev.onGo h1 (Ev.pure _)) ?_
    rw [decide_eq_false hx]; exact Ev.of rfl
/-- Arcs that may be. -/
def OkA (x : S_api_Arc) : Prop := 1 ≤ x.From ∧ x.From ≤ 64 ∧ 1 ≤ x.To ∧ x.To ≤ 64 ∧ x.From ≠ x.To ∧ 1 ≤ x.Cost ∧ x.Cost ≤ 1073741824
def Lt2 (x y : S_api_Arc) : Prop := x.From < y.From ∨ (x.From = y.From ∧ x.To < y.To)
def May (l : List S_api_Arc) : Prop := (∀ x ∈ l, OkA x) ∧ l.Pairwise Lt2
theorem Lt2.trans {x y z : S_api_Arc} (h1 : Lt2 x y) (h2 : Lt2 y z) : Lt2 x z := by unfold Lt2 at *; omega
theorem May.take {l : List S_api_Arc} (h : May l) (i : Nat) : May (l.take i) := ⟨fun x hx => h.1 x (List.mem_of_mem_take hx), h.2.sublist (List.take_sublist _ _)⟩
theorem may_snoc {l : List S_api_Arc} {i : Nat} (hi : i < l.length) (h : May (l.take i)) : May (l.take (i + 1)) ↔ OkA l[i] ∧ (∀ h0 : 0 < i, Lt2 (l[i - 1]'(by omega)) l[i]) := by
  rw [List.take_succ_eq_append_getElem hi]
  constructor
  · rintro ⟨h1, h2⟩
    refine ⟨h1 _ (List.mem_append.2 (.inr (List.mem_singleton.2 rfl))), fun h0 => ?_⟩
    have := (List.pairwise_append.1 h2).2.2 (l[i - 1]'(by omega)) ?_ l[i] (by simp)
    · exact this
    · have : (l.take i)[i - 1]? = some (l[i - 1]'(by omega)) := by rw [List.getElem?_take, if_pos (by omega), List.getElem?_eq_getElem (by omega)]
      exact List.mem_of_getElem? this
  · rintro ⟨h1, h2⟩
    refine ⟨fun x hx => ?_, List.pairwise_append.2 ⟨h.2, by simp, fun a ha b hb => ?_⟩⟩
    · rcases List.mem_append.1 hx with hx | hx
      · exact h.1 x hx
      · simp at hx; subst hx; exact h1
    · simp at hb; subst hb
      obtain ⟨j, hj⟩ := List.getElem?_of_mem ha
      have hjl := (List.getElem?_eq_some_iff.1 hj).1
      simp at hjl
      have h0 : 0 < i := by omega
      have hlast : (l.take i)[i - 1]? = some (l[i - 1]'(by omega)) := by rw [List.getElem?_take, if_pos (by omega), List.getElem?_eq_getElem (by omega)]
      rcases Nat.lt_or_ge j (i - 1) with hlt | hge
      · have hj2 : j < (l.take i).length := by simp; omega
        have hl2 : i - 1 < (l.take i).length := by simp; omega
        have := List.pairwise_iff_getElem.1 h.2 j (i - 1) hj2 hl2 hlt
        have e1 : (l.take i)[j] = a := by rw [List.getElem?_eq_getElem hj2] at hj; exact Option.some.inj hj
        have e2 : (l.take i)[i - 1] = l[i - 1]'(by omega) := by rw [List.getElem?_eq_getElem hl2] at hlast; exact Option.some.inj hlast
        rw [e1, e2] at this
        exact this.trans (h2 h0)
      · have : j = i - 1 := by omega
        subst this
        rw [hlast] at hj
        have : a = l[i - 1]'(by omega) := (Option.some.inj hj).symm
        rw [this]; exact h2 h0
def badA (x : S_api_Arc) : Bool := decide (x.From < 1) || (decide (64 < x.From) || (decide (x.To < 1) || (decide (64 < x.To) || (decide (x.From = x.To) || (decide (x.Cost < 1) || decide (1073741824 < x.Cost))))))
def badP (p x : S_api_Arc) : Bool := decide (x.From < p.From) || (decide (p.From = x.From) && decide (x.To ≤ p.To))
theorem badA_iff (x : S_api_Arc) : badA x = false ↔ OkA x := by simp only [badA, OkA, Bool.or_eq_false_iff, decide_eq_false_iff_not]; omega
theorem badP_iff (p x : S_api_Arc) : badP p x = false ↔ Lt2 p x := by
  simp only [badP, Lt2, Bool.or_eq_false_iff, Bool.and_eq_false_iff, decide_eq_false_iff_not]; omega
theorem may_step (l : List S_api_Arc) (hl : Sz l) {i : Nat} (hi : i < l.length) (k : Nat) :
    m29_l0 l (k + 1) i = if badA l[i] = true then some (.ret false) else if (if h0 : 0 < i then badP (l[i - 1]'(by omega)) l[i] else false) = true then some (.ret false) else m29_l0 l k ((i + 1 : Nat) : Int) := by
  simp only [m29_l0]
  rw [if_pos (by omega), rdx_lt hi, wrap_nat1 hl hi]
  simp only [Option.bind_some, ite_t]
  by_cases h0 : 0 < i
  · rw [wrap_nat_pred hl hi h0, rdx_lt (show i - 1 < l.length by omega)]
    simp only [Option.bind_some, ite_t, ite_f, if_pos (show (0 : Int) < i by omega), dif_pos h0]
    rfl
  · simp only [if_neg (show ¬ (0 : Int) < i by omega), dif_neg h0, Option.bind_some]
    rfl
theorem may_loop (l : List S_api_Arc) (hl : Sz l) : ∀ n i : Nat, i + n = l.length → May (l.take i) → (May l ∧ Ev (fun k => m29_l0 l k i) (.go ())) ∨ (¬ May l ∧ Ev (fun k => m29_l0 l k i) (.ret false))
  | 0, i, h, hm => by
    refine .inl ⟨by rwa [List.take_of_length_le (by omega)] at hm, Ev.succ (Ev.all fun k => ?_)⟩
    simp only [m29_l0]
    rw [if_neg (by omega)]
  | n + 1, i, h, hm => by
    have hi : i < l.length := by omega
    have hs := may_snoc hi hm
    cases hb : badA l[i] with
    | true =>
      refine .inr ⟨fun hm' => ?_, Ev.succ (Ev.all fun k => ?_)⟩
      · have := (badA_iff _).2 (hs.1 (hm'.take _)).1
        rw [hb] at this; cases this
      · rw [may_step l hl hi, if_pos hb]
    | false =>
      cases hp : (if h0 : 0 < i then badP (l[i - 1]'(by omega)) l[i] else false) with
      | true =>
        refine .inr ⟨fun hm' => ?_, Ev.succ (Ev.all fun k => ?_)⟩
        · by_cases h0 : 0 < i
          · rw [dif_pos h0] at hp
            have := (badP_iff _ _).2 ((hs.1 (hm'.take _)).2 h0)
            rw [hp] at this; cases this
          · rw [dif_neg h0] at hp; cases hp
        · rw [may_step l hl hi, hb, if_neg (by simp), if_pos hp]
      | false =>
        have e : ∀ k, m29_l0 l (k + 1) i = m29_l0 l k ((i + 1 : Nat) : Int) := fun k => by
          rw [may_step l hl hi, hb, if_neg (by simp), hp, if_neg (by simp)]
        have hc := hs.2 ⟨(badA_iff _).1 hb, fun h0 => by rw [dif_pos h0] at hp; exact (badP_iff _ _).1 hp⟩
        rcases may_loop l hl n (i + 1) (by omega) hc with ⟨h1, h2⟩ | ⟨h1, h2⟩
        · exact .inl ⟨h1, Ev.succ (Ev.eq h2 e)⟩
        · exact .inr ⟨h1, Ev.succ (Ev.eq h2 e)⟩
theorem may_ev (l : List S_api_Arc) (hl : Sz l) : ∃ b, Ev (fun k => m29 k l) b ∧ (b = true ↔ May l) := by
  rcases may_loop l hl l.length 0 (by omega) ⟨by simp, by simp⟩ with ⟨h1, h2⟩ | ⟨h1, h2⟩
  · exact ⟨true, Ev.onGo h2 (Ev.pure _), by simp [h1]⟩
  · exact ⟨false, Ev.onRet h2 (Ev.pure _), by simp [h1]⟩
/-- 'cmp.Compare', 'cmp.Or', the order of arcs. -/
theorem cmp_eq (a b : Int) : m103 a b = some (if a < b then -1 else if b < a then 1 else 0) := by
  simp only [m103, m157, decide_true, Bool.not_true, Option.bind_some]
  by_cases h1 : a < b
  · simp [h1]
  · by_cases h2 : b < a <;> simp [h1, h2]
theorem or2_ev (a b : Int) : Ev (fun k => m102 k [a, b]) (if a ≠ 0 then a else b) := by
  refine ⟨3, fun k hk => ?_⟩
  obtain ⟨j, rfl⟩ : ∃ j, k = j + 3 := ⟨k - 3, by omega⟩
  by_cases ha : a = 0
  · by_cases hb : b = 0
    · subst ha hb; simp [m102, m102_l0, rdx, IntKind.wrap_i64, Out.on]
    · subst ha; simp [m102, m102_l0, rdx, IntKind.wrap_i64, Out.on, hb]
  · simp [m102, m102_l0, rdx, IntKind.wrap_i64, Out.on, ha]
theorem order_ev (p x : S_api_Arc) : ∃ c, Ev (fun k => m155 k p x) c ∧ (0 ≤ c ↔ ¬ Lt2 p x) := by
  refine ⟨_, Ev.bnd (cmp_eq _ _) (Ev.bnd (cmp_eq _ _) (Ev.bind (or2_ev _ _) (Ev.pure _))), ?_⟩
  unfold Lt2
  by_cases h1 : p.From < x.From
  · simp [h1]
  · by_cases h2 : x.From < p.From
    · simp [h1, h2]; omega
    · by_cases h3 : p.To < x.To
      · simp [h1, h2, h3]; omega
      · by_cases h4 : x.To < p.To <;> simp [h1, h2, h3, h4] <;> omega
/-- 'graph.Check': nought just where the arcs may be. -/
theorem node_eq (n : Int) : m154 n = some (decide (1 ≤ n) && decide (n ≤ 64)) := by simp only [m154, ite_f, Option.bind_some]
theorem check_body (l : List S_api_Arc) (hl : Sz l) {i : Nat} (hi : i < l.length) (o : Out Int Unit) (hgo : (OkA l[i] ∧ ∀ h0 : 0 < i, Lt2 (l[i - 1]'(by omega)) l[i]) → Ev (fun k => m98_l0 l k ((i + 1 : Nat) : Int)) o) (hret : ¬ (OkA l[i] ∧ ∀ h0 : 0 < i, Lt2 (l[i - 1]'(by omega)) l[i]) → o = .ret 1) :
    Ev (fun k => m98_l0 l k i) o := by
  refine Ev.succ ?_
  simp only [m98_l0]
  refine Ev.pos (by omega) (Ev.bnd (rdx_lt hi) ?_)
  have fin : ∀ {f : Nat → Option Bool}, (∃ b, Ev f b ∧ (b = false ↔ (OkA l[i] ∧ ∀ h0 : 0 < i, Lt2 (l[i - 1]'(by omega)) l[i]))) →
      Ev (fun k => Option.bind (f k) fun s => if s = true then some (.ret 1) else m98_l0 l k (IntKind.i64.wrap ((i : Int) + 1))) o := by
    rintro f ⟨b, h1, h2⟩
    refine Ev.bind h1 ?_
    cases b with
    | true => rw [hret fun h => by cases h2.2 h]; exact Ev.pure _
    | false => rw [wrap_nat1 hl hi]; exact hgo (h2.1 rfl)
  refine fin ?_
  simp only [node_eq, Option.bind_some]
  by_cases c1 : (decide (1 ≤ l[i].From) && decide (l[i].From ≤ 64)) = true
  · by_cases c2 : (decide (1 ≤ l[i].To) && decide (l[i].To ≤ 64)) = true
    · by_cases c3 : l[i].From = l[i].To
      · exact ⟨true, Ev.pos c1 (Ev.pos c2 (Ev.pos c3 (Ev.pure _))), by simp [OkA, c3]⟩
      · by_cases c4 : l[i].Cost < 1
        · exact ⟨true, Ev.pos c1 (Ev.pos c2 (Ev.neg c3 (Ev.pos c4 (Ev.pure _)))), by simp [OkA]; omega⟩
        · by_cases c5 : 1073741824 < l[i].Cost
          · exact ⟨true, Ev.pos c1 (Ev.pos c2 (Ev.neg c3 (Ev.neg c4 (Ev.pos c5 (Ev.pure _))))), by simp [OkA]; omega⟩
          · simp only [Bool.and_eq_true, decide_eq_true_eq] at c1 c2
            have hok : OkA l[i] := ⟨c1.1, c1.2, c2.1, c2.2, c3, by omega, by omega⟩
            by_cases h0 : 0 < i
            · obtain ⟨c, hc1, hc2⟩ := order_ev (l[i - 1]'(by omega)) l[i]
              refine ⟨decide (0 ≤ c), Ev.pos (by simp [c1]) (Ev.pos (by simp [c2]) (Ev.neg c3 (Ev.neg c4 (Ev.neg c5 (Ev.pos (by omega) ?_))))), ?_⟩
              · rw [wrap_nat_pred hl hi h0]
                exact Ev.bnd (rdx_lt (show i - 1 < l.length by omega)) (Ev.bind hc1 (Ev.pure _))
              · rw [decide_eq_false_iff_not, hc2, Classical.not_not]
                exact ⟨fun h => ⟨hok, fun _ => h⟩, fun h => h.2 h0⟩
            · exact ⟨false, Ev.pos (by simp [c1]) (Ev.pos (by simp [c2]) (Ev.neg c3 (Ev.neg c4 (Ev.neg c5 (Ev.neg (by omega) (Ev.pure _)))))), by simp [hok, h0]⟩
    · refine ⟨true, Ev.pos c1 (Ev.neg c2 (Ev.pure _)), ?_⟩
      simp only [Bool.and_eq_true, decide_eq_true_eq] at c2
      simp [OkA]; omega
  · refine ⟨true, Ev.neg c1 (Ev.pure _), ?_⟩
    simp only [Bool.and_eq_true, decide_eq_true_eq] at c1
    simp [OkA]; omega
theorem check_loop (l : List S_api_Arc) (hl : Sz l) : ∀ n i : Nat, i + n = l.length → May (l.take i) → (May l ∧ Ev (fun k => m98_l0 l k i) (.go ())) ∨ (¬ May l ∧ Ev (fun k => m98_l0 l k i) (.ret 1))
  | 0, i, h, hm => by
    refine .inl ⟨by rwa [List.take_of_length_le (by omega)] at hm, Ev.succ (Ev.all fun k => ?_)⟩
    simp only [m98_l0]
    rw [if_neg (by omega)]
  | n + 1, i, h, hm => by
    have hi : i < l.length := by omega
    have hs := may_snoc hi hm
    by_cases hc : OkA l[i] ∧ ∀ h0 : 0 < i, Lt2 (l[i - 1]'(by omega)) l[i]
    · rcases check_loop l hl n (i + 1) (by omega) (hs.2 hc) with ⟨h1, h2⟩ | ⟨h1, h2⟩
      · exact .inl ⟨h1, check_body l hl hi _ (fun _ => h2) fun h => absurd hc h⟩
      · exact .inr ⟨h1, check_body l hl hi _ (fun _ => h2) fun h => absurd hc h⟩
    · exact .inr ⟨fun hm' => hc (hs.1 (hm'.take _)), check_body l hl hi _ (fun h => absurd h hc) fun _ => rfl⟩
theorem check_ev (l : List S_api_Arc) (hl : Sz l) : ∃ c, Ev (fun k => m98 k l) c ∧ (c = 0 ↔ May l) := by
  rcases check_loop l hl l.length 0 (by omega) ⟨by simp, by simp⟩ with ⟨h1, h2⟩ | ⟨h1, h2⟩
  · exact ⟨0, Ev.onGo h2 (Ev.pure _), by simp [h1]⟩
  · exact ⟨1, Ev.onRet h2 (Ev.pure _), by simp [h1]⟩
/-- 'graph.Nodes'. -/
theorem nodes_loop (l : List S_api_Arc) (hl : Sz l) : ∀ (n i : Nat) (m : List (Int × Bool)), i + n = l.length → (mkeys m).Nodup → ∃ m', Ev (fun k => m86_l0 l k m i) m' ∧ (mkeys m').Nodup ∧ ∀ x, x ∈ mkeys m' ↔ x ∈ mkeys m ∨ ∃ a ∈ l.drop i, x = a.From ∨ x = a.To
  | 0, i, m, h, hn => by
    refine ⟨m, Ev.succ (Ev.all fun k => ?_), hn, fun x => ?_⟩
    · simp only [m86_l0]; rw [if_neg (by omega)]
    · rw [List.drop_eq_nil_of_le (by omega)]; simp
  | n + 1, i, m, h, hn => by
    have hi : i < l.length := by omega
    obtain ⟨m', h1, h2, h3⟩ := nodes_loop l hl n (i + 1) (mput (mput m l[i].From true) l[i].To true) (by omega) (mput_nodup (mput_nodup hn))
    refine ⟨m', Ev.succ (Ev.eq h1 fun k => ?_), h2, fun x => ?_⟩
    · simp only [m86_l0]
      rw [if_pos (by omega), rdx_lt hi, wrap_nat1 hl hi]; rfl
    · rw [h3 x, mem_mput_iff, mem_mput_iff, List.drop_eq_getElem_cons hi]
      simp only [List.mem_cons, exists_eq_or_imp]
      constructor
      · rintro ((h | h | h) | h)
        · exact .inr (.inl (.inr h))
        · exact .inr (.inl (.inl h))
        · exact .inl h
        · exact .inr (.inr h)
      · rintro (h | (h | h) | h)
        · exact .inl (.inr (.inr h))
        · exact .inl (.inr (.inl h))
        · exact .inl (.inl h)
        · exact .inr h
def IsNode (l : List S_api_Arc) (x : Int) : Prop := ∃ a ∈ l, x = a.From ∨ x = a.To
theorem May.node {l : List S_api_Arc} (h : May l) {x : Int} (hx : IsNode l x) : 1 ≤ x ∧ x ≤ 64 := by
  obtain ⟨a, ha, e⟩ := hx
  have := h.1 a ha
  unfold OkA at this
  omega
theorem small_len {l : List Int} (hn : l.Nodup) (h : ∀ x ∈ l, 1 ≤ x ∧ x ≤ 64) : l.length ≤ 64 := by
  have := nodup_le (L := (List.range 65).map fun n : Nat => (n : Int)) hn fun x hx => by
    obtain ⟨h1, h2⟩ := h x hx
    exact List.mem_map.2 ⟨x.toNat, List.mem_range.2 (by omega), by omega⟩
  simp only [List.length_map, List.length_range] at this
  -- nought is not among them
  rcases Nat.lt_or_ge l.length 65 with h1 | h1
  · omega
  · have h2 := nodup_le (l := 0 :: l) (L := (List.range 65).map fun n : Nat => (n : Int)) (List.nodup_cons.2 ⟨fun h0 => by have := h 0 h0; omega, hn⟩) fun x hx => by
      rcases List.mem_cons.1 hx with rfl | hx
      · exact List.mem_map.2 ⟨0, List.mem_range.2 (by omega), rfl⟩
      · obtain ⟨h1, h2⟩ := h x hx
        exact List.mem_map.2 ⟨x.toNat, List.mem_range.2 (by omega), by omega⟩
    simp at h2; omega
theorem nodes_ev (l : List S_api_Arc) (hl : Sz l) : ∃ ns, Ev (fun k => m86 k l) ns ∧ ns.Pairwise (· < ·) ∧ ns.length ≤ 64 ∧ (May l → ∀ x, x ∈ ns ↔ IsNode l x) ∧ (¬ May l → ns = []) := by
  obtain ⟨c, h1, h2⟩ := check_ev l hl
  by_cases hc : c = 0
  · have hm := h2.1 hc
    obtain ⟨m, h3, h4, h5⟩ := nodes_loop l hl l.length 0 [] (by omega) (by simp [mkeys])
    have h6 : ∀ x, x ∈ mkeys m ↔ IsNode l x := fun x => by rw [h5 x, List.drop_zero]; simp [mkeys, IsNode]
    have h7 : ∀ x ∈ mkeys m, 1 ≤ x ∧ x ≤ 64 := fun x hx => hm.node ((h6 x).1 hx)
    have h8 := small_len h4 h7
    have h9 : m.length ≤ 64 := by simpa [mkeys] using h8
    refine ⟨sortZ (mkeys m), Ev.bind h1 (Ev.pos hc (Ev.bind h3 (Ev.bnd (skeys_ok (by omega) fun k hk => by have := h7 k hk; omega) (Ev.pure _)))), sortZ_lt h4, ?_, fun _ x => by rw [mem_sortZ, h6 x], fun h => absurd hm h⟩
    rw [(sortZ_permS _).length_eq]; exact h8
  · exact ⟨[], Ev.bind h1 (Ev.neg hc (Ev.pure _)), by simp, by simp, fun h => absurd (h2.2 h) hc, fun _ => rfl⟩
end Go.Proofs.Ytbielnhpfbhkgaa
