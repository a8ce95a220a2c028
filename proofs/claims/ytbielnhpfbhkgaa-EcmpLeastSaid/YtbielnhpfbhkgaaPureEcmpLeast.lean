/- The plain law of EcmpLeast: of the first hops of all least ways the least is the one that 'spf.Routes' names. -/
import Derived.Test.YtbielnhpfbhkgaaArgsEcmpLeast
import Derived.Test.YtbielnhpfbhkgaaPEcmp3
import Derived.KernelRfl
set_option linter.unusedVariables false
set_option linter.unusedSimpArgs false
namespace Go.Proofs.Ytbielnhpfbhkgaa
open Go Go.RowKit

theorem awake54 : Ev (fun k => m54 k) true := ⟨60, fun k hk => by
  obtain ⟨j, rfl⟩ : ∃ j, k = j + 60 := ⟨k - 60, by omega⟩
  kernel_rfl⟩
/-- 'api.Ways.Pick': one of the first hops. -/
theorem pick_eq (w : S_api_Ways) (x : Int) (hx : 0 ≤ x) (hl : w.Via.length ≤ 64) : ∃ v, m59 w x = some v ∧ (w.Via.length = 0 → v = 0) ∧ (0 < w.Via.length → v ∈ w.Via) := by
  simp only [m59]
  by_cases h : w.Via.length = 0
  · exact ⟨0, by rw [if_pos (by omega)], fun _ => rfl, fun h' => by omega⟩
  · have e : IntKind.u64.wrap (w.Via.length : Int) = (w.Via.length : Int) := wrapu_id (by omega) (by omega)
    have h1 := Int.tmod_nonneg (w.Via.length : Int) hx
    have h2 := Int.tmod_lt_of_pos x (show (0 : Int) < (w.Via.length : Int) by omega)
    obtain ⟨v, v1, v2⟩ := rdx_of h1 h2
    refine ⟨v, ?_, fun h' => absurd h' h, fun _ => List.mem_of_getElem? v2⟩
    rw [if_neg (by omega), e, if_pos (by omega), v1]; rfl
theorem ecmpLeast_true : ecmpLeast_pure := by
  intro l hgl hsz r wr x wx
  refine Ev.get (f := fun k => m10 k l r x) ?_
  have hx : 0 ≤ x := by
    have h : (decide ((0 : Int) ≤ x) && decide (x ≤ IntKind.u64.max)) = true := wx
    rw [Bool.and_eq_true, decide_eq_true_eq] at h
    exact h.1
  have aw : Ev (fun k => Option.bind (m54 k) fun x => some x) true := Ev.bind awake54 (Ev.pure _)
  by_cases c0 : 100 < (l.length : Int)
  · exact Ev.bind (v := true) (Ev.pos c0 (Ev.pure _)) (Ev.pos rfl aw)
  have hl : l.length ≤ 100 := by omega
  obtain ⟨bm, m1, m2⟩ := may_ev l hsz
  cases bm with
  | false => exact Ev.bind (v := true) (Ev.neg c0 (Ev.bind m1 (Ev.pure _))) (Ev.pos rfl aw)
  | true =>
  have hm := m2.1 rfl
  refine Ev.bind (v := false) (Ev.neg c0 (Ev.bind m1 (Ev.pure _))) (Ev.neg (by simp) ?_)
  obtain ⟨rs, at_, vias, many, r1, hr, hat, hw, a1⟩ := all_ev l hl hm r
  have hlen := hr.len hm
  generalize hws : rs.map (wayOf vias many) = ws at a1
  have hwl : ws.length = rs.length := by rw [← hws]; simp
  have hwz : Sz ws := by unfold Sz; omega
  refine Ev.bind a1 (Ev.bind r1 (Ev.pos (by omega) ?_))
  -- 'Pick' holds one of the first hops
  have hin : ∀ (i : Nat) (hi : i < ws.length) (v : Int), m59 ws[i] x = some v → v ∈ ws[i].Via → Ev (fun k => m10_l1 x ws i k false 0) true := by
    intro i hi v hv hmem
    obtain ⟨jj, hjj, hjv⟩ := List.getElem_of_mem hmem
    have hvl : ws[i].Via.length ≤ 64 := by
      have : ws[i] = wayOf vias many (rs[i]'(by omega)) := by simp only [← hws, List.getElem_map]
      rw [this]
      exact (wayOf_spec hm hr hat hw (List.getElem_mem _)).2.2.1
    have loop : ∀ (n j : Nat) (b : Bool), j + n = ws[i].Via.length → (b = true ∨ j ≤ jj) → Ev (fun k => m10_l1 x ws i k b j) true := by
      intro n
      induction n with
      | zero =>
        intro j b h hb
        have hb : b = true := by rcases hb with h | h; exact h; omega
        refine Ev.succ ?_
        simp only [m10_l1]
        refine Ev.bnd (rdx_lt hi) (Ev.neg (by omega) (Ev.of (by rw [hb])))
      | succ n ih =>
        intro j b h hb
        have hj : j < ws[i].Via.length := by omega
        refine Ev.succ ?_
        simp only [m10_l1]
        refine Ev.bnd (rdx_lt hi) (Ev.pos (by omega) (Ev.bind (v := b || decide (ws[i].Via[j] = v)) ?_ ?_))
        · cases b with
          | true => exact Ev.pos rfl (Ev.pure _)
          | false => exact Ev.neg (by simp) (Ev.bnd (rdx_lt hi) (Ev.bnd (rdx_lt hj) (Ev.bnd (rdx_lt hi) (Ev.bnd hv (Ev.of (by simp))))))
        · rw [show IntKind.i64.wrap ((j : Int) + 1) = ((j + 1 : Nat) : Int) from by rw [wrap_id (by omega) (by omega)]; omega]
          refine ih (j + 1) _ (by omega) ?_
          rcases hb with h' | h'
          · exact .inl (by rw [h']; rfl)
          · rcases Nat.lt_or_ge j jj with h2 | h2
            · exact .inr h2
            · obtain rfl : j = jj := by omega
              exact .inl (by simp [hjv])
    exact loop ws[i].Via.length 0 false (by omega) (.inr (Nat.zero_le _))
  have loop : ∀ (n i : Nat), i + n = ws.length → Ev (fun k => m10_l0 x ws rs k i) (.go ()) := by
    intro n
    induction n with
    | zero =>
      intro i h
      refine Ev.succ (Ev.all fun k => ?_)
      simp only [m10_l0]; rw [if_neg (by omega)]
    | succ n ih =>
      intro i h
      have hi : i < ws.length := by omega
      have hi' : i < rs.length := by omega
      have hmem : rs[i] ∈ rs := List.getElem_mem hi'
      have he : ws[i] = wayOf vias many rs[i] := by simp only [← hws, List.getElem_map]
      obtain ⟨s1, s2, s3, s4, s5⟩ := wayOf_spec hm hr hat hw hmem
      rw [← he] at s1 s2 s3 s4 s5
      have hv := (s2 rs[i].Via).2 (hr.way _ hmem).1
      have h0 : 0 < ws[i].Via.length := List.length_pos_of_mem hv
      have hhead : ws[i].Via[0] = rs[i].Via := by
        have h1 : rs[i].Via ≤ ws[i].Via[0] := by
          have := (s2 _).1 (List.getElem_mem h0)
          obtain ⟨y, hy, e, hle⟩ := hr.all _ _ _ this (hr.way _ hmem).2
          rw [hr.same hy hmem e] at hle
          unfold lexle at hle; omega
        obtain ⟨j, hj, e⟩ := List.getElem_of_mem hv
        rcases Nat.eq_zero_or_pos j with e' | e'
        · subst e'; exact e
        · have := List.pairwise_iff_getElem.1 s1 0 j h0 hj e'
          omega
      obtain ⟨v, v1, _, v2⟩ := pick_eq ws[i] x hx s3
      have hto : ws[i].To = rs[i].To := by rw [he]; rfl
      have hco : ws[i].Cost = rs[i].Cost := by rw [he]; rfl
      refine Ev.succ ?_
      simp only [m10_l0]
      refine Ev.pos (by omega) (Ev.bind (v := false) (Ev.bnd (rdx_lt hi) (Ev.neg (by omega) (Ev.bnd (rdx_lt hi) (Ev.bnd (v := ws[i].Via[0]) (by have := rdx_lt h0; simpa using this) (Ev.bnd (rdx_lt hi') (Ev.pos hhead (Ev.bnd (rdx_lt hi) (Ev.bnd (rdx_lt hi') (Ev.pos hto (Ev.bnd (rdx_lt hi) (Ev.bnd (rdx_lt hi') (Ev.pos hco (Ev.bnd (rdx_lt hi) (Ev.bnd (rdx_lt hi) (Ev.of ?_))))))))))))))) (Ev.neg (by simp) (Ev.bind (hin i hi v v1 (v2 h0)) (Ev.pos rfl ?_))))
      · rw [wrapu_id (by omega) (by omega)]
        simp; omega
      · rw [wrap_nat1 hwz hi]; exact ih (i + 1) (by omega)
  refine Ev.onGo (loop ws.length 0 (by omega)) ?_
  refine Ev.bind (v := true) (Ev.bnd (v := 0) ?_ (Ev.pos rfl aw)) (Ev.pure _)
  simp [m59]
end Go.Proofs.Ytbielnhpfbhkgaa
