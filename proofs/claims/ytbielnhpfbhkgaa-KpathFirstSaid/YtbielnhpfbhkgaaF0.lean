/- Functions and what their calls do, by program (gen.py). -/
import Derived.Test.YtbielnhpfbhkgaaS0
set_option linter.unusedVariables false
set_option linter.unusedSimpArgs false
namespace Go.Proofs.Ytbielnhpfbhkgaa
open Go Go.RowKit

theorem al3 : ∀ w : World, (Instr.alloc 3 true (.tuple #[])).run Try.prog w = .ok (.pointer (some (ad w.heap.size 0))) (w.alloc (.cells (List.toArray [(.int .i64 0)]) 3)) := fun w => by kernel_rfl
theorem sz3 : ∀ w : World, (sizeOf 3).run Try.prog w = .ok 1 w := fun w => by kernel_rfl
theorem c126 : Callable Try.prog 126 := ⟨Try.f126, Try.func126, by kernel_rfl, by kernel_rfl⟩
theorem c127 : Callable Try.prog 127 := ⟨Try.f127, Try.func127, by kernel_rfl, by kernel_rfl⟩
theorem c60 : Callable Try.prog 60 := ⟨Try.f60, Try.func60, by kernel_rfl, by kernel_rfl⟩
theorem c61 : Callable Try.prog 61 := ⟨Try.f61, Try.func61, by kernel_rfl, by kernel_rfl⟩
def m127v1 (a0 : S_api_Arc) (a1_v : List Int) (a2_v : Int) (a3_v : Int) : Option Bool := Option.bind (α := Bool) (Option.bind (rdx a1_v a2_v) fun x69 => if a0.From = x69 then (some (decide (a0.To = a3_v))) else (some false)) fun s68 => some s68
set_option maxRecDepth 20000 in
set_option maxHeartbeats 4000000 in
theorem f127v1_ok (a0 : S_api_Arc) {q1 : Nat} {u1_v : Value} (a1_v : List Int) {q2 : Nat} (a2_v : Int) {q3 : Nat} (a3_v : Int) {res : Bool} (hm : m127v1 a0 a1_v a2_v a3_v = some res) {z w : World} {I : Hp} {r : List Asn} (hr1_v : Rd (cInt .i64) I r u1_v a1_v) (H : St z I w (Bl q1 51 [u1_v] :: Bl q2 3 [(.int .i64 a2_v)] :: Bl q3 3 [(.int .i64 a3_v)] :: r)) :
    Calls Try.prog 127 #[(.agg #[(.int .i64 a0.From), (.int .i64 a0.To), (.int .i64 a0.Cost)]), (.pointer (some (ad q1 0))), (.pointer (some (ad q2 0))), (.pointer (some (ad q3 0)))] w (Rt fun v w' => v = (.bool res) ∧ St z I w' (Bl q3 3 [(.int .i64 a3_v)] :: Bl q2 3 [(.int .i64 a2_v)] :: Bl q1 51 [u1_v] :: r)) := by
  unfold m127v1 at hm
  refine enter (args := [(.agg #[(.int .i64 a0.From), (.int .i64 a0.To), (.int .i64 a0.Cost)]), (.pointer (some (ad q1 0))), (.pointer (some (ad q2 0))), (.pointer (some (ad q3 0)))]) Try.func127 rfl Try.ntmps127 rfl fun a hE => ?_
  refine wp_seq ?_
  refine wp_region_lit ?_
  refine s2 hE rfl (d_box hE rfl H) fun a v w hR hE => ?_
  obtain ⟨q63, rfl, H⟩ := hR
  have H : St z I w (Bl q63 60 [(.int .i64 a0.From), (.int .i64 a0.To), (.int .i64 a0.Cost)] :: Bl q1 51 [u1_v] :: Bl q2 3 [(.int .i64 a2_v)] :: Bl q3 3 [(.int .i64 a3_v)] :: r) := H
  refine s1 hE rfl (d_assign hE rfl) fun a hE => ?_
  refine wpList_nil ?_
  refine wp_seq ?_
  obtain ⟨s68, hj68, hm⟩ := bnd hm
  refine cut2 (fun a w => Env a 19 [(5, (.bool s68))] ∧ St z I w (Bl q3 3 [(.int .i64 a3_v)] :: Bl q2 3 [(.int .i64 a2_v)] :: Bl q1 51 [u1_v] :: r)) ?_ ?_
  · have hm := hj68
    obtain ⟨x69, hx70, hm⟩ := bnd hm
    by_cases c71 : a0.From = x69
    · rw [if_pos c71] at hm
      refine Dr.region (γ := Unit) (pre := [[], [0], [], [], [2, 3], [2, 3, 4], [0, 1, 2, 3, 4, 5], [0, 1, 2, 3, 4, 5, 6], [0, 1, 2, 3, 4, 5, 6, 7], [0, 1, 2, 3, 4, 5, 6, 7, 8], [0, 1, 2, 3, 4, 5, 6, 7], [0, 1, 2, 3, 4, 5, 6, 7, 8, 9, 10], [0, 1, 2, 3, 4, 5, 6, 7, 8, 9, 10, 11], [0, 1, 2, 3, 4, 5, 6, 7, 8, 9, 10, 11, 12]]) (val := [some (.pointer (some (ad q63 (0 + 0)))), some (.int .i64 a0.From), some u1_v, some (.int .i64 a2_v), some (.pointer (some (ad (sb u1_v) (so u1_v + (Int.toNat a2_v) * (cInt .i64).n)))), some (.int .i64 x69), some (.bool (decide (a0.From = x69))), some (.bool (decide (a0.From = x69))), some (.pointer (some (ad q63 (0 + 1)))), some (.int .i64 a0.To), some (.int .i64 a3_v), some (.bool (decide (a0.To = a3_v))), some (.bool (decide (a0.To = a3_v))), some (.bool (decide (a0.To = a3_v)))]) (eff := []) (mask := [[]]) (keys := [[]]) (src := [[.base 4], [.op 0], [.base 1], [.base 2], [.op 2, .op 3], [.op 4], [.op 1, .op 5], [.op 6], [.base 4, .op 7], [.op 7, .op 8], [.base 3, .op 7], [.op 7, .op 9, .op 10], [.op 7, .op 11], [.op 12]]) (z := z) (ef := fun p g => ([[]] : List (List (Nat × Value))).getD p []) (hi := fun _ _ => I) (rs := fun p g => ([Bl q63 60 [(.int .i64 a0.From), (.int .i64 a0.To), (.int .i64 a0.Cost)] :: Bl q1 51 [u1_v] :: Bl q2 3 [(.int .i64 a2_v)] :: Bl q3 3 [(.int .i64 a3_v)] :: r] : List (List Asn)).getD p []) [(0, 0), (1, 0), (2, 0), (3, 0), (4, 0), (5, 0), (6, 0), (7, 0), (8, 0), (9, 0), (10, 0), (11, 0), (12, 0), (13, 0)] [] [0, 1, 2, 3, 4, 5, 6, 7, 8, 9, 10, 11, 12, 13] 0 mo hE () rfl H (by kernel_rfl) (by kernel_rfl) (fun p g => by cases p <;> rfl) ?_ ?_ (by kernel_rfl) (by kernel_rfl) ?_
      · exact ⟨by intro a w g hE H; exact Dr.is H rfl (Dr.run rfl (d_fieldAddr fld60_0 hE rfl)),
    by intro a w g hE H; exact Dr.is H rfl (Dr.run rfl (d_load sc3 hE rfl H 0 rfl rfl)),
    by intro a w g hE H; exact Dr.is H rfl (Dr.run rfl (d_load sc51 hE rfl H 1 rfl rfl)),
    by intro a w g hE H; exact Dr.is H rfl (Dr.run rfl (d_load sc3 hE rfl H 2 rfl rfl)),
    by intro a w g hE H; exact Dr.is H rfl (Dr.run rfl (d_indexS sl51 hE rfl rfl H (Rd.cons (Rd.cons (Rd.cons (Rd.cons hr1_v)))) hx70)),
    by intro a w g hE H; exact Dr.is H rfl (Dr.run rfl (d_loadS1 sc3 hE rfl H (Rd.cons (Rd.cons (Rd.cons (Rd.cons hr1_v)))) hx70 (fun _ _ e => e))),
    by intro a w g hE H; exact Dr.is H rfl (Dr.run rfl (d_eql hE rfl rfl)),
    by intro a w g hE H; exact Dr.is H rfl (Dr.run rfl (d_move hE rfl)),
    by intro a w g hE H; exact Dr.is H rfl (Dr.rG rfl hE rfl rfl (decide_eq_true c71) (d_fieldAddr fld60_1 hE rfl)),
    by intro a w g hE H; exact Dr.is H rfl (Dr.rG rfl hE rfl rfl (decide_eq_true c71) (d_load sc3 hE rfl H 0 rfl rfl)),
    by intro a w g hE H; exact Dr.is H rfl (Dr.rG rfl hE rfl rfl (decide_eq_true c71) (d_load sc3 hE rfl H 3 rfl rfl)),
    by intro a w g hE H; exact Dr.is H rfl (Dr.rG rfl hE rfl rfl (decide_eq_true c71) (d_eql hE rfl rfl)),
    by intro a w g hE H; exact Dr.is H rfl (Dr.run rfl (d_pT hE rfl (decide_eq_true c71) rfl)),
    by intro a w g hE H; exact Dr.is H rfl (Dr.run rfl (d_assign hE rfl)),
    trivial⟩
      · trivial
      · intro a w g hE H
        have H : St z I w (Bl q63 60 [(.int .i64 a0.From), (.int .i64 a0.To), (.int .i64 a0.Cost)] :: Bl q1 51 [u1_v] :: Bl q2 3 [(.int .i64 a2_v)] :: Bl q3 3 [(.int .i64 a3_v)] :: r) := H
        cases hm
        have H := St.get H 1 rfl
        have H := St.get H 2 rfl
        have H := St.get H 3 rfl
        have H := St.del H 3
        exact ⟨hE.sub ⟨rfl, trivial⟩, H⟩
    · rw [if_neg c71] at hm
      refine Dr.region (γ := Unit) (pre := [[], [0], [], [], [2, 3], [2, 3, 4], [0, 1, 2, 3, 4, 5], [0, 1, 2, 3, 4, 5, 6], [0, 1, 2, 3, 4, 5, 6, 7], [0, 1, 2, 3, 4, 5, 6, 7, 8], [0, 1, 2, 3, 4, 5, 6, 7], [0, 1, 2, 3, 4, 5, 6, 7, 8, 9, 10], [0, 1, 2, 3, 4, 5, 6, 7, 8, 9, 10, 11], [0, 1, 2, 3, 4, 5, 6, 7, 8, 9, 10, 11, 12]]) (val := [some (.pointer (some (ad q63 (0 + 0)))), some (.int .i64 a0.From), some u1_v, some (.int .i64 a2_v), some (.pointer (some (ad (sb u1_v) (so u1_v + (Int.toNat a2_v) * (cInt .i64).n)))), some (.int .i64 x69), some (.bool (decide (a0.From = x69))), some (.bool (decide (a0.From = x69))), some undef, some undef, some undef, some undef, some (.bool false), some (.bool false)]) (eff := []) (mask := [[]]) (keys := [[]]) (src := [[.base 4], [.op 0], [.base 1], [.base 2], [.op 2, .op 3], [.op 4], [.op 1, .op 5], [.op 6], [.base 4, .op 7], [.op 7, .op 8], [.base 3, .op 7], [.op 7, .op 9, .op 10], [.op 7, .op 11], [.op 12]]) (z := z) (ef := fun p g => ([[]] : List (List (Nat × Value))).getD p []) (hi := fun _ _ => I) (rs := fun p g => ([Bl q63 60 [(.int .i64 a0.From), (.int .i64 a0.To), (.int .i64 a0.Cost)] :: Bl q1 51 [u1_v] :: Bl q2 3 [(.int .i64 a2_v)] :: Bl q3 3 [(.int .i64 a3_v)] :: r] : List (List Asn)).getD p []) [(0, 0), (1, 0), (2, 0), (3, 0), (4, 0), (5, 0), (6, 0), (7, 0), (8, 0), (9, 0), (10, 0), (11, 0), (12, 0), (13, 0)] [] [0, 1, 2, 3, 4, 5, 6, 7, 8, 9, 10, 11, 12, 13] 0 mo hE () rfl H (by kernel_rfl) (by kernel_rfl) (fun p g => by cases p <;> rfl) ?_ ?_ (by kernel_rfl) (by kernel_rfl) ?_
      · exact ⟨by intro a w g hE H; exact Dr.is H rfl (Dr.run rfl (d_fieldAddr fld60_0 hE rfl)),
    by intro a w g hE H; exact Dr.is H rfl (Dr.run rfl (d_load sc3 hE rfl H 0 rfl rfl)),
    by intro a w g hE H; exact Dr.is H rfl (Dr.run rfl (d_load sc51 hE rfl H 1 rfl rfl)),
    by intro a w g hE H; exact Dr.is H rfl (Dr.run rfl (d_load sc3 hE rfl H 2 rfl rfl)),
    by intro a w g hE H; exact Dr.is H rfl (Dr.run rfl (d_indexS sl51 hE rfl rfl H (Rd.cons (Rd.cons (Rd.cons (Rd.cons hr1_v)))) hx70)),
    by intro a w g hE H; exact Dr.is H rfl (Dr.run rfl (d_loadS1 sc3 hE rfl H (Rd.cons (Rd.cons (Rd.cons (Rd.cons hr1_v)))) hx70 (fun _ _ e => e))),
    by intro a w g hE H; exact Dr.is H rfl (Dr.run rfl (d_eql hE rfl rfl)),
    by intro a w g hE H; exact Dr.is H rfl (Dr.run rfl (d_move hE rfl)),
    by intro a w g hE H; exact Dr.is H rfl (Dr.pG rfl hE rfl rfl (decide_eq_false c71) ⟨rfl, rfl⟩),
    by intro a w g hE H; exact Dr.is H rfl (Dr.pG rfl hE rfl rfl (decide_eq_false c71) ⟨rfl, rfl⟩),
    by intro a w g hE H; exact Dr.is H rfl (Dr.pG rfl hE rfl rfl (decide_eq_false c71) ⟨rfl, rfl⟩),
    by intro a w g hE H; exact Dr.is H rfl (Dr.pG rfl hE rfl rfl (decide_eq_false c71) ⟨rfl, rfl⟩),
    by intro a w g hE H; exact Dr.is H rfl (Dr.run rfl (d_pF hE rfl (decide_eq_false c71) rfl)),
    by intro a w g hE H; exact Dr.is H rfl (Dr.run rfl (d_assign hE rfl)),
    trivial⟩
      · trivial
      · intro a w g hE H
        have H : St z I w (Bl q63 60 [(.int .i64 a0.From), (.int .i64 a0.To), (.int .i64 a0.Cost)] :: Bl q1 51 [u1_v] :: Bl q2 3 [(.int .i64 a2_v)] :: Bl q3 3 [(.int .i64 a3_v)] :: r) := H
        cases hm
        have H := St.get H 1 rfl
        have H := St.get H 2 rfl
        have H := St.get H 3 rfl
        have H := St.del H 3
        exact ⟨hE.sub ⟨rfl, trivial⟩, H⟩
  · rintro a w ⟨hE, H⟩
    refine wp_ret ?_
    cases hm
    exact ret1 rfl hE rfl ⟨_, rfl, rfl, H⟩
def m126v1_l0 (a0 : List S_api_Arc) (a1_0_v : List Int) (a1_1_v : Int) (a1_2_v : Int) : Nat → Int → Option (Out Int Unit)
  | 0, _ => none
  | k + 1, y142 => if y142 < (a0.length : Int) then (Option.bind (rdx a0 y142) fun x182 => Option.bind (m127v1 x182 a1_0_v a1_1_v a1_2_v) fun x184 => if x184 = true then (some (.ret y142)) else (m126v1_l0 a0 a1_0_v a1_1_v a1_2_v k (IntKind.i64.wrap (y142 + 1)))) else (some (.go ()))
def m126v1 (k : Nat) (a0 : List S_api_Arc) (a1_0_v : List Int) (a1_1_v : Int) (a1_2_v : Int) : Option Int := Option.bind (m126v1_l0 a0 a1_0_v a1_1_v a1_2_v k 0) fun s165 => s165.on (fun q_ => some q_) fun s165 => some (-1)
set_option maxRecDepth 20000 in
set_option maxHeartbeats 4000000 in
theorem f126v1_ok (k : Nat) {u0 : Value} (a0 : List S_api_Arc) {q1_0 : Nat} {u1_0_v : Value} (a1_0_v : List Int) {q1_1 : Nat} (a1_1_v : Int) {q1_2 : Nat} (a1_2_v : Int) {res : Int} (hm : m126v1 k a0 a1_0_v a1_1_v a1_2_v = some res) {z w : World} {I : Hp} {r : List Asn} (hr0 : Rd c_api_Arc I r u0 a0) (hr1_0_v : Rd (cInt .i64) I r u1_0_v a1_0_v) (H : St z I w (Bl q1_0 51 [u1_0_v] :: Bl q1_1 3 [(.int .i64 a1_1_v)] :: Bl q1_2 3 [(.int .i64 a1_2_v)] :: r)) :
    Calls Try.prog 126 #[u0, (.func (.func 127) #[] #[(.pointer (some (ad q1_0 0))), (.pointer (some (ad q1_1 0))), (.pointer (some (ad q1_2 0)))])] w (Rt fun v w' => v = (.int .i64 res) ∧ St z I w' (Bl q1_0 51 [u1_0_v] :: Bl q1_1 3 [(.int .i64 a1_1_v)] :: Bl q1_2 3 [(.int .i64 a1_2_v)] :: r)) := by
  unfold m126v1 at hm
  refine enter (args := [u0, (.func (.func 127) #[] #[(.pointer (some (ad q1_0 0))), (.pointer (some (ad q1_1 0))), (.pointer (some (ad q1_2 0)))])]) Try.func126 rfl Try.ntmps126 rfl fun a hE => ?_
  refine wp_seq ?_
  refine wp_region_lit ?_
  refine s1 hE rfl (d_assign hE rfl) fun a hE => ?_
  refine wpList_nil ?_
  refine wp_seq ?_
  refine wp_seq ?_
  refine wp_region_lit ?_
  refine s1 hE rfl (d_move hE rfl) fun a hE => ?_
  refine s1 hE rfl (d_lenS Try.underlying55 hE rfl H (Rd.cons (Rd.cons (Rd.cons hr0)))) fun a hE => ?_
  refine s1 hE rfl (d_move hE rfl) fun a hE => ?_
  refine wpList_nil ?_
  obtain ⟨s165, hj165, hq165⟩ := bnd hm
  refine cut2 (fun a w => ∃ s_ : Unit, s165 = .go s_ ∧ Env a 19 [] ∧ St z I w (Bl q1_0 51 [u1_0_v] :: Bl q1_1 3 [(.int .i64 a1_1_v)] :: Bl q1_2 3 [(.int .i64 a1_2_v)] :: r)) ?_ ?_
  · refine wp_block ?_
    refine loopI (fun k a w => ∃ y142 : Int, m126v1_l0 a0 a1_0_v a1_1_v a1_2_v k y142 = some s165 ∧ Env a 19 [(0, u0), (1, (.func (.func 127) #[] #[(.pointer (some (ad q1_0 0))), (.pointer (some (ad q1_1 0))), (.pointer (some (ad q1_2 0)))])), (7, (.int .i64 (a0.length : Int))), (8, (.int .i64 y142))] ∧ St z I w (Bl q1_0 51 [u1_0_v] :: Bl q1_1 3 [(.int .i64 a1_1_v)] :: Bl q1_2 3 [(.int .i64 a1_2_v)] :: r)) ?_ k _ _ ?_
    · rintro k a w ⟨y142, hm, hE, H⟩
      cases k with
      | zero => rw [m126v1_l0] at hm; cases hm
      | succ k =>
        rw [m126v1_l0] at hm
        refine wp_seq ?_
        refine wp_region_lit ?_
        refine s1 hE rfl (d_lss hE rfl rfl) fun a hE => ?_
        refine wpList_nil ?_
        refine wp_seq ?_
        by_cases c167 : y142 < (a0.length : Int)
        · rw [if_pos c167] at hm
          refine cT hE rfl (decide_eq_true c167) ?_
          refine wp_skip ?_
          refine wp_seq ?_
          refine wp_block ?_
          refine wp_seq ?_
          refine wp_region_lit ?_
          refine s1 hE rfl (d_move hE rfl) fun a hE => ?_
          refine s1 hE rfl (d_assign hE rfl) fun a hE => ?_
          refine wpList_nil ?_
          refine wp_seq ?_
          refine wp_region_lit ?_
          refine s1 hE rfl (d_move hE rfl) fun a hE => ?_
          refine s1 hE rfl (d_move hE rfl) fun a hE => ?_
          refine s1 hE rfl (d_move hE rfl) fun a hE => ?_
          obtain ⟨x182, hx183, hm⟩ := bnd hm
          refine s1 hE rfl (d_indexS sl55 hE rfl rfl H (Rd.cons (Rd.cons (Rd.cons hr0))) hx183) fun a hE => ?_
          refine s1 hE rfl (d_loadSA ag60 rfl hE rfl H (Rd.cons (Rd.cons (Rd.cons hr0))) hx183 (fun _ _ e => e)) fun a hE => ?_
          obtain ⟨x184, hc185, hm⟩ := bnd hm
          refine s2 hE rfl (d_callV c127 hE rfl rfl (f127v1_ok x182 a1_0_v a1_1_v a1_2_v hc185 hr1_0_v H)) fun a v w hR hE => ?_
          obtain ⟨hv_, H⟩ := hR
          have hv_ := hv_.symm
          subst hv_
          refine wpList_nil ?_
          by_cases c187 : x184 = true
          · rw [if_pos c187] at hm
            refine cT hE rfl c187 ?_
            refine wp_seq ?_
            refine wp_region_lit ?_
            refine s1 hE rfl (d_move hE rfl) fun a hE => ?_
            refine s1 hE rfl (d_assign hE rfl) fun a hE => ?_
            refine wpList_nil ?_
            refine wp_ret ?_
            cases hm
            have hm := hq165
            simp only [Out.on] at hm
            cases hm
            have H := St.get H 1 rfl
            have H := St.get H 2 rfl
            exact ret1 rfl hE rfl ⟨_, rfl, rfl, H⟩
          · rw [if_neg c187] at hm
            refine cF hE rfl (b_f c187) ?_
            refine wp_skip ?_
            refine wp_region_lit ?_
            refine s1 hE rfl (d_add hE rfl rfl) fun a hE => ?_
            refine s1 hE rfl (d_move hE rfl) fun a hE => ?_
            refine wpList_nil ?_
            have H := St.get H 1 rfl
            have H := St.get H 2 rfl
            exact ⟨k, Nat.lt_succ_self k, IntKind.i64.wrap (y142 + 1), hm, hE.sub ⟨rfl, rfl, rfl, rfl, trivial⟩, H⟩
        · rw [if_neg c167] at hm
          refine cF hE rfl (decide_eq_false c167) ?_
          refine wp_exit ?_
          cases hm
          exact ⟨_, rfl, hE.sub trivial, H⟩
    · exact ⟨0, hj165, hE.sub ⟨rfl, rfl, rfl, rfl, trivial⟩, H⟩
  · rintro a w ⟨s165, rfl, hE, H⟩
    have hm := hq165
    simp only [Out.on] at hm
    refine wp_seq ?_
    refine wp_region_lit ?_
    refine s1 hE rfl (d_assign hE rfl) fun a hE => ?_
    refine wpList_nil ?_
    refine wp_ret ?_
    cases hm
    exact ret1 rfl hE rfl ⟨_, rfl, rfl, H⟩
def m61_l0 (a0 : List S_api_Arc) (a1 : List Int) (l245 : List Int) : Nat → Int → Int → Option (Out (Int × Bool) Int)
  | 0, _, _ => none
  | k + 1, y293, y294 => if y294 < (l245.length : Int) then (Option.bind (rdx l245 y294) fun x371 => Option.bind (m126v1 k a0 a1 y294 x371) fun x377 => if x377 < 0 then (some (.ret (0, false))) else (Option.bind (rdx a0 x377) fun x385 => Option.bind (m89 y293 (IntKind.u64.wrap x385.Cost)) fun x387 => m61_l0 a0 a1 l245 k x387 (IntKind.i64.wrap (y294 + 1)))) else (some (.go y293))
def m61 (k : Nat) (a0 : List S_api_Arc) (a1 : List Int) : Option (Int × Bool) := Option.bind (α := Bool) (if (a1.length : Int) = 0 then (some true) else (Option.bind (m86 k a0) fun x234 => Option.bind (rdx a1 0) fun x237 => Option.bind (m91 k x234 x237) fun x239 => some (!x239))) fun s232 => if s232 = true then (some (0, false)) else (Option.bind (cutx a1 1 (a1.length : Int)) fun l245 => Option.bind (m61_l0 a0 a1 l245 k 0 0) fun s342 => s342.on (fun q_ => some q_) fun s342 => some (s342, true))
set_option maxRecDepth 20000 in
set_option maxHeartbeats 4000000 in
theorem f61_ok (k : Nat) {u0 : Value} (a0 : List S_api_Arc) {u1 : Value} (a1 : List Int) {res : Int × Bool} (hm : m61 k a0 a1 = some res) {z w : World} {I : Hp} {r : List Asn} (hr0 : Rd c_api_Arc I r u0 a0) (hr1 : Rd (cInt .i64) I r u1 a1) (hz : z.drawn = 0) (H : St z I w (r)) :
    Calls Try.prog 61 #[u0, u1] w (Rt fun v w' => v = (.tuple #[(.int .u64 res.1), (.bool res.2)]) ∧ St z I w' (r)) := by
  unfold m61 at hm
  refine enter (args := [u0, u1]) Try.func61 rfl Try.ntmps61 rfl fun a hE => ?_
  refine wp_seq ?_
  refine wp_region_lit ?_
  refine s2 hE rfl (d_box1 hE rfl (one_slice (Rd.slice H hr1)).1 H) fun a v w hR hE => ?_
  obtain ⟨q222, rfl, H⟩ := hR
  have H : St z I w (Bl q222 51 [u1] :: r) := H
  refine s1 hE rfl (d_assign hE rfl) fun a hE => ?_
  refine s1 hE rfl (d_assign hE rfl) fun a hE => ?_
  refine wpList_nil ?_
  refine wp_seq ?_
  refine wp_seq ?_
  obtain ⟨s232, hj232, hm⟩ := bnd hm
  refine cut2 (fun a w => Env a 45 [(0, u0), (3, (.pointer (some (ad q222 0)))), (21, (.bool s232))] ∧ St z I w (Bl q222 51 [u1] :: r)) ?_ ?_
  · have hm := hj232
    by_cases c233 : (a1.length : Int) = 0
    · rw [if_pos c233] at hm
      refine Dr.region (γ := Unit) (pre := [[], [0], [0, 1], [0, 1, 2], [0, 1, 2, 3], [0, 1, 2, 3, 4], [0, 1, 2, 3], [0, 1, 2, 3, 6], [0, 1, 2, 3, 6, 7], [0, 1, 2, 3, 4, 5, 6, 7, 8], [0, 1, 2, 3, 4, 5, 6, 7, 8, 9], [0, 1, 2, 3, 4, 5, 6, 7, 8, 9, 10]]) (val := [some u1, some (.int .i64 (a1.length : Int)), some (.bool (decide ((a1.length : Int) = 0))), some (.bool (decide ((a1.length : Int) = 0))), some undef, some undef, some undef, some undef, some undef, some undef, some undef, some (.bool true)]) (eff := []) (mask := [[]]) (keys := [[]]) (src := [[.base 3], [.op 0], [.op 1], [.op 2], [.base 0, .op 3], [.op 3, .op 4], [.base 3, .op 3], [.op 3, .op 6], [.op 3, .op 7], [.op 3, .op 5, .op 8], [.op 3, .op 9], [.op 3, .op 10]]) (z := z) (ef := fun p g => ([[]] : List (List (Nat × Value))).getD p []) (hi := fun _ _ => I) (rs := fun p g => ([Bl q222 51 [u1] :: r] : List (List Asn)).getD p []) [(0, 0), (1, 0), (2, 0), (3, 0), (4, 0), (5, 0), (6, 0), (7, 0), (8, 0), (9, 0), (10, 0), (11, 0)] [] [0, 1, 2, 3, 4, 5, 6, 7, 8, 9, 10, 11] 0 mo hE () rfl H (by kernel_rfl) (by kernel_rfl) (fun p g => by cases p <;> rfl) ?_ ?_ (by kernel_rfl) (by kernel_rfl) ?_
      · exact ⟨by intro a w g hE H; exact Dr.is H rfl (Dr.run rfl (d_load sc51 hE rfl H 0 rfl rfl)),
    by intro a w g hE H; exact Dr.is H rfl (Dr.run rfl (d_lenS Try.underlying51 hE rfl H (Rd.cons hr1))),
    by intro a w g hE H; exact Dr.is H rfl (Dr.run rfl (d_eql hE rfl rfl)),
    by intro a w g hE H; exact Dr.is H rfl (Dr.run rfl (d_move hE rfl)),
    by intro a w g hE H; exact Dr.is H rfl (Dr.pG rfl hE rfl rfl (decide_eq_true c233) ⟨rfl, rfl⟩),
    by intro a w g hE H; exact Dr.is H rfl (Dr.pG rfl hE rfl rfl (decide_eq_true c233) ⟨rfl, rfl⟩),
    by intro a w g hE H; exact Dr.is H rfl (Dr.pG rfl hE rfl rfl (decide_eq_true c233) ⟨rfl, rfl⟩),
    by intro a w g hE H; exact Dr.is H rfl (Dr.pG rfl hE rfl rfl (decide_eq_true c233) ⟨rfl, rfl⟩),
    by intro a w g hE H; exact Dr.is H rfl (Dr.pG rfl hE rfl rfl (decide_eq_true c233) ⟨rfl, rfl⟩),
    by intro a w g hE H; exact Dr.is H rfl (Dr.pG rfl hE rfl rfl (decide_eq_true c233) ⟨rfl, rfl⟩),
    by intro a w g hE H; exact Dr.is H rfl (Dr.pG rfl hE rfl rfl (decide_eq_true c233) ⟨rfl, rfl⟩),
    by intro a w g hE H; exact Dr.is H rfl (Dr.run rfl (d_pT hE rfl (decide_eq_true c233) rfl)),
    trivial⟩
      · trivial
      · intro a w g hE H
        have H : St z I w (Bl q222 51 [u1] :: r) := H
        cases hm
        exact ⟨hE.sub ⟨rfl, rfl, rfl, trivial⟩, H⟩
    · rw [if_neg c233] at hm
      obtain ⟨x234, hc235, hm⟩ := bnd hm
      obtain ⟨x237, hx238, hm⟩ := bnd hm
      obtain ⟨x239, hc240, hm⟩ := bnd hm
      refine Dr.region (γ := Value) (pre := [[], [0], [0, 1], [0, 1, 2], [0, 1, 2, 3], [0, 1, 2, 3, 4], [0, 1, 2, 3], [0, 1, 2, 3, 6], [0, 1, 2, 3, 6, 7], [0, 1, 2, 3, 4, 5, 6, 7, 8], [0, 1, 2, 3, 4, 5, 6, 7, 8, 9], [0, 1, 2, 3, 4, 5, 6, 7, 8, 9, 10]]) (val := [some u1, some (.int .i64 (a1.length : Int)), some (.bool (decide ((a1.length : Int) = 0))), some (.bool (decide ((a1.length : Int) = 0))), some u0, none, some u1, some (.pointer (some (ad (sb u1) (so u1 + (Int.toNat 0) * (cInt .i64).n)))), some (.int .i64 x237), none, none, none]) (eff := [5, 9, 10, 11]) (mask := [[], [5], [5, 9], [5, 9, 10], [5, 9, 10, 11]]) (keys := [[], [15], [19, 15], [20, 19, 15], [21, 20, 19, 15]]) (src := [[.base 3], [.op 0], [.op 1], [.op 2], [.base 0, .op 3], [.op 3, .op 4], [.base 3, .op 3], [.op 3, .op 6], [.op 3, .op 7], [.op 3, .op 8], [.op 3], [.op 3]]) (z := z) (ef := fun p g => ([[], [(15, g)], [(19, (.bool x239)), (15, g)], [(20, (.bool (!x239))), (19, (.bool x239)), (15, g)], [(21, (.bool (!x239))), (20, (.bool (!x239))), (19, (.bool x239)), (15, g)]] : List (List (Nat × Value))).getD p []) (hi := fun _ _ => I) (rs := fun p g => ([Bl q222 51 [u1] :: r, OwnSl (cInt .i64) g x234 :: Bl q222 51 [u1] :: r, OwnSl (cInt .i64) g x234 :: Bl q222 51 [u1] :: r, OwnSl (cInt .i64) g x234 :: Bl q222 51 [u1] :: r, OwnSl (cInt .i64) g x234 :: Bl q222 51 [u1] :: r] : List (List Asn)).getD p []) [(0, 0), (1, 0), (2, 0), (3, 0), (4, 0), (6, 0), (7, 0), (8, 0), (6, 1), (7, 1), (8, 1)] [(0, 5, 1), (1, 9, 2), (2, 10, 3), (3, 11, 4)] [0, 1, 2, 3, 4, 6, 7, 8] 4 mo hE (undef) rfl H (by kernel_rfl) (by kernel_rfl) (fun p g => by rcases p with _ | _ | _ | _ | _ | p <;> rfl) ?_ ?_ (by kernel_rfl) (by kernel_rfl) ?_
      · exact ⟨by intro a w g hE H; obtain ⟨v236, rfl⟩ : ∃ x, x = g := ⟨g, rfl⟩; exact Dr.is H rfl (Dr.run rfl (d_load sc51 hE rfl H 0 rfl rfl)),
    by intro a w g hE H; obtain ⟨v236, rfl⟩ : ∃ x, x = g := ⟨g, rfl⟩; exact Dr.is H rfl (Dr.run rfl (d_lenS Try.underlying51 hE rfl H (Rd.cons hr1))),
    by intro a w g hE H; obtain ⟨v236, rfl⟩ : ∃ x, x = g := ⟨g, rfl⟩; exact Dr.is H rfl (Dr.run rfl (d_eql hE rfl rfl)),
    by intro a w g hE H; obtain ⟨v236, rfl⟩ : ∃ x, x = g := ⟨g, rfl⟩; exact Dr.is H rfl (Dr.run rfl (d_move hE rfl)),
    by intro a w g hE H; obtain ⟨v236, rfl⟩ : ∃ x, x = g := ⟨g, rfl⟩; exact Dr.is H rfl (Dr.rG rfl hE rfl rfl (decide_eq_false c233) (d_move hE rfl)),
    by intro a w g hE H; obtain ⟨v236, rfl⟩ : ∃ x, x = g := ⟨g, rfl⟩; exact Dr.is H rfl (Dr.rG rfl hE rfl rfl (decide_eq_false c233) (d_load sc51 hE rfl H 0 rfl rfl)),
    by intro a w g hE H; obtain ⟨v236, rfl⟩ : ∃ x, x = g := ⟨g, rfl⟩; exact Dr.is H rfl (Dr.rG rfl hE rfl rfl (decide_eq_false c233) (d_indexS sl51 hE rfl rfl H (Rd.cons hr1) hx238)),
    by intro a w g hE H; obtain ⟨v236, rfl⟩ : ∃ x, x = g := ⟨g, rfl⟩; exact Dr.is H rfl (Dr.rG rfl hE rfl rfl (decide_eq_false c233) (d_loadS1 sc3 hE rfl H (Rd.cons hr1) hx238 (fun _ _ e => e))),
    by intro a w g hE H; obtain ⟨v236, rfl⟩ : ∃ x, x = g := ⟨g, rfl⟩; exact Dr.is H rfl (Dr.rG rfl hE rfl rfl (decide_eq_false c233) (d_load sc51 hE rfl H 1 rfl rfl)),
    by intro a w g hE H; obtain ⟨v236, rfl⟩ : ∃ x, x = g := ⟨g, rfl⟩; exact Dr.is H rfl (Dr.rG rfl hE rfl rfl (decide_eq_false c233) (d_indexS sl51 hE rfl rfl H (Rd.cons (Rd.cons hr1)) hx238)),
    by intro a w g hE H; obtain ⟨v236, rfl⟩ : ∃ x, x = g := ⟨g, rfl⟩; exact Dr.is H rfl (Dr.rG rfl hE rfl rfl (decide_eq_false c233) (d_loadS1 sc3 hE rfl H (Rd.cons (Rd.cons hr1)) hx238 (fun _ _ e => e))),
    trivial⟩
      · exact ⟨by intro a w g hE hF H; obtain ⟨v236, rfl⟩ : ∃ x, x = g := ⟨g, rfl⟩; refine (Dr.rG rfl hE rfl rfl (decide_eq_false c233) (d_call c86 hE rfl (f86_ok k a0 hc235 (Rd.cons hr0) hz H))).mono fun v w hR => ?_; obtain ⟨v236, hv_, H⟩ := hR; have hv_ := hv_.symm; subst hv_; exact ⟨v236, H, Dr.lkSub ⟨rfl, trivial⟩⟩,
    by intro a w g hE hF H; obtain ⟨v236, rfl⟩ : ∃ x, x = g := ⟨g, rfl⟩; have hE := Dr.env_both hE hF; refine (Dr.rG rfl hE rfl rfl (decide_eq_false c233) (d_call c91 hE rfl (f91_ok k x234 x237 hc240 (Rd.own 0 rfl) H))).mono fun v w hR => ?_; obtain ⟨hv_, H⟩ := hR; have hv_ := hv_.symm; subst hv_; exact ⟨v236, H, Dr.lkSub ⟨rfl, rfl, trivial⟩⟩,
    by intro a w g hE hF H; obtain ⟨v236, rfl⟩ : ∃ x, x = g := ⟨g, rfl⟩; have hE := Dr.env_both hE hF; refine (Dr.rG rfl hE rfl rfl (decide_eq_false c233) (d_not hE rfl)).mono fun v w' hR => ?_; obtain ⟨hv_, rfl⟩ := hR; have hv_ := hv_.symm; subst hv_; exact ⟨v236, H, Dr.lkSub ⟨rfl, rfl, rfl, trivial⟩⟩,
    by intro a w g hE hF H; obtain ⟨v236, rfl⟩ : ∃ x, x = g := ⟨g, rfl⟩; have hE := Dr.env_both hE hF; refine (Dr.run rfl (d_pF hE rfl (decide_eq_false c233) rfl)).mono fun v w' hR => ?_; obtain ⟨hv_, rfl⟩ := hR; have hv_ := hv_.symm; subst hv_; exact ⟨v236, H, Dr.lkSub ⟨rfl, rfl, rfl, rfl, trivial⟩⟩,
    trivial⟩
      · intro a w g hE H
        obtain ⟨v236, rfl⟩ : ∃ x, x = g := ⟨g, rfl⟩
        have H : St z I w (OwnSl (cInt .i64) v236 x234 :: Bl q222 51 [u1] :: r) := H
        cases hm
        have H := St.get H 1 rfl
        have H := St.del H 1
        exact ⟨hE.sub ⟨rfl, rfl, rfl, trivial⟩, H⟩
  · rintro a w ⟨hE, H⟩
    by_cases c242 : s232 = true
    · rw [if_pos c242] at hm
      refine cT hE rfl c242 ?_
      refine wp_seq ?_
      refine wp_region_lit ?_
      refine s1 hE rfl (d_assign hE rfl) fun a hE => ?_
      refine s1 hE rfl (d_assign hE rfl) fun a hE => ?_
      refine wpList_nil ?_
      refine wp_ret ?_
      cases hm
      have H := St.del H 0
      exact ret2 rfl hE rfl rfl ⟨_, rfl, rfl, H⟩
    · rw [if_neg c242] at hm
      refine cF hE rfl (b_f c242) ?_
      refine wp_skip ?_
      refine wp_seq ?_
      refine wp_region_lit ?_
      refine s1 hE rfl (d_assign hE rfl) fun a hE => ?_
      refine wpList_nil ?_
      refine wp_seq ?_
      refine wp_seq ?_
      refine wp_region_lit ?_
      refine s1 hE rfl (d_load sc51 hE rfl H 0 rfl rfl) fun a hE => ?_
      obtain ⟨l245, hl246, hm⟩ := bnd hm
      refine s1 hE rfl (d_sliceR (c := (cInt .i64)) (lo := 1) (hi := (a1.length : Int)) sl51 hE rfl (.inl ⟨_, rfl, rfl⟩) (.inr ⟨rfl, rfl⟩) hl246 H (Rd.cons hr1)) fun a hE => ?_
      refine s1 hE rfl (d_lenS Try.underlying51 hE rfl H (Rd.cons (Rd.cut hl246 hr1))) fun a hE => ?_
      refine s1 hE rfl (d_move hE rfl) fun a hE => ?_
      refine wpList_nil ?_
      obtain ⟨s342, hj342, hq342⟩ := bnd hm
      refine cut2 (fun a w => ∃ s_ : Int, s342 = .go s_ ∧ Env a 45 [(6, (.int .u64 s_))] ∧ St z I w (r)) ?_ ?_
      · refine wp_block ?_
        refine loopI (fun k a w => ∃ y293 : Int, ∃ y294 : Int, m61_l0 a0 a1 l245 k y293 y294 = some s342 ∧ Env a 45 [(0, u0), (3, (.pointer (some (ad q222 0)))), (6, (.int .u64 y293)), (23, (slv 1 u1 1 (a1.length : Int))), (24, (.int .i64 (l245.length : Int))), (25, (.int .i64 y294))] ∧ St z I w (Bl q222 51 [u1] :: r)) ?_ k _ _ ?_
        · rintro k a w ⟨y293, y294, hm, hE, H⟩
          cases k with
          | zero => rw [m61_l0] at hm; cases hm
          | succ k =>
            rw [m61_l0] at hm
            refine wp_seq ?_
            refine wp_region_lit ?_
            refine s1 hE rfl (d_lss hE rfl rfl) fun a hE => ?_
            refine wpList_nil ?_
            refine wp_seq ?_
            by_cases c344 : y294 < (l245.length : Int)
            · rw [if_pos c344] at hm
              refine cT hE rfl (decide_eq_true c344) ?_
              refine wp_skip ?_
              refine wp_seq ?_
              refine wp_block ?_
              refine wp_seq ?_
              refine wp_region_lit ?_
              refine s1 hE rfl (d_move hE rfl) fun a hE => ?_
              obtain ⟨x371, hx372, hm⟩ := bnd hm
              refine s1 hE rfl (d_indexS sl51 hE rfl rfl H (Rd.cons (Rd.cut hl246 hr1)) hx372) fun a hE => ?_
              refine s1 hE rfl (d_loadS1 sc3 hE rfl H (Rd.cons (Rd.cut hl246 hr1)) hx372 (fun _ _ e => e)) fun a hE => ?_
              refine s2 hE rfl (d_alloc al3 H) fun a v w hR hE => ?_
              obtain ⟨q373, rfl, H⟩ := hR
              refine s2 hE rfl (d_alloc al3 H) fun a v w hR hE => ?_
              obtain ⟨q374, rfl, H⟩ := hR
              have H := St.get H 1 rfl
              refine s3 (d_store sz3 hE rfl rfl rfl (oneAll rfl) H rfl) fun v w hR => ?_
              have H : St z I w (Bl q373 3 [(.int .i64 y294)] :: Bl q374 3 [(.int .i64 0)] :: Bl q222 51 [u1] :: r) := hR
              have H := St.get H 1 rfl
              refine s3 (d_store sz3 hE rfl rfl rfl (oneAll rfl) H rfl) fun v w hR => ?_
              have H : St z I w (Bl q374 3 [(.int .i64 x371)] :: Bl q373 3 [(.int .i64 y294)] :: Bl q222 51 [u1] :: r) := hR
              refine wpList_nil ?_
              refine wp_seq ?_
              refine wp_region_lit ?_
              refine s1 hE rfl (d_move hE rfl) fun a hE => ?_
              refine s1 hE rfl (d_makeFunc hE rfl rfl) fun a hE => ?_
              obtain ⟨x377, hc378, hm⟩ := bnd hm
              have H := St.get H 1 rfl
              have H := St.get H 2 rfl
              have H : St z I w (Bl q222 51 [u1] :: Bl q373 3 [(.int .i64 y294)] :: Bl q374 3 [(.int .i64 x371)] :: r) := H
              refine s2 hE rfl (d_call c126 hE rfl (f126v1_ok k a0 a1 y294 x371 hc378 hr0 hr1 H)) fun a v w hR hE => ?_
              obtain ⟨hv_, H⟩ := hR
              have hv_ := hv_.symm
              subst hv_
              refine s1 hE rfl (d_assign hE rfl) fun a hE => ?_
              refine wpList_nil ?_
              refine wp_seq ?_
              refine wp_seq ?_
              refine wp_region_lit ?_
              refine s1 hE rfl (d_move hE rfl) fun a hE => ?_
              refine s1 hE rfl (d_lss hE rfl rfl) fun a hE => ?_
              refine wpList_nil ?_
              by_cases c380 : x377 < 0
              · rw [if_pos c380] at hm
                refine cT hE rfl (decide_eq_true c380) ?_
                refine wp_seq ?_
                refine wp_region_lit ?_
                refine s1 hE rfl (d_assign hE rfl) fun a hE => ?_
                refine s1 hE rfl (d_assign hE rfl) fun a hE => ?_
                refine wpList_nil ?_
                refine wp_ret ?_
                cases hm
                have hm := hq342
                simp only [Out.on] at hm
                cases hm
                have H := St.del H 0
                have H := St.del H 0
                have H := St.del H 0
                exact ret2 rfl hE rfl rfl ⟨_, rfl, rfl, H⟩
              · rw [if_neg c380] at hm
                refine cF hE rfl (decide_eq_false c380) ?_
                refine wp_skip ?_
                refine wp_region_lit ?_
                refine s1 hE rfl (d_move hE rfl) fun a hE => ?_
                refine s1 hE rfl (d_move hE rfl) fun a hE => ?_
                refine s1 hE rfl (d_move hE rfl) fun a hE => ?_
                obtain ⟨x385, hx386, hm⟩ := bnd hm
                refine s1 hE rfl (d_indexS sl55 hE rfl rfl H (Rd.cons (Rd.cons (Rd.cons hr0))) hx386) fun a hE => ?_
                refine s1 hE rfl (d_fieldAddr fld60_2 hE rfl) fun a hE => ?_
                refine s1 hE rfl (d_loadSf (j := 2) sc3 hE rfl H (Rd.cons (Rd.cons (Rd.cons hr0))) hx386 (fun _ _ e => by rw [e]; rfl)) fun a hE => ?_
                refine s1 hE rfl (d_convert hE rfl (cv3_61 _)) fun a hE => ?_
                obtain ⟨x387, hc388, hm⟩ := bnd hm
                refine s2 hE rfl (d_call c89 hE rfl (f89_ok y293 (IntKind.u64.wrap x385.Cost) hc388  H)) fun a v w hR hE => ?_
                obtain ⟨hv_, H⟩ := hR
                have hv_ := hv_.symm
                subst hv_
                refine s1 hE rfl (d_assign hE rfl) fun a hE => ?_
                refine wpList_nil ?_
                refine wp_region_lit ?_
                refine s1 hE rfl (d_add hE rfl rfl) fun a hE => ?_
                refine s1 hE rfl (d_move hE rfl) fun a hE => ?_
                refine wpList_nil ?_
                have H := St.del H 1
                have H := St.del H 1
                exact ⟨k, Nat.lt_succ_self k, x387, IntKind.i64.wrap (y294 + 1), hm, hE.sub ⟨rfl, rfl, rfl, rfl, rfl, rfl, trivial⟩, H⟩
            · rw [if_neg c344] at hm
              refine cF hE rfl (decide_eq_false c344) ?_
              refine wp_exit ?_
              cases hm
              have H := St.del H 0
              exact ⟨_, rfl, hE.sub ⟨rfl, trivial⟩, H⟩
        · exact ⟨0, 0, hj342, hE.sub ⟨rfl, rfl, rfl, rfl, rfl, rfl, trivial⟩, H⟩
      · rintro a w ⟨s342, rfl, hE, H⟩
        have hm := hq342
        simp only [Out.on] at hm
        refine wp_seq ?_
        refine wp_region_lit ?_
        refine s1 hE rfl (d_move hE rfl) fun a hE => ?_
        refine s1 hE rfl (d_assign hE rfl) fun a hE => ?_
        refine s1 hE rfl (d_assign hE rfl) fun a hE => ?_
        refine wpList_nil ?_
        refine wp_ret ?_
        cases hm
        exact ret2 rfl hE rfl rfl ⟨_, rfl, rfl, H⟩
def m11_l0 (a0 : List S_api_Arc) (x336 : (List S_api_Path)) : Nat → Int → Option (Out Bool Unit)
  | 0, _ => none
  | k + 1, y418 => if y418 < (x336.length : Int) then (Option.bind (rdx x336 y418) fun x519 => Option.bind (m61 k a0 x519.Nodes) fun x522 => Option.bind (α := Bool) (if x522.2 = true then (Option.bind (rdx x336 y418) fun x536 => if x522.1 = x536.Cost then (if 0 < y418 then (Option.bind (rdx x336 (IntKind.i64.wrap (y418 - 1))) fun x540 => some (decide (x522.1 < x540.Cost))) else (some false)) else (some true)) else (some true)) fun s534 => if s534 = true then (some (.ret false)) else (m11_l0 a0 x336 k (IntKind.i64.wrap (y418 + 1)))) else (some (.go ()))
def m11 (k : Nat) (a0 : List S_api_Arc) (a1 : S_waymarklaw48_Ask) : Option Bool := Option.bind (α := Bool) (if 24 < (a0.length : Int) then (some true) else (Option.bind (m29 k a0) fun x315 => if x315 = true then (Option.bind (m36 k a0) fun x318 => if 6 < (x318.length : Int) then (some true) else (if a1.Most < 1 then (some true) else (some (decide (a1.From = a1.To))))) else (some true))) fun s313 => if s313 = true then (Option.bind (m40 k ) fun x331 => some x331) else (Option.bind (m41 k a0 a1.From a1.To a1.Most) fun x336 => Option.bind (m60 k a0 a1.From a1.To) fun x341 => Option.bind (α := Bool) (if (x341.2 == decide (0 < (x336.length : Int))) = true then (if x341.2 = true then (Option.bind (rdx x336 0) fun x352 => some (!(decide (x352.Cost = x341.1)))) else (some false)) else (some true)) fun s349 => if s349 = true then (some false) else (Option.bind (m11_l0 a0 x336 k 0) fun s481 => s481.on (fun q_ => some q_) fun s481 => Option.bind (m40 k ) fun x546 => some x546))
set_option maxRecDepth 20000 in
set_option maxHeartbeats 4000000 in
theorem f11_ok (k : Nat) {u0 : Value} (a0 : List S_api_Arc) (a1 : S_waymarklaw48_Ask) {res : Bool} (hm : m11 k a0 a1 = some res) {z w : World} {I : Hp} {r : List Asn} (hr0 : Rd c_api_Arc I r u0 a0) (hz : z.drawn = 0) (H : St z I w (r)) :
    Calls Try.prog 11 #[u0, (.agg #[(.int .i64 a1.From), (.int .i64 a1.To), (.int .i64 a1.Most)])] w (Rt fun v w' => v = (.bool res) ∧ St z I w' (r)) := by
  unfold m11 at hm
  refine enter (args := [u0, (.agg #[(.int .i64 a1.From), (.int .i64 a1.To), (.int .i64 a1.Most)])]) Try.func11 rfl Try.ntmps11 rfl fun a hE => ?_
  refine wp_seq ?_
  refine wp_region_lit ?_
  refine s2 hE rfl (d_box hE rfl H) fun a v w hR hE => ?_
  obtain ⟨q301, rfl, H⟩ := hR
  have H : St z I w (Bl q301 73 [(.int .i64 a1.From), (.int .i64 a1.To), (.int .i64 a1.Most)] :: r) := H
  refine s1 hE rfl (d_assign hE rfl) fun a hE => ?_
  refine wpList_nil ?_
  refine wp_seq ?_
  refine Dr.region (γ := Unit) (pre := [[], [0], [], [2], [], [4], [0, 1], [0, 1, 2, 3, 6], [0, 1, 2, 3, 4, 5, 6, 7]]) (val := [some (.pointer (some (ad q301 (0 + 0)))), some (.int .i64 a1.From), some (.pointer (some (ad q301 (0 + 1)))), some (.int .i64 a1.To), some (.pointer (some (ad q301 (0 + 2)))), some (.int .i64 a1.Most), some (.int .i64 a1.From), some (.int .i64 a1.To), some (.int .i64 a1.Most)]) (eff := []) (mask := [[]]) (keys := [[]]) (src := [[.base 3], [.op 0], [.base 3], [.op 2], [.base 3], [.op 4], [.op 1], [.op 3], [.op 5]]) (z := z) (ef := fun p g => ([[]] : List (List (Nat × Value))).getD p []) (hi := fun _ _ => I) (rs := fun p g => ([Bl q301 73 [(.int .i64 a1.From), (.int .i64 a1.To), (.int .i64 a1.Most)] :: r] : List (List Asn)).getD p []) [(0, 0), (1, 0), (2, 0), (3, 0), (4, 0), (5, 0), (6, 0), (7, 0), (8, 0)] [] [0, 1, 2, 3, 4, 5, 6, 7, 8] 0 mo hE () rfl H (by kernel_rfl) (by kernel_rfl) (fun p g => by cases p <;> rfl) ?_ ?_ (by kernel_rfl) (by kernel_rfl) ?_
  · exact ⟨by intro a w g hE H; exact Dr.is H rfl (Dr.run rfl (d_fieldAddr fld73_0 hE rfl)),
    by intro a w g hE H; exact Dr.is H rfl (Dr.run rfl (d_load sc3 hE rfl H 0 rfl rfl)),
    by intro a w g hE H; exact Dr.is H rfl (Dr.run rfl (d_fieldAddr fld73_1 hE rfl)),
    by intro a w g hE H; exact Dr.is H rfl (Dr.run rfl (d_load sc3 hE rfl H 0 rfl rfl)),
    by intro a w g hE H; exact Dr.is H rfl (Dr.run rfl (d_fieldAddr fld73_2 hE rfl)),
    by intro a w g hE H; exact Dr.is H rfl (Dr.run rfl (d_load sc3 hE rfl H 0 rfl rfl)),
    by intro a w g hE H; exact Dr.is H rfl (Dr.run rfl (d_assign hE rfl)),
    by intro a w g hE H; exact Dr.is H rfl (Dr.run rfl (d_assign hE rfl)),
    by intro a w g hE H; exact Dr.is H rfl (Dr.run rfl (d_assign hE rfl)),
    trivial⟩
  · trivial
  · intro a w g hE H
    have H : St z I w (Bl q301 73 [(.int .i64 a1.From), (.int .i64 a1.To), (.int .i64 a1.Most)] :: r) := H
    refine wp_seq ?_
    refine wp_seq ?_
    obtain ⟨s313, hj313, hm⟩ := bnd hm
    refine cut2 (fun a w => Env a 114 [(0, u0), (5, (.int .i64 a1.From)), (6, (.int .i64 a1.To)), (7, (.int .i64 a1.Most)), (42, (.bool s313))] ∧ St z I w (r)) ?_ ?_
    · have hm := hj313
      refine wp_region_lit ?_
      refine s1 hE rfl (d_move hE rfl) fun a hE => ?_
      refine s1 hE rfl (d_lenS Try.underlying55 hE rfl H (Rd.cons hr0)) fun a hE => ?_
      refine s1 hE rfl (d_gtr hE rfl rfl) fun a hE => ?_
      refine s1 hE rfl (d_move hE rfl) fun a hE => ?_
      by_cases c314 : 24 < (a0.length : Int)
      · rw [if_pos c314] at hm
        refine gP hE rfl rfl rfl (decide_eq_true c314) fun a hE => ?_
        refine gP hE rfl rfl rfl (decide_eq_true c314) fun a hE => ?_
        refine gP hE rfl rfl rfl (decide_eq_true c314) fun a hE => ?_
        refine s1 hE rfl (d_pT hE rfl (decide_eq_true c314) rfl) fun a hE => ?_
        refine s1 hE rfl (d_move hE rfl) fun a hE => ?_
        refine gP hE rfl rfl rfl rfl fun a hE => ?_
        refine gP hE rfl rfl rfl rfl fun a hE => ?_
        refine gP hE rfl rfl rfl rfl fun a hE => ?_
        refine gP hE rfl rfl rfl rfl fun a hE => ?_
        refine s1 hE rfl (d_pT hE rfl rfl rfl) fun a hE => ?_
        refine s1 hE rfl (d_move hE rfl) fun a hE => ?_
        refine gP hE rfl rfl rfl rfl fun a hE => ?_
        refine gP hE rfl rfl rfl rfl fun a hE => ?_
        refine s1 hE rfl (d_pT hE rfl rfl rfl) fun a hE => ?_
        refine s1 hE rfl (d_move hE rfl) fun a hE => ?_
        refine gP hE rfl rfl rfl rfl fun a hE => ?_
        refine gP hE rfl rfl rfl rfl fun a hE => ?_
        refine gP hE rfl rfl rfl rfl fun a hE => ?_
        refine s1 hE rfl (d_pT hE rfl rfl rfl) fun a hE => ?_
        refine wpList_nil ?_
        cases hm
        have H := St.del H 0
        exact ⟨hE.sub ⟨rfl, rfl, rfl, rfl, rfl, trivial⟩, H⟩
      · rw [if_neg c314] at hm
        refine gR hE rfl rfl (decide_eq_false c314) ?_
        refine s1 hE rfl (d_move hE rfl) fun a hE => ?_
        refine gR hE rfl rfl (decide_eq_false c314) ?_
        obtain ⟨x315, hc316, hm⟩ := bnd hm
        refine s2 hE rfl (d_call c29 hE rfl (f29_ok k a0 hc316 (Rd.cons hr0) H)) fun a v w hR hE => ?_
        obtain ⟨hv_, H⟩ := hR
        have hv_ := hv_.symm
        subst hv_
        refine gR hE rfl rfl (decide_eq_false c314) ?_
        refine s1 hE rfl (d_not hE rfl) fun a hE => ?_
        refine s1 hE rfl (d_pF hE rfl (decide_eq_false c314) rfl) fun a hE => ?_
        refine s1 hE rfl (d_move hE rfl) fun a hE => ?_
        by_cases c317 : x315 = true
        · rw [if_pos c317] at hm
          refine gR hE rfl rfl (not_f c317) ?_
          refine s1 hE rfl (d_move hE rfl) fun a hE => ?_
          refine gR hE rfl rfl (not_f c317) ?_
          obtain ⟨x318, hc319, hm⟩ := bnd hm
          refine s2 hE rfl (d_call c36 hE rfl (f36_ok k a0 hc319 (Rd.cons hr0) H)) fun a v w hR hE => ?_
          obtain ⟨v320, hv_, H⟩ := hR
          have hv_ := hv_.symm
          subst hv_
          refine gR hE rfl rfl (not_f c317) ?_
          refine s1 hE rfl (d_lenS Try.underlying51 hE rfl H (Rd.own 0 rfl)) fun a hE => ?_
          refine gR hE rfl rfl (not_f c317) ?_
          refine s1 hE rfl (d_gtr hE rfl rfl) fun a hE => ?_
          refine s1 hE rfl (d_pF hE rfl (not_f c317) rfl) fun a hE => ?_
          refine s1 hE rfl (d_move hE rfl) fun a hE => ?_
          by_cases c321 : 6 < (x318.length : Int)
          · rw [if_pos c321] at hm
            refine gP hE rfl rfl rfl (decide_eq_true c321) fun a hE => ?_
            refine gP hE rfl rfl rfl (decide_eq_true c321) fun a hE => ?_
            refine s1 hE rfl (d_pT hE rfl (decide_eq_true c321) rfl) fun a hE => ?_
            refine s1 hE rfl (d_move hE rfl) fun a hE => ?_
            refine gP hE rfl rfl rfl rfl fun a hE => ?_
            refine gP hE rfl rfl rfl rfl fun a hE => ?_
            refine gP hE rfl rfl rfl rfl fun a hE => ?_
            refine s1 hE rfl (d_pT hE rfl rfl rfl) fun a hE => ?_
            refine wpList_nil ?_
            cases hm
            have H := St.del H 0
            have H := St.del H 0
            exact ⟨hE.sub ⟨rfl, rfl, rfl, rfl, rfl, trivial⟩, H⟩
          · rw [if_neg c321] at hm
            refine gR hE rfl rfl (decide_eq_false c321) ?_
            refine s1 hE rfl (d_move hE rfl) fun a hE => ?_
            refine gR hE rfl rfl (decide_eq_false c321) ?_
            refine s1 hE rfl (d_lss hE rfl rfl) fun a hE => ?_
            refine s1 hE rfl (d_pF hE rfl (decide_eq_false c321) rfl) fun a hE => ?_
            refine s1 hE rfl (d_move hE rfl) fun a hE => ?_
            by_cases c322 : a1.Most < 1
            · rw [if_pos c322] at hm
              refine gP hE rfl rfl rfl (decide_eq_true c322) fun a hE => ?_
              refine gP hE rfl rfl rfl (decide_eq_true c322) fun a hE => ?_
              refine gP hE rfl rfl rfl (decide_eq_true c322) fun a hE => ?_
              refine s1 hE rfl (d_pT hE rfl (decide_eq_true c322) rfl) fun a hE => ?_
              refine wpList_nil ?_
              cases hm
              have H := St.del H 0
              have H := St.del H 0
              exact ⟨hE.sub ⟨rfl, rfl, rfl, rfl, rfl, trivial⟩, H⟩
            · rw [if_neg c322] at hm
              refine gR hE rfl rfl (decide_eq_false c322) ?_
              refine s1 hE rfl (d_move hE rfl) fun a hE => ?_
              refine gR hE rfl rfl (decide_eq_false c322) ?_
              refine s1 hE rfl (d_move hE rfl) fun a hE => ?_
              refine gR hE rfl rfl (decide_eq_false c322) ?_
              refine s1 hE rfl (d_eql hE rfl rfl) fun a hE => ?_
              refine s1 hE rfl (d_pF hE rfl (decide_eq_false c322) rfl) fun a hE => ?_
              refine wpList_nil ?_
              cases hm
              have H := St.del H 0
              have H := St.del H 0
              exact ⟨hE.sub ⟨rfl, rfl, rfl, rfl, rfl, trivial⟩, H⟩
        · rw [if_neg c317] at hm
          refine gP hE rfl rfl rfl (not_t (b_f c317)) fun a hE => ?_
          refine gP hE rfl rfl rfl (not_t (b_f c317)) fun a hE => ?_
          refine gP hE rfl rfl rfl (not_t (b_f c317)) fun a hE => ?_
          refine gP hE rfl rfl rfl (not_t (b_f c317)) fun a hE => ?_
          refine s1 hE rfl (d_pT hE rfl (not_t (b_f c317)) rfl) fun a hE => ?_
          refine s1 hE rfl (d_move hE rfl) fun a hE => ?_
          refine gP hE rfl rfl rfl rfl fun a hE => ?_
          refine gP hE rfl rfl rfl rfl fun a hE => ?_
          refine s1 hE rfl (d_pT hE rfl rfl rfl) fun a hE => ?_
          refine s1 hE rfl (d_move hE rfl) fun a hE => ?_
          refine gP hE rfl rfl rfl rfl fun a hE => ?_
          refine gP hE rfl rfl rfl rfl fun a hE => ?_
          refine gP hE rfl rfl rfl rfl fun a hE => ?_
          refine s1 hE rfl (d_pT hE rfl rfl rfl) fun a hE => ?_
          refine wpList_nil ?_
          cases hm
          have H := St.del H 0
          exact ⟨hE.sub ⟨rfl, rfl, rfl, rfl, rfl, trivial⟩, H⟩
    · rintro a w ⟨hE, H⟩
      by_cases c328 : s313 = true
      · rw [if_pos c328] at hm
        refine cT hE rfl c328 ?_
        refine wp_seq ?_
        refine wp_region_lit ?_
        obtain ⟨x331, hc332, hm⟩ := bnd hm
        refine s2 hE rfl (d_call c40 hE rfl (f40_ok k  hc332 hz H)) fun a v w hR hE => ?_
        obtain ⟨hv_, H⟩ := hR
        have hv_ := hv_.symm
        subst hv_
        refine s1 hE rfl (d_assign hE rfl) fun a hE => ?_
        refine wpList_nil ?_
        refine wp_ret ?_
        cases hm
        exact ret1 rfl hE rfl ⟨_, rfl, rfl, H⟩
      · rw [if_neg c328] at hm
        refine cF hE rfl (b_f c328) ?_
        refine wp_skip ?_
        refine wp_seq ?_
        refine wp_region_lit ?_
        refine s1 hE rfl (d_move hE rfl) fun a hE => ?_
        refine s1 hE rfl (d_move hE rfl) fun a hE => ?_
        refine s1 hE rfl (d_move hE rfl) fun a hE => ?_
        refine s1 hE rfl (d_move hE rfl) fun a hE => ?_
        obtain ⟨x336, hc337, hm⟩ := bnd hm
        refine s2 hE rfl (d_call c41 hE rfl (f41_ok k a0 a1.From a1.To a1.Most hc337 hr0 hz H)) fun a v w hR hE => ?_
        obtain ⟨v338, hv_, H⟩ := hR
        have hv_ := hv_.symm
        subst hv_
        refine s1 hE rfl (d_assign hE rfl) fun a hE => ?_
        refine wpList_nil ?_
        refine wp_seq ?_
        refine wp_region_lit ?_
        refine s1 hE rfl (d_move hE rfl) fun a hE => ?_
        refine s1 hE rfl (d_move hE rfl) fun a hE => ?_
        refine s1 hE rfl (d_move hE rfl) fun a hE => ?_
        obtain ⟨x341, hc342, hm⟩ := bnd hm
        refine s2 hE rfl (d_call c60 hE rfl (f60_ok k a0 a1.From a1.To hc342 (Rd.cons hr0) hz H)) fun a v w hR hE => ?_
        obtain ⟨hv_, H⟩ := hR
        have hv_ := hv_.symm
        subst hv_
        refine s1 hE rfl (d_move hE rfl) fun a hE => ?_
        refine s1 hE rfl (d_extract hE rfl rfl) fun a hE => ?_
        refine s1 hE rfl (d_extract hE rfl rfl) fun a hE => ?_
        refine s1 hE rfl (d_assign hE rfl) fun a hE => ?_
        refine s1 hE rfl (d_assign hE rfl) fun a hE => ?_
        refine wpList_nil ?_
        refine wp_seq ?_
        refine wp_seq ?_
        obtain ⟨s349, hj349, hm⟩ := bnd hm
        refine cut2 (fun a w => Env a 114 [(0, u0), (8, v338), (71, (.bool s349))] ∧ St z I w (OwnSl c_api_Path v338 x336 :: r)) ?_ ?_
        · have hm := hj349
          refine wp_region_lit ?_
          refine s1 hE rfl (d_move hE rfl) fun a hE => ?_
          refine s1 hE rfl (d_move hE rfl) fun a hE => ?_
          refine s1 hE rfl (d_lenS Try.underlying74 hE rfl H (Rd.own 0 rfl)) fun a hE => ?_
          refine s1 hE rfl (d_gtr hE rfl rfl) fun a hE => ?_
          refine s1 hE rfl (d_neB Try.underlying4 hE rfl rfl) fun a hE => ?_
          refine s1 hE rfl (d_move hE rfl) fun a hE => ?_
          by_cases c350 : (x341.2 == decide (0 < (x336.length : Int))) = true
          · rw [if_pos c350] at hm
            refine gR hE rfl rfl (not_f c350) ?_
            refine s1 hE rfl (d_move hE rfl) fun a hE => ?_
            refine gR hE rfl rfl (not_f c350) ?_
            refine s1 hE rfl (d_move hE rfl) fun a hE => ?_
            by_cases c351 : x341.2 = true
            · rw [if_pos c351] at hm
              refine gR hE rfl rfl c351 ?_
              refine s1 hE rfl (d_move hE rfl) fun a hE => ?_
              refine gR hE rfl rfl c351 ?_
              obtain ⟨x352, hx353, hm⟩ := bnd hm
              refine s1 hE rfl (d_indexS sl74 hE rfl rfl H (Rd.own 0 rfl) hx353) fun a hE => ?_
              refine gR hE rfl rfl c351 ?_
              refine s1 hE rfl (d_fieldAddr fld102_1 hE rfl) fun a hE => ?_
              refine gR hE rfl rfl c351 ?_
              refine s1 hE rfl (d_loadSf (j := 1) sc61 hE rfl H (Rd.own 0 rfl) hx353 (fun _ _ e => by obtain ⟨_, rfl, _⟩ := e; rfl)) fun a hE => ?_
              refine gR hE rfl rfl c351 ?_
              refine s1 hE rfl (d_move hE rfl) fun a hE => ?_
              refine gR hE rfl rfl c351 ?_
              refine s1 hE rfl (d_neq hE rfl rfl) fun a hE => ?_
              refine gR hE rfl rfl (not_f c350) ?_
              refine s1 hE rfl (d_pT hE rfl c351 rfl) fun a hE => ?_
              refine s1 hE rfl (d_pF hE rfl (not_f c350) rfl) fun a hE => ?_
              refine wpList_nil ?_
              cases hm
              exact ⟨hE.sub ⟨rfl, rfl, rfl, trivial⟩, H⟩
            · rw [if_neg c351] at hm
              refine gP hE rfl rfl rfl (b_f c351) fun a hE => ?_
              refine gP hE rfl rfl rfl (b_f c351) fun a hE => ?_
              refine gP hE rfl rfl rfl (b_f c351) fun a hE => ?_
              refine gP hE rfl rfl rfl (b_f c351) fun a hE => ?_
              refine gP hE rfl rfl rfl (b_f c351) fun a hE => ?_
              refine gP hE rfl rfl rfl (b_f c351) fun a hE => ?_
              refine gR hE rfl rfl (not_f c350) ?_
              refine s1 hE rfl (d_pF hE rfl (b_f c351) rfl) fun a hE => ?_
              refine s1 hE rfl (d_pF hE rfl (not_f c350) rfl) fun a hE => ?_
              refine wpList_nil ?_
              cases hm
              exact ⟨hE.sub ⟨rfl, rfl, rfl, trivial⟩, H⟩
          · rw [if_neg c350] at hm
            refine gP hE rfl rfl rfl (not_t (b_f c350)) fun a hE => ?_
            refine gP hE rfl rfl rfl (not_t (b_f c350)) fun a hE => ?_
            refine sk_undef hE rfl rfl rfl fun a hE => ?_
            refine sk_undef hE rfl rfl rfl fun a hE => ?_
            refine sk_undef hE rfl rfl rfl fun a hE => ?_
            refine sk_undef hE rfl rfl rfl fun a hE => ?_
            refine sk_undef hE rfl rfl rfl fun a hE => ?_
            refine sk_undef hE rfl rfl rfl fun a hE => ?_
            refine gP hE rfl rfl rfl (not_t (b_f c350)) fun a hE => ?_
            refine s1 hE rfl (d_pT hE rfl (not_t (b_f c350)) rfl) fun a hE => ?_
            refine wpList_nil ?_
            cases hm
            exact ⟨hE.sub ⟨rfl, rfl, rfl, trivial⟩, H⟩
        · rintro a w ⟨hE, H⟩
          by_cases c355 : s349 = true
          · rw [if_pos c355] at hm
            refine cT hE rfl c355 ?_
            refine wp_seq ?_
            refine wp_region_lit ?_
            refine s1 hE rfl (d_assign hE rfl) fun a hE => ?_
            refine wpList_nil ?_
            refine wp_ret ?_
            cases hm
            have H := St.del H 0
            exact ret1 rfl hE rfl ⟨_, rfl, rfl, H⟩
          · rw [if_neg c355] at hm
            refine cF hE rfl (b_f c355) ?_
            refine wp_skip ?_
            refine wp_seq ?_
            refine wp_seq ?_
            refine wp_region_lit ?_
            refine s1 hE rfl (d_assign hE rfl) fun a hE => ?_
            refine wpList_nil ?_
            obtain ⟨s481, hj481, hq481⟩ := bnd hm
            refine cut2 (fun a w => ∃ s_ : Unit, s481 = .go s_ ∧ Env a 114 [] ∧ St z I w (r)) ?_ ?_
            · refine wp_block ?_
              refine loopI (fun k a w => ∃ y418 : Int, m11_l0 a0 x336 k y418 = some s481 ∧ Env a 114 [(0, u0), (8, v338), (11, (.int .i64 y418))] ∧ St z I w (OwnSl c_api_Path v338 x336 :: r)) ?_ k _ _ ?_
              · rintro k a w ⟨y418, hm, hE, H⟩
                cases k with
                | zero => rw [m11_l0] at hm; cases hm
                | succ k =>
                  rw [m11_l0] at hm
                  refine wp_seq ?_
                  refine wp_seq ?_
                  refine wp_region_lit ?_
                  refine s1 hE rfl (d_move hE rfl) fun a hE => ?_
                  refine s1 hE rfl (d_move hE rfl) fun a hE => ?_
                  refine s1 hE rfl (d_lenS Try.underlying74 hE rfl H (Rd.own 0 rfl)) fun a hE => ?_
                  refine s1 hE rfl (d_lss hE rfl rfl) fun a hE => ?_
                  refine wpList_nil ?_
                  by_cases c483 : y418 < (x336.length : Int)
                  · rw [if_pos c483] at hm
                    refine cT hE rfl (decide_eq_true c483) ?_
                    refine wp_skip ?_
                    refine wp_seq ?_
                    refine wp_block ?_
                    refine wp_seq ?_
                    refine wp_region_lit ?_
                    refine s1 hE rfl (d_move hE rfl) fun a hE => ?_
                    refine s1 hE rfl (d_move hE rfl) fun a hE => ?_
                    refine s1 hE rfl (d_move hE rfl) fun a hE => ?_
                    obtain ⟨x519, hx520, hm⟩ := bnd hm
                    refine s1 hE rfl (d_indexS sl74 hE rfl rfl H (Rd.own 0 rfl) hx520) fun a hE => ?_
                    refine s1 hE rfl (d_fieldAddr fld102_0 hE rfl) fun a hE => ?_
                    refine s2 hE rfl (d_loadSfR (c := c_api_Path) (j := 0) (Q := fun V => ImR (cInt .i64) V x519.Nodes) sc51 hE rfl H (Rd.own 0 rfl) hx520 (fun _ _ e => by obtain ⟨V0, rfl, h0⟩ := e; exact ⟨_, rfl, h0⟩)) fun a v w hR hE => ?_
                    obtain ⟨v521, rfl⟩ : ∃ x, x = v := ⟨v, rfl⟩
                    have H : St z I w (ImR (cInt .i64) v521 x519.Nodes :: OwnSl c_api_Path v338 x336 :: r) := hR
                    obtain ⟨x522, hc523, hm⟩ := bnd hm
                    refine s2 hE rfl (d_call c61 hE rfl (f61_ok k a0 x519.Nodes hc523 (Rd.cons (Rd.cons hr0)) (Rd.im 0 rfl) hz H)) fun a v w hR hE => ?_
                    obtain ⟨hv_, H⟩ := hR
                    have hv_ := hv_.symm
                    subst hv_
                    refine s1 hE rfl (d_move hE rfl) fun a hE => ?_
                    refine s1 hE rfl (d_extract hE rfl rfl) fun a hE => ?_
                    refine s1 hE rfl (d_extract hE rfl rfl) fun a hE => ?_
                    refine s1 hE rfl (d_assign hE rfl) fun a hE => ?_
                    refine s1 hE rfl (d_assign hE rfl) fun a hE => ?_
                    refine wpList_nil ?_
                    refine wp_seq ?_
                    obtain ⟨s534, hj534, hm⟩ := bnd hm
                    refine cut2 (fun a w => Env a 114 [(0, u0), (8, v338), (11, (.int .i64 y418)), (112, (.bool s534))] ∧ St z I w (OwnSl c_api_Path v338 x336 :: r)) ?_ ?_
                    · have hm := hj534
                      refine wp_region_lit ?_
                      refine s1 hE rfl (d_move hE rfl) fun a hE => ?_
                      refine s1 hE rfl (d_not hE rfl) fun a hE => ?_
                      refine s1 hE rfl (d_move hE rfl) fun a hE => ?_
                      by_cases c535 : x522.2 = true
                      · rw [if_pos c535] at hm
                        refine gR hE rfl rfl (not_f c535) ?_
                        refine s1 hE rfl (d_move hE rfl) fun a hE => ?_
                        refine gR hE rfl rfl (not_f c535) ?_
                        refine s1 hE rfl (d_move hE rfl) fun a hE => ?_
                        refine gR hE rfl rfl (not_f c535) ?_
                        refine s1 hE rfl (d_move hE rfl) fun a hE => ?_
                        refine gR hE rfl rfl (not_f c535) ?_
                        obtain ⟨x536, hx537, hm⟩ := bnd hm
                        refine s1 hE rfl (d_indexS sl74 hE rfl rfl H (Rd.own 1 rfl) hx537) fun a hE => ?_
                        refine gR hE rfl rfl (not_f c535) ?_
                        refine s1 hE rfl (d_fieldAddr fld102_1 hE rfl) fun a hE => ?_
                        refine gR hE rfl rfl (not_f c535) ?_
                        refine s1 hE rfl (d_loadSf (j := 1) sc61 hE rfl H (Rd.own 1 rfl) hx537 (fun _ _ e => by obtain ⟨_, rfl, _⟩ := e; rfl)) fun a hE => ?_
                        refine gR hE rfl rfl (not_f c535) ?_
                        refine s1 hE rfl (d_neq hE rfl rfl) fun a hE => ?_
                        refine s1 hE rfl (d_pF hE rfl (not_f c535) rfl) fun a hE => ?_
                        refine s1 hE rfl (d_move hE rfl) fun a hE => ?_
                        by_cases c538 : x522.1 = x536.Cost
                        · rw [if_pos c538] at hm
                          refine gR hE rfl rfl (not_f (decide_eq_true c538)) ?_
                          refine s1 hE rfl (d_move hE rfl) fun a hE => ?_
                          refine gR hE rfl rfl (not_f (decide_eq_true c538)) ?_
                          refine s1 hE rfl (d_gtr hE rfl rfl) fun a hE => ?_
                          refine gR hE rfl rfl (not_f (decide_eq_true c538)) ?_
                          refine s1 hE rfl (d_move hE rfl) fun a hE => ?_
                          by_cases c539 : 0 < y418
                          · rw [if_pos c539] at hm
                            refine gR hE rfl rfl (decide_eq_true c539) ?_
                            refine s1 hE rfl (d_move hE rfl) fun a hE => ?_
                            refine gR hE rfl rfl (decide_eq_true c539) ?_
                            refine s1 hE rfl (d_move hE rfl) fun a hE => ?_
                            refine gR hE rfl rfl (decide_eq_true c539) ?_
                            refine s1 hE rfl (d_sub hE rfl rfl) fun a hE => ?_
                            refine gR hE rfl rfl (decide_eq_true c539) ?_
                            obtain ⟨x540, hx541, hm⟩ := bnd hm
                            refine s1 hE rfl (d_indexS sl74 hE rfl rfl H (Rd.own 1 rfl) hx541) fun a hE => ?_
                            refine gR hE rfl rfl (decide_eq_true c539) ?_
                            refine s1 hE rfl (d_fieldAddr fld102_1 hE rfl) fun a hE => ?_
                            refine gR hE rfl rfl (decide_eq_true c539) ?_
                            refine s1 hE rfl (d_loadSf (j := 1) sc61 hE rfl H (Rd.own 1 rfl) hx541 (fun _ _ e => by obtain ⟨_, rfl, _⟩ := e; rfl)) fun a hE => ?_
                            refine gR hE rfl rfl (decide_eq_true c539) ?_
                            refine s1 hE rfl (d_move hE rfl) fun a hE => ?_
                            refine gR hE rfl rfl (decide_eq_true c539) ?_
                            refine s1 hE rfl (d_gtr hE rfl rfl) fun a hE => ?_
                            refine gR hE rfl rfl (not_f (decide_eq_true c538)) ?_
                            refine s1 hE rfl (d_pT hE rfl (decide_eq_true c539) rfl) fun a hE => ?_
                            refine s1 hE rfl (d_pF hE rfl (not_f (decide_eq_true c538)) rfl) fun a hE => ?_
                            refine wpList_nil ?_
                            cases hm
                            have H := St.get H 1 rfl
                            have H := St.del H 1
                            exact ⟨hE.sub ⟨rfl, rfl, rfl, rfl, trivial⟩, H⟩
                          · rw [if_neg c539] at hm
                            refine gP hE rfl rfl rfl (decide_eq_false c539) fun a hE => ?_
                            refine gP hE rfl rfl rfl (decide_eq_false c539) fun a hE => ?_
                            refine gP hE rfl rfl rfl (decide_eq_false c539) fun a hE => ?_
                            refine gP hE rfl rfl rfl (decide_eq_false c539) fun a hE => ?_
                            refine gP hE rfl rfl rfl (decide_eq_false c539) fun a hE => ?_
                            refine gP hE rfl rfl rfl (decide_eq_false c539) fun a hE => ?_
                            refine gP hE rfl rfl rfl (decide_eq_false c539) fun a hE => ?_
                            refine gP hE rfl rfl rfl (decide_eq_false c539) fun a hE => ?_
                            refine gR hE rfl rfl (not_f (decide_eq_true c538)) ?_
                            refine s1 hE rfl (d_pF hE rfl (decide_eq_false c539) rfl) fun a hE => ?_
                            refine s1 hE rfl (d_pF hE rfl (not_f (decide_eq_true c538)) rfl) fun a hE => ?_
                            refine wpList_nil ?_
                            cases hm
                            have H := St.get H 1 rfl
                            have H := St.del H 1
                            exact ⟨hE.sub ⟨rfl, rfl, rfl, rfl, trivial⟩, H⟩
                        · rw [if_neg c538] at hm
                          refine gP hE rfl rfl rfl (not_t (decide_eq_false c538)) fun a hE => ?_
                          refine gP hE rfl rfl rfl (not_t (decide_eq_false c538)) fun a hE => ?_
                          refine gP hE rfl rfl rfl (not_t (decide_eq_false c538)) fun a hE => ?_
                          refine sk_undef hE rfl rfl rfl fun a hE => ?_
                          refine sk_undef hE rfl rfl rfl fun a hE => ?_
                          refine sk_undef hE rfl rfl rfl fun a hE => ?_
                          refine sk_undef hE rfl rfl rfl fun a hE => ?_
                          refine sk_undef hE rfl rfl rfl fun a hE => ?_
                          refine sk_undef hE rfl rfl rfl fun a hE => ?_
                          refine sk_undef hE rfl rfl rfl fun a hE => ?_
                          refine sk_undef hE rfl rfl rfl fun a hE => ?_
                          refine gP hE rfl rfl rfl (not_t (decide_eq_false c538)) fun a hE => ?_
                          refine s1 hE rfl (d_pT hE rfl (not_t (decide_eq_false c538)) rfl) fun a hE => ?_
                          refine wpList_nil ?_
                          cases hm
                          have H := St.get H 1 rfl
                          have H := St.del H 1
                          exact ⟨hE.sub ⟨rfl, rfl, rfl, rfl, trivial⟩, H⟩
                      · rw [if_neg c535] at hm
                        refine gP hE rfl rfl rfl (not_t (b_f c535)) fun a hE => ?_
                        refine gP hE rfl rfl rfl (not_t (b_f c535)) fun a hE => ?_
                        refine gP hE rfl rfl rfl (not_t (b_f c535)) fun a hE => ?_
                        refine gP hE rfl rfl rfl (not_t (b_f c535)) fun a hE => ?_
                        refine gP hE rfl rfl rfl (not_t (b_f c535)) fun a hE => ?_
                        refine gP hE rfl rfl rfl (not_t (b_f c535)) fun a hE => ?_
                        refine gP hE rfl rfl rfl (not_t (b_f c535)) fun a hE => ?_
                        refine s1 hE rfl (d_pT hE rfl (not_t (b_f c535)) rfl) fun a hE => ?_
                        refine s1 hE rfl (d_move hE rfl) fun a hE => ?_
                        refine gP hE rfl rfl rfl rfl fun a hE => ?_
                        refine gP hE rfl rfl rfl rfl fun a hE => ?_
                        refine gP hE rfl rfl rfl rfl fun a hE => ?_
                        refine sk_undef hE rfl rfl rfl fun a hE => ?_
                        refine sk_undef hE rfl rfl rfl fun a hE => ?_
                        refine sk_undef hE rfl rfl rfl fun a hE => ?_
                        refine sk_undef hE rfl rfl rfl fun a hE => ?_
                        refine sk_undef hE rfl rfl rfl fun a hE => ?_
                        refine sk_undef hE rfl rfl rfl fun a hE => ?_
                        refine sk_undef hE rfl rfl rfl fun a hE => ?_
                        refine sk_undef hE rfl rfl rfl fun a hE => ?_
                        refine gP hE rfl rfl rfl rfl fun a hE => ?_
                        refine s1 hE rfl (d_pT hE rfl rfl rfl) fun a hE => ?_
                        refine wpList_nil ?_
                        cases hm
                        have H := St.get H 1 rfl
                        have H := St.del H 1
                        exact ⟨hE.sub ⟨rfl, rfl, rfl, rfl, trivial⟩, H⟩
                    · rintro a w ⟨hE, H⟩
                      by_cases c543 : s534 = true
                      · rw [if_pos c543] at hm
                        refine cT hE rfl c543 ?_
                        refine wp_seq ?_
                        refine wp_region_lit ?_
                        refine s1 hE rfl (d_assign hE rfl) fun a hE => ?_
                        refine wpList_nil ?_
                        refine wp_ret ?_
                        cases hm
                        have hm := hq481
                        simp only [Out.on] at hm
                        cases hm
                        have H := St.del H 0
                        exact ret1 rfl hE rfl ⟨_, rfl, rfl, H⟩
                      · rw [if_neg c543] at hm
                        refine cF hE rfl (b_f c543) ?_
                        refine wp_skip ?_
                        refine wp_region_lit ?_
                        refine s1 hE rfl (d_move hE rfl) fun a hE => ?_
                        refine s1 hE rfl (d_add hE rfl rfl) fun a hE => ?_
                        refine s1 hE rfl (d_assign hE rfl) fun a hE => ?_
                        refine wpList_nil ?_
                        exact ⟨k, Nat.lt_succ_self k, IntKind.i64.wrap (y418 + 1), hm, hE.sub ⟨rfl, rfl, rfl, trivial⟩, H⟩
                  · rw [if_neg c483] at hm
                    refine cF hE rfl (decide_eq_false c483) ?_
                    refine wp_exit ?_
                    cases hm
                    have H := St.del H 0
                    exact ⟨_, rfl, hE.sub trivial, H⟩
              · exact ⟨0, hj481, hE.sub ⟨rfl, rfl, rfl, trivial⟩, H⟩
            · rintro a w ⟨s481, rfl, hE, H⟩
              have hm := hq481
              simp only [Out.on] at hm
              refine wp_seq ?_
              refine wp_region_lit ?_
              obtain ⟨x546, hc547, hm⟩ := bnd hm
              refine s2 hE rfl (d_call c40 hE rfl (f40_ok k  hc547 hz H)) fun a v w hR hE => ?_
              obtain ⟨hv_, H⟩ := hR
              have hv_ := hv_.symm
              subst hv_
              refine s1 hE rfl (d_assign hE rfl) fun a hE => ?_
              refine wpList_nil ?_
              refine wp_ret ?_
              cases hm
              exact ret1 rfl hE rfl ⟨_, rfl, rfl, H⟩
end Go.Proofs.Ytbielnhpfbhkgaa
