/- Functions and what their calls do, by program (gen.py). -/
import Derived.Test.YtbielnhpfbhkgaaE0
import Derived.Test.YtbielnhpfbhkgaaSlH
set_option linter.unusedVariables false
set_option linter.unusedSimpArgs false
namespace Go.Proofs.Ytbielnhpfbhkgaa
open Go Go.RowKit

theorem al140 : ∀ w : World, (Instr.alloc 140 true (.tuple #[])).run Try.prog w = .ok (.pointer (some (ad w.heap.size 0))) (w.alloc (.cells (List.toArray (bigc (fun _ => 0) (fun _ => false))) 140)) := fun w => by kernel_rfl
theorem bld140 : ∀ w : World, (Instr.build 140 (List.toArray [])).run Try.prog w = .ok (bigv (fun _ => 0) (fun _ => false)) w := by
  intro w
  kernel_rfl
theorem sz140 : ∀ w : World, (sizeOf 140).run Try.prog w = .ok 130 w := fun w => by kernel_rfl
theorem ag140 : Aggr Try.prog 140 130 := fun w => ⟨by kernel_rfl, by kernel_rfl⟩
theorem fld140_1 : Fld Try.prog 140 1 65 := fun p w => by kernel_rfl
theorem sz4 : ∀ w : World, (sizeOf 4).run Try.prog w = .ok 1 w := fun w => by kernel_rfl
theorem fld140_0 : Fld Try.prog 140 0 0 := fun p w => by kernel_rfl
theorem sz61 : ∀ w : World, (sizeOf 61).run Try.prog w = .ok 1 w := fun w => by kernel_rfl
theorem c39 : Callable Try.prog 39 := ⟨Try.f39, Try.func39, by kernel_rfl, by kernel_rfl⟩
theorem sc4 : Scal Try.prog 4 := fun w => ⟨by kernel_rfl, by kernel_rfl⟩
def m90_l1 (a0 : List S_api_Arc) : Nat → (Nat → Int) → (Nat → Bool) → Bool → Int → Option (Bool × (Nat → Int) × (Nat → Bool))
  | 0, _, _, _, _ => none
  | k + 1, fn2930, fn2931, b2932, y2933 => if y2933 < (a0.length : Int) then (Option.bind (rdx a0 y2933) fun x3062 => if 0 ≤ x3062.From ∧ x3062.From < 65 then (Option.bind (m39 (fn2930 (x3062.From).toNat) (IntKind.u64.wrap x3062.Cost)) fun x3069 => Option.bind (α := Bool) (if 0 ≤ x3062.From ∧ x3062.From < 65 then (if (fn2931 (x3062.From).toNat) = true then (if 0 ≤ x3062.To ∧ x3062.To < 65 then (if (fn2931 (x3062.To).toNat) = true then (if 0 ≤ x3062.To ∧ x3062.To < 65 then (some (decide (x3069 < (fn2930 (x3062.To).toNat)))) else none) else (some true)) else none) else (some false)) else none) fun s3078 => Option.bind (α := (Nat → Int) × (Nat → Bool) × Bool) (if s3078 = true then (if 0 ≤ x3062.To ∧ x3062.To < 65 then (if 0 ≤ x3062.To ∧ x3062.To < 65 then (some ((upd fn2930 x3062.To x3069), (upd fn2931 x3062.To true), true)) else none) else none) else (some (fn2930, fn2931, b2932))) fun s3092 => m90_l1 a0 k s3092.1 s3092.2.1 s3092.2.2 (IntKind.i64.wrap (y2933 + 1))) else none) else (some (b2932, fn2930, fn2931))
def m90_l0 (a0 : List S_api_Arc) : Nat → (Nat → Int) → (Nat → Bool) → Int → Option (Out ((Nat → Int) × (Nat → Bool)) ((Nat → Int) × (Nat → Bool)))
  | 0, _, _, _ => none
  | k + 1, fn2090, fn2091, y2092 => if y2092 < 65 then (Option.bind (m90_l1 a0 k fn2090 fn2091 false 0) fun s3017 => if s3017.1 = true then (m90_l0 a0 k s3017.2.1 s3017.2.2 (IntKind.i64.wrap (y2092 + 1))) else (some (.ret s3017.2))) else (some (.go (fn2090, fn2091)))
def m90 (k : Nat) (a0 : List S_api_Arc) (a1 : Int) : Option ((Nat → Int) × (Nat → Bool)) := Option.bind (α := Bool) (if a1 < 1 then (some true) else (some (decide (64 < a1)))) fun s1582 => if s1582 = true then (some ((fun _ => 0), (fun _ => false))) else (if 0 ≤ a1 ∧ a1 < 65 then (Option.bind (m90_l0 a0 k (fun _ => 0) (upd (fun _ => false) a1 true) 0) fun s2597 => s2597.on (fun q_ => some q_) fun s2597 => some s2597) else none)
set_option maxRecDepth 20000 in
set_option maxHeartbeats 4000000 in
theorem f90_ok (k : Nat) {u0 : Value} (a0 : List S_api_Arc) (a1 : Int) {res : ((Nat → Int) × (Nat → Bool))} (hm : m90 k a0 a1 = some res) {z w : World} {I : Hp} {r : List Asn} (hr0 : Rd c_api_Arc I r u0 a0) (H : St z I w (r)) :
    Calls Try.prog 90 #[u0, (.int .i64 a1)] w (Rt fun v w' => v = (bigv res.1 res.2) ∧ St z I w' (r)) := by
  unfold m90 at hm
  refine enter (args := [u0, (.int .i64 a1)]) Try.func90 rfl Try.ntmps90 rfl fun a hE => ?_
  refine wp_seq ?_
  refine wp_region_lit ?_
  refine s2 hE rfl (d_alloc al140 H) fun a v w hR hE => ?_
  obtain ⟨q1577, rfl, H⟩ := hR
  refine wpList_nil ?_
  refine wp_seq ?_
  refine wp_region_lit ?_
  refine s1 hE rfl (d_build hE rfl bld140) fun a hE => ?_
  refine s2 hE rfl (d_alloc al140 H) fun a v w hR hE => ?_
  obtain ⟨q1579, rfl, H⟩ := hR
  refine s3 (d_storeB sz140 rfl hE rfl rfl H) fun v w hR => ?_
  have H : St z I w (Bl q1579 140 (bigc (fun _ => 0) (fun _ => false)) :: Bl q1577 140 (bigc (fun _ => 0) (fun _ => false)) :: r) := hR
  refine wpList_nil ?_
  refine wp_seq ?_
  refine wp_seq ?_
  obtain ⟨s1582, hj1582, hm⟩ := bnd hm
  refine cut2 (fun a w => Env a 80 [(0, u0), (1, (.int .i64 a1)), (4, (.pointer (some (ad q1577 0)))), (5, (.pointer (some (ad q1579 0)))), (17, (.bool s1582))] ∧ St z I w (Bl q1577 140 (bigc (fun _ => 0) (fun _ => false)) :: Bl q1579 140 (bigc (fun _ => 0) (fun _ => false)) :: r)) ?_ ?_
  · have hm := hj1582
    refine wp_region_lit ?_
    refine s1 hE rfl (d_move hE rfl) fun a hE => ?_
    refine s1 hE rfl (d_lss hE rfl rfl) fun a hE => ?_
    refine s1 hE rfl (d_move hE rfl) fun a hE => ?_
    by_cases c1583 : a1 < 1
    · rw [if_pos c1583] at hm
      refine gP hE rfl rfl rfl (decide_eq_true c1583) fun a hE => ?_
      refine gP hE rfl rfl rfl (decide_eq_true c1583) fun a hE => ?_
      refine s1 hE rfl (d_pT hE rfl (decide_eq_true c1583) rfl) fun a hE => ?_
      refine wpList_nil ?_
      cases hm
      have H := St.get H 1 rfl
      exact ⟨hE.sub ⟨rfl, rfl, rfl, rfl, rfl, trivial⟩, H⟩
    · rw [if_neg c1583] at hm
      refine gR hE rfl rfl (decide_eq_false c1583) ?_
      refine s1 hE rfl (d_move hE rfl) fun a hE => ?_
      refine gR hE rfl rfl (decide_eq_false c1583) ?_
      refine s1 hE rfl (d_gtr hE rfl rfl) fun a hE => ?_
      refine s1 hE rfl (d_pF hE rfl (decide_eq_false c1583) rfl) fun a hE => ?_
      refine wpList_nil ?_
      cases hm
      have H := St.get H 1 rfl
      exact ⟨hE.sub ⟨rfl, rfl, rfl, rfl, rfl, trivial⟩, H⟩
  · rintro a w ⟨hE, H⟩
    by_cases c1585 : s1582 = true
    · rw [if_pos c1585] at hm
      refine cT hE rfl c1585 ?_
      refine wp_seq ?_
      refine wp_region_lit ?_
      refine s1 hE rfl (d_loadB ag140 hE rfl H 1 rfl) fun a hE => ?_
      refine s3 (d_storeB sz140 rfl hE rfl rfl H) fun v w hR => ?_
      have H : St z I w (Bl q1577 140 (bigc (fun _ => 0) (fun _ => false)) :: Bl q1579 140 (bigc (fun _ => 0) (fun _ => false)) :: r) := hR
      refine wpList_nil ?_
      refine wp_ret ?_
      have hb0 := H.ob 0 rfl
      cases hm
      have H := St.del H 0
      have H := St.del H 0
      exact retC1 rfl hE rfl hb0 (aggB ag140) ⟨_, rfl, rfl, H⟩
    · rw [if_neg c1585] at hm
      refine cF hE rfl (b_f c1585) ?_
      refine wp_skip ?_
      refine wp_seq ?_
      refine wp_region_lit ?_
      refine s1 hE rfl (d_move hE rfl) fun a hE => ?_
      refine s1 hE rfl (d_fieldAddr fld140_1 hE rfl) fun a hE => ?_
      by_cases c1587 : 0 ≤ a1 ∧ a1 < 65
      · rw [if_pos c1587] at hm
        refine s1 hE rfl (d_indexB Try.underlying138 sz4 hE rfl rfl c1587) fun a hE => ?_
        have H := St.get H 1 rfl
        refine s3 (d_storeBf sz4 hE rfl rfl c1587 H) fun v w hR => ?_
        have H : St z I w (Bl q1579 140 (bigc (fun _ => 0) (upd (fun _ => false) a1 true)) :: Bl q1577 140 (bigc (fun _ => 0) (fun _ => false)) :: r) := hR
        refine wpList_nil ?_
        refine wp_seq ?_
        refine wp_seq ?_
        refine wp_region_lit ?_
        refine s1 hE rfl (d_assign hE rfl) fun a hE => ?_
        refine wpList_nil ?_
        obtain ⟨s2597, hj2597, hq2597⟩ := bnd hm
        refine cut2 (fun a w => ∃ s_ : (Nat → Int) × (Nat → Bool), s2597 = .go s_ ∧ Env a 80 [(4, (.pointer (some (ad q1577 0)))), (5, (.pointer (some (ad q1579 0))))] ∧ St z I w (Bl q1577 140 (bigc (fun _ => 0) (fun _ => false)) :: Bl q1579 140 (bigc s_.1 s_.2) :: r)) ?_ ?_
        · refine wp_block ?_
          refine loopI (fun k a w => ∃ fn2090 : Nat → Int, ∃ fn2091 : Nat → Bool, ∃ y2092 : Int, m90_l0 a0 k fn2090 fn2091 y2092 = some s2597 ∧ Env a 80 [(0, u0), (4, (.pointer (some (ad q1577 0)))), (5, (.pointer (some (ad q1579 0)))), (6, (.int .i64 y2092))] ∧ St z I w (Bl q1577 140 (bigc (fun _ => 0) (fun _ => false)) :: Bl q1579 140 (bigc fn2090 fn2091) :: r)) ?_ k _ _ ?_
          · rintro k a w ⟨fn2090, fn2091, y2092, hm, hE, H⟩
            cases k with
            | zero => rw [m90_l0] at hm; cases hm
            | succ k =>
              rw [m90_l0] at hm
              refine wp_seq ?_
              refine wp_seq ?_
              refine wp_region_lit ?_
              refine s1 hE rfl (d_move hE rfl) fun a hE => ?_
              refine s1 hE rfl (d_lss hE rfl rfl) fun a hE => ?_
              refine wpList_nil ?_
              by_cases c2599 : y2092 < 65
              · rw [if_pos c2599] at hm
                refine cT hE rfl (decide_eq_true c2599) ?_
                refine wp_skip ?_
                refine wp_seq ?_
                refine wp_block ?_
                refine wp_seq ?_
                refine wp_region_lit ?_
                refine s1 hE rfl (d_assign hE rfl) fun a hE => ?_
                refine wpList_nil ?_
                refine wp_seq ?_
                refine wp_seq ?_
                refine wp_region_lit ?_
                refine s1 hE rfl (d_assign hE rfl) fun a hE => ?_
                refine wpList_nil ?_
                obtain ⟨s3017, hj3017, hm⟩ := bnd hm
                refine cut2 (fun a w => Env a 80 [(0, u0), (4, (.pointer (some (ad q1577 0)))), (5, (.pointer (some (ad q1579 0)))), (6, (.int .i64 y2092)), (7, (.bool s3017.1))] ∧ St z I w (Bl q1577 140 (bigc (fun _ => 0) (fun _ => false)) :: Bl q1579 140 (bigc s3017.2.1 s3017.2.2) :: r)) ?_ ?_
                · refine wp_block ?_
                  refine loopI (fun k a w => ∃ fn2930 : Nat → Int, ∃ fn2931 : Nat → Bool, ∃ b2932 : Bool, ∃ y2933 : Int, m90_l1 a0 k fn2930 fn2931 b2932 y2933 = some s3017 ∧ Env a 80 [(0, u0), (4, (.pointer (some (ad q1577 0)))), (5, (.pointer (some (ad q1579 0)))), (6, (.int .i64 y2092)), (7, (.bool b2932)), (8, (.int .i64 y2933))] ∧ St z I w (Bl q1577 140 (bigc (fun _ => 0) (fun _ => false)) :: Bl q1579 140 (bigc fn2930 fn2931) :: r)) ?_ k _ _ ?_
                  · rintro k a w ⟨fn2930, fn2931, b2932, y2933, hm, hE, H⟩
                    cases k with
                    | zero => rw [m90_l1] at hm; cases hm
                    | succ k =>
                      rw [m90_l1] at hm
                      refine wp_seq ?_
                      refine wp_seq ?_
                      refine wp_region_lit ?_
                      refine s1 hE rfl (d_move hE rfl) fun a hE => ?_
                      refine s1 hE rfl (d_move hE rfl) fun a hE => ?_
                      refine s1 hE rfl (d_lenS Try.underlying55 hE rfl H (Rd.cons (Rd.cons hr0))) fun a hE => ?_
                      refine s1 hE rfl (d_lss hE rfl rfl) fun a hE => ?_
                      refine wpList_nil ?_
                      by_cases c3019 : y2933 < (a0.length : Int)
                      · rw [if_pos c3019] at hm
                        refine cT hE rfl (decide_eq_true c3019) ?_
                        refine wp_skip ?_
                        refine wp_seq ?_
                        refine wp_block ?_
                        refine wp_seq ?_
                        refine wp_region_lit ?_
                        refine s1 hE rfl (d_move hE rfl) fun a hE => ?_
                        refine s1 hE rfl (d_move hE rfl) fun a hE => ?_
                        obtain ⟨x3062, hx3063, hm⟩ := bnd hm
                        refine s1 hE rfl (d_indexS sl55 hE rfl rfl H (Rd.cons (Rd.cons hr0)) hx3063) fun a hE => ?_
                        refine s1 hE rfl (d_loadSA ag60 rfl hE rfl H (Rd.cons (Rd.cons hr0)) hx3063 (fun _ _ e => e)) fun a hE => ?_
                        refine s2 hE rfl (d_alloc al60 H) fun a v w hR hE => ?_
                        obtain ⟨q3064, rfl, H⟩ := hR
                        refine s3 (d_store sz60 hE rfl rfl rfl (oneAll rfl) H rfl) fun v w hR => ?_
                        have H : St z I w (Bl q3064 60 [(.int .i64 x3062.From), (.int .i64 x3062.To), (.int .i64 x3062.Cost)] :: Bl q1577 140 (bigc (fun _ => 0) (fun _ => false)) :: Bl q1579 140 (bigc fn2930 fn2931) :: r) := hR
                        refine wpList_nil ?_
                        refine wp_seq ?_
                        by_cases c3068 : 0 ≤ x3062.From ∧ x3062.From < 65
                        · rw [if_pos c3068] at hm
                          obtain ⟨x3069, hc3070, hm⟩ := bnd hm
                          refine Dr.region (γ := Unit) (pre := [[], [0], [], [0, 1, 2], [0, 1, 2, 3], [], [5], [5, 6], [0, 1, 2, 3, 4, 5, 6, 7], [0, 1, 2, 3, 4, 5, 6, 7, 8]]) (val := [some (.pointer (some (ad q3064 (0 + 0)))), some (.int .i64 x3062.From), some (.pointer (some (ad q1579 (0 + 0)))), some (.pointer (some (ad q1579 ((0 + 0) + (x3062.From).toNat)))), some (.int .u64 (fn2930 (x3062.From).toNat)), some (.pointer (some (ad q3064 (0 + 2)))), some (.int .i64 x3062.Cost), some (.int .u64 (IntKind.u64.wrap x3062.Cost)), some (.int .u64 x3069), some (.int .u64 x3069)]) (eff := []) (mask := [[]]) (keys := [[]]) (src := [[.base 9], [.op 0], [.base 5], [.op 1, .op 2], [.op 3], [.base 9], [.op 5], [.op 6], [.op 4, .op 7], [.op 8]]) (z := z) (ef := fun p g => ([[]] : List (List (Nat × Value))).getD p []) (hi := fun _ _ => I) (rs := fun p g => ([Bl q3064 60 [(.int .i64 x3062.From), (.int .i64 x3062.To), (.int .i64 x3062.Cost)] :: Bl q1577 140 (bigc (fun _ => 0) (fun _ => false)) :: Bl q1579 140 (bigc fn2930 fn2931) :: r] : List (List Asn)).getD p []) [(0, 0), (1, 0), (2, 0), (3, 0), (4, 0), (5, 0), (6, 0), (7, 0), (8, 0), (9, 0)] [] [0, 1, 2, 3, 4, 5, 6, 7, 8, 9] 0 mo hE () rfl H (by kernel_rfl) (by kernel_rfl) (fun p g => by cases p <;> rfl) ?_ ?_ (by kernel_rfl) (by kernel_rfl) ?_
                          · exact ⟨by intro a w g hE H; exact Dr.is H rfl (Dr.run rfl (d_fieldAddr fld60_0 hE rfl)),
    by intro a w g hE H; exact Dr.is H rfl (Dr.run rfl (d_load sc3 hE rfl H 0 rfl rfl)),
    by intro a w g hE H; exact Dr.is H rfl (Dr.run rfl (d_fieldAddr fld140_0 hE rfl)),
    by intro a w g hE H; exact Dr.is H rfl (Dr.run rfl (d_indexB Try.underlying137 sz61 hE rfl rfl c3068)),
    by intro a w g hE H; exact Dr.is H rfl (Dr.run rfl (d_loadBc sc61 hE rfl H 2 rfl c3068)),
    by intro a w g hE H; exact Dr.is H rfl (Dr.run rfl (d_fieldAddr fld60_2 hE rfl)),
    by intro a w g hE H; exact Dr.is H rfl (Dr.run rfl (d_load sc3 hE rfl H 0 rfl rfl)),
    by intro a w g hE H; exact Dr.is H rfl (Dr.run rfl (d_convert hE rfl (cv3_61 _))),
    by intro a w g hE H; exact (Dr.run rfl (d_call c39 hE rfl (f39_ok (fn2930 (x3062.From).toNat) (IntKind.u64.wrap x3062.Cost) hc3070  H))).mono fun v w' hR => by obtain ⟨rfl, H⟩ := hR; exact ⟨rfl, H⟩,
    by intro a w g hE H; exact Dr.is H rfl (Dr.run rfl (d_assign hE rfl)),
    trivial⟩
                          · trivial
                          · intro a w g hE H
                            have H : St z I w (Bl q3064 60 [(.int .i64 x3062.From), (.int .i64 x3062.To), (.int .i64 x3062.Cost)] :: Bl q1577 140 (bigc (fun _ => 0) (fun _ => false)) :: Bl q1579 140 (bigc fn2930 fn2931) :: r) := H
                            refine wp_seq ?_
                            obtain ⟨s3078, hj3078, hm⟩ := bnd hm
                            refine cut2 (fun a w => Env a 80 [(0, u0), (4, (.pointer (some (ad q1577 0)))), (5, (.pointer (some (ad q1579 0)))), (6, (.int .i64 y2092)), (7, (.bool b2932)), (8, (.int .i64 y2933)), (9, (.pointer (some (ad q3064 0)))), (10, (.int .u64 x3069)), (66, (.bool s3078))] ∧ St z I w (Bl q1577 140 (bigc (fun _ => 0) (fun _ => false)) :: Bl q1579 140 (bigc fn2930 fn2931) :: Bl q3064 60 [(.int .i64 x3062.From), (.int .i64 x3062.To), (.int .i64 x3062.Cost)] :: r)) ?_ ?_
                            · have hm := hj3078
                              refine wp_region_lit ?_
                              refine s1 hE rfl (d_fieldAddr fld60_0 hE rfl) fun a hE => ?_
                              refine s1 hE rfl (d_load sc3 hE rfl H 0 rfl rfl) fun a hE => ?_
                              refine s1 hE rfl (d_fieldAddr fld140_1 hE rfl) fun a hE => ?_
                              by_cases c3079 : 0 ≤ x3062.From ∧ x3062.From < 65
                              · rw [if_pos c3079] at hm
                                refine s1 hE rfl (d_indexB Try.underlying138 sz4 hE rfl rfl c3079) fun a hE => ?_
                                refine s1 hE rfl (d_loadBf sc4 hE rfl H 2 rfl c3079) fun a hE => ?_
                                refine s1 hE rfl (d_move hE rfl) fun a hE => ?_
                                by_cases c3080 : (fn2931 (x3062.From).toNat) = true
                                · rw [if_pos c3080] at hm
                                  refine gR hE rfl rfl c3080 ?_
                                  refine s1 hE rfl (d_fieldAddr fld60_1 hE rfl) fun a hE => ?_
                                  refine gR hE rfl rfl c3080 ?_
                                  refine s1 hE rfl (d_load sc3 hE rfl H 0 rfl rfl) fun a hE => ?_
                                  refine gR hE rfl rfl c3080 ?_
                                  refine s1 hE rfl (d_fieldAddr fld140_1 hE rfl) fun a hE => ?_
                                  refine gR hE rfl rfl c3080 ?_
                                  by_cases c3081 : 0 ≤ x3062.To ∧ x3062.To < 65
                                  · rw [if_pos c3081] at hm
                                    refine s1 hE rfl (d_indexB Try.underlying138 sz4 hE rfl rfl c3081) fun a hE => ?_
                                    refine gR hE rfl rfl c3080 ?_
                                    refine s1 hE rfl (d_loadBf sc4 hE rfl H 2 rfl c3081) fun a hE => ?_
                                    refine gR hE rfl rfl c3080 ?_
                                    refine s1 hE rfl (d_not hE rfl) fun a hE => ?_
                                    refine gR hE rfl rfl c3080 ?_
                                    refine s1 hE rfl (d_move hE rfl) fun a hE => ?_
                                    by_cases c3082 : (fn2931 (x3062.To).toNat) = true
                                    · rw [if_pos c3082] at hm
                                      refine gR hE rfl rfl (not_f c3082) ?_
                                      refine s1 hE rfl (d_move hE rfl) fun a hE => ?_
                                      refine gR hE rfl rfl (not_f c3082) ?_
                                      refine s1 hE rfl (d_fieldAddr fld60_1 hE rfl) fun a hE => ?_
                                      refine gR hE rfl rfl (not_f c3082) ?_
                                      refine s1 hE rfl (d_load sc3 hE rfl H 0 rfl rfl) fun a hE => ?_
                                      refine gR hE rfl rfl (not_f c3082) ?_
                                      refine s1 hE rfl (d_fieldAddr fld140_0 hE rfl) fun a hE => ?_
                                      refine gR hE rfl rfl (not_f c3082) ?_
                                      by_cases c3083 : 0 ≤ x3062.To ∧ x3062.To < 65
                                      · rw [if_pos c3083] at hm
                                        refine s1 hE rfl (d_indexB Try.underlying137 sz61 hE rfl rfl c3083) fun a hE => ?_
                                        refine gR hE rfl rfl (not_f c3082) ?_
                                        refine s1 hE rfl (d_loadBc sc61 hE rfl H 2 rfl c3083) fun a hE => ?_
                                        refine gR hE rfl rfl (not_f c3082) ?_
                                        refine s1 hE rfl (d_lss hE rfl rfl) fun a hE => ?_
                                        refine gR hE rfl rfl c3080 ?_
                                        refine s1 hE rfl (d_pF hE rfl (not_f c3082) rfl) fun a hE => ?_
                                        refine s1 hE rfl (d_pT hE rfl c3080 rfl) fun a hE => ?_
                                        refine wpList_nil ?_
                                        cases hm
                                        have H := St.get H 2 rfl
                                        have H := St.get H 2 rfl
                                        exact ⟨hE.sub ⟨rfl, rfl, rfl, rfl, rfl, rfl, rfl, rfl, rfl, trivial⟩, H⟩
                                      · rw [if_neg c3083] at hm; cases hm
                                    · rw [if_neg c3082] at hm
                                      refine gP hE rfl rfl rfl (not_t (b_f c3082)) fun a hE => ?_
                                      refine gP hE rfl rfl rfl (not_t (b_f c3082)) fun a hE => ?_
                                      refine gP hE rfl rfl rfl (not_t (b_f c3082)) fun a hE => ?_
                                      refine gP hE rfl rfl rfl (not_t (b_f c3082)) fun a hE => ?_
                                      refine gP hE rfl rfl rfl (not_t (b_f c3082)) fun a hE => ?_
                                      refine gP hE rfl rfl rfl (not_t (b_f c3082)) fun a hE => ?_
                                      refine gP hE rfl rfl rfl (not_t (b_f c3082)) fun a hE => ?_
                                      refine gR hE rfl rfl c3080 ?_
                                      refine s1 hE rfl (d_pT hE rfl (not_t (b_f c3082)) rfl) fun a hE => ?_
                                      refine s1 hE rfl (d_pT hE rfl c3080 rfl) fun a hE => ?_
                                      refine wpList_nil ?_
                                      cases hm
                                      have H := St.get H 2 rfl
                                      have H := St.get H 2 rfl
                                      exact ⟨hE.sub ⟨rfl, rfl, rfl, rfl, rfl, rfl, rfl, rfl, rfl, trivial⟩, H⟩
                                  · rw [if_neg c3081] at hm; cases hm
                                · rw [if_neg c3080] at hm
                                  refine gP hE rfl rfl rfl (b_f c3080) fun a hE => ?_
                                  refine gP hE rfl rfl rfl (b_f c3080) fun a hE => ?_
                                  refine gP hE rfl rfl rfl (b_f c3080) fun a hE => ?_
                                  refine gP hE rfl rfl rfl (b_f c3080) fun a hE => ?_
                                  refine gP hE rfl rfl rfl (b_f c3080) fun a hE => ?_
                                  refine gP hE rfl rfl rfl (b_f c3080) fun a hE => ?_
                                  refine gP hE rfl rfl rfl (b_f c3080) fun a hE => ?_
                                  refine sk_undef hE rfl rfl rfl fun a hE => ?_
                                  refine sk_undef hE rfl rfl rfl fun a hE => ?_
                                  refine sk_undef hE rfl rfl rfl fun a hE => ?_
                                  refine sk_undef hE rfl rfl rfl fun a hE => ?_
                                  refine sk_undef hE rfl rfl rfl fun a hE => ?_
                                  refine sk_undef hE rfl rfl rfl fun a hE => ?_
                                  refine sk_undef hE rfl rfl rfl fun a hE => ?_
                                  refine gP hE rfl rfl rfl (b_f c3080) fun a hE => ?_
                                  refine s1 hE rfl (d_pF hE rfl (b_f c3080) rfl) fun a hE => ?_
                                  refine wpList_nil ?_
                                  cases hm
                                  have H := St.get H 2 rfl
                                  have H := St.get H 2 rfl
                                  exact ⟨hE.sub ⟨rfl, rfl, rfl, rfl, rfl, rfl, rfl, rfl, rfl, trivial⟩, H⟩
                              · rw [if_neg c3079] at hm; cases hm
                            · rintro a w ⟨hE, H⟩
                              obtain ⟨s3092, hj3092, hm⟩ := bnd hm
                              refine cut2 (fun a w => Env a 80 [(0, u0), (4, (.pointer (some (ad q1577 0)))), (5, (.pointer (some (ad q1579 0)))), (6, (.int .i64 y2092)), (7, (.bool s3092.2.2)), (8, (.int .i64 y2933))] ∧ St z I w (Bl q1577 140 (bigc (fun _ => 0) (fun _ => false)) :: Bl q1579 140 (bigc s3092.1 s3092.2.1) :: r)) ?_ ?_
                              · have hm := hj3092
                                by_cases c3093 : s3078 = true
                                · rw [if_pos c3093] at hm
                                  refine cT hE rfl c3093 ?_
                                  refine wp_seq ?_
                                  refine wp_region_lit ?_
                                  refine s1 hE rfl (d_fieldAddr fld60_1 hE rfl) fun a hE => ?_
                                  refine s1 hE rfl (d_load sc3 hE rfl H 2 rfl rfl) fun a hE => ?_
                                  refine s1 hE rfl (d_fieldAddr fld140_1 hE rfl) fun a hE => ?_
                                  by_cases c3095 : 0 ≤ x3062.To ∧ x3062.To < 65
                                  · rw [if_pos c3095] at hm
                                    refine s1 hE rfl (d_indexB Try.underlying138 sz4 hE rfl rfl c3095) fun a hE => ?_
                                    have H := St.get H 1 rfl
                                    refine s3 (d_storeBf sz4 hE rfl rfl c3095 H) fun v w hR => ?_
                                    have H : St z I w (Bl q1579 140 (bigc fn2930 (upd fn2931 x3062.To true)) :: Bl q1577 140 (bigc (fun _ => 0) (fun _ => false)) :: Bl q3064 60 [(.int .i64 x3062.From), (.int .i64 x3062.To), (.int .i64 x3062.Cost)] :: r) := hR
                                    refine wpList_nil ?_
                                    refine wp_seq ?_
                                    refine wp_region_lit ?_
                                    refine s1 hE rfl (d_fieldAddr fld60_1 hE rfl) fun a hE => ?_
                                    refine s1 hE rfl (d_load sc3 hE rfl H 2 rfl rfl) fun a hE => ?_
                                    refine s1 hE rfl (d_move hE rfl) fun a hE => ?_
                                    refine s1 hE rfl (d_fieldAddr fld140_0 hE rfl) fun a hE => ?_
                                    by_cases c3097 : 0 ≤ x3062.To ∧ x3062.To < 65
                                    · rw [if_pos c3097] at hm
                                      refine s1 hE rfl (d_indexB Try.underlying137 sz61 hE rfl rfl c3097) fun a hE => ?_
                                      refine s3 (d_storeBc sz61 hE rfl rfl c3097 H) fun v w hR => ?_
                                      have H : St z I w (Bl q1579 140 (bigc (upd fn2930 x3062.To x3069) (upd fn2931 x3062.To true)) :: Bl q1577 140 (bigc (fun _ => 0) (fun _ => false)) :: Bl q3064 60 [(.int .i64 x3062.From), (.int .i64 x3062.To), (.int .i64 x3062.Cost)] :: r) := hR
                                      refine wpList_nil ?_
                                      refine wp_region_lit ?_
                                      refine s1 hE rfl (d_assign hE rfl) fun a hE => ?_
                                      refine wpList_nil ?_
                                      cases hm
                                      have H := St.get H 1 rfl
                                      have H := St.del H 2
                                      exact ⟨hE.sub ⟨rfl, rfl, rfl, rfl, rfl, rfl, trivial⟩, H⟩
                                    · rw [if_neg c3097] at hm; cases hm
                                  · rw [if_neg c3095] at hm; cases hm
                                · rw [if_neg c3093] at hm
                                  refine cF hE rfl (b_f c3093) ?_
                                  refine wp_skip ?_
                                  cases hm
                                  have H := St.del H 2
                                  exact ⟨hE.sub ⟨rfl, rfl, rfl, rfl, rfl, rfl, trivial⟩, H⟩
                              · rintro a w ⟨hE, H⟩
                                refine wp_region_lit ?_
                                refine s1 hE rfl (d_move hE rfl) fun a hE => ?_
                                refine s1 hE rfl (d_add hE rfl rfl) fun a hE => ?_
                                refine s1 hE rfl (d_assign hE rfl) fun a hE => ?_
                                refine wpList_nil ?_
                                exact ⟨k, Nat.lt_succ_self k, s3092.1, s3092.2.1, s3092.2.2, IntKind.i64.wrap (y2933 + 1), hm, hE.sub ⟨rfl, rfl, rfl, rfl, rfl, rfl, trivial⟩, H⟩
                        · rw [if_neg c3068] at hm; cases hm
                      · rw [if_neg c3019] at hm
                        refine cF hE rfl (decide_eq_false c3019) ?_
                        refine wp_exit ?_
                        cases hm
                        exact ⟨hE.sub ⟨rfl, rfl, rfl, rfl, rfl, trivial⟩, H⟩
                  · exact ⟨fn2090, fn2091, false, 0, hj3017, hE.sub ⟨rfl, rfl, rfl, rfl, rfl, rfl, trivial⟩, H⟩
                · rintro a w ⟨hE, H⟩
                  refine wp_seq ?_
                  refine wp_region_lit ?_
                  refine s1 hE rfl (d_move hE rfl) fun a hE => ?_
                  refine s1 hE rfl (d_not hE rfl) fun a hE => ?_
                  refine wpList_nil ?_
                  by_cases c3099 : s3017.1 = true
                  · rw [if_pos c3099] at hm
                    refine cF hE rfl (not_f c3099) ?_
                    refine wp_skip ?_
                    refine wp_region_lit ?_
                    refine s1 hE rfl (d_move hE rfl) fun a hE => ?_
                    refine s1 hE rfl (d_add hE rfl rfl) fun a hE => ?_
                    refine s1 hE rfl (d_assign hE rfl) fun a hE => ?_
                    refine wpList_nil ?_
                    exact ⟨k, Nat.lt_succ_self k, s3017.2.1, s3017.2.2, IntKind.i64.wrap (y2092 + 1), hm, hE.sub ⟨rfl, rfl, rfl, rfl, trivial⟩, H⟩
                  · rw [if_neg c3099] at hm
                    refine cT hE rfl (not_t (b_f c3099)) ?_
                    refine wp_seq ?_
                    refine wp_region_lit ?_
                    refine s1 hE rfl (d_loadB ag140 hE rfl H 1 rfl) fun a hE => ?_
                    refine s3 (d_storeB sz140 rfl hE rfl rfl H) fun v w hR => ?_
                    have H : St z I w (Bl q1577 140 (bigc s3017.2.1 s3017.2.2) :: Bl q1579 140 (bigc s3017.2.1 s3017.2.2) :: r) := hR
                    refine wpList_nil ?_
                    refine wp_ret ?_
                    have hb0 := H.ob 0 rfl
                    cases hm
                    have hm := hq2597
                    simp only [Out.on] at hm
                    cases hm
                    have H := St.del H 0
                    have H := St.del H 0
                    exact retC1 rfl hE rfl hb0 (aggB ag140) ⟨_, rfl, rfl, H⟩
              · rw [if_neg c2599] at hm
                refine cF hE rfl (decide_eq_false c2599) ?_
                refine wp_exit ?_
                cases hm
                exact ⟨_, rfl, hE.sub ⟨rfl, rfl, trivial⟩, H⟩
          · have H := St.get H 1 rfl
            exact ⟨(fun _ => 0), (upd (fun _ => false) a1 true), 0, hj2597, hE.sub ⟨rfl, rfl, rfl, rfl, trivial⟩, H⟩
        · rintro a w ⟨s2597, rfl, hE, H⟩
          have hm := hq2597
          simp only [Out.on] at hm
          refine wp_seq ?_
          refine wp_region_lit ?_
          refine s1 hE rfl (d_loadB ag140 hE rfl H 1 rfl) fun a hE => ?_
          refine s3 (d_storeB sz140 rfl hE rfl rfl H) fun v w hR => ?_
          have H : St z I w (Bl q1577 140 (bigc s2597.1 s2597.2) :: Bl q1579 140 (bigc s2597.1 s2597.2) :: r) := hR
          refine wpList_nil ?_
          refine wp_ret ?_
          have hb0 := H.ob 0 rfl
          cases hm
          have H := St.del H 0
          have H := St.del H 0
          exact retC1 rfl hE rfl hb0 (aggB ag140) ⟨_, rfl, rfl, H⟩
      · rw [if_neg c1587] at hm; cases hm
end Go.Proofs.Ytbielnhpfbhkgaa
