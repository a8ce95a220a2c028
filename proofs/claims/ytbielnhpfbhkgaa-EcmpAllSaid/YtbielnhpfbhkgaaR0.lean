/- Functions and what their calls do, by program (gen.py). -/
import Derived.Test.YtbielnhpfbhkgaaE0
import Derived.Test.YtbielnhpfbhkgaaSlG
set_option linter.unusedVariables false
set_option linter.unusedSimpArgs false
namespace Go.Proofs.Ytbielnhpfbhkgaa
open Go Go.RowKit

theorem al140 : ∀ w : World, (Instr.alloc 140 true (.tuple #[])).run Try.prog w = .ok (.pointer (some (ad w.heap.size 0))) (w.alloc (.cells (List.toArray (bigc (fun _ => 0) (fun _ => false))) 140)) := fun w => by kernel_rfl
theorem bld140 : ∀ w : World, (Instr.build 140 (List.toArray [])).run Try.prog w = .ok (bigv (fun _ => 0) (fun _ => false)) w := by
  intro w
  kernel_rfl
theorem sz140 : ∀ w : World, (sizeOf 140).run Try.prog w = .ok 130 w := fun w => by kernel_rfl
theorem ag140 : Aggr Try.prog 140 130 := fun w => ⟨by kernel_rfl, by kernel_rfl⟩
theorem fld140_1 : Fld Try.prog 140 1 65 := fun p w => by kernel_rfl
theorem sz4 : ∀ w : World, (sizeOf 4).run Try.prog w = .ok 1 w := fun w => by kernel_rfl
theorem fld140_0 : Fld Try.prog 140 0 0 := fun p w => by kernel_rfl
theorem sz61 : ∀ w : World, (sizeOf 61).run Try.prog w = .ok 1 w := fun w => by kernel_rfl
theorem c39 : Callable Try.prog 39 := ⟨Try.f39, Try.func39, by kernel_rfl, by kernel_rfl⟩
theorem sc4 : Scal Try.prog 4 := fun w => ⟨by kernel_rfl, by kernel_rfl⟩
theorem c121 : Callable Try.prog 121 := ⟨Try.f121, Try.func121, by kernel_rfl, by kernel_rfl⟩
theorem lit87_0_   : ∀ w : World, (Instr.buildSlice 87 0 (List.toArray [])).run Try.prog w = .ok (.slice (some (ad w.heap.size 0)) 0 0) (w.alloc (.cells (List.toArray []) 94)) := fun w => by kernel_rfl
theorem c90 : Callable Try.prog 90 := ⟨Try.f90, Try.func90, by kernel_rfl, by kernel_rfl⟩
theorem bld94_0In_1In_3In (x0 : Int) (x1 : Int) (x2 : Int)  : ∀ w : World, (Instr.build 94 (List.toArray [(0, (.int .i64 x0)), (1, (.int .u64 x1)), (3, (.int .u64 x2))])).run Try.prog w = .ok (.agg #[(.int .i64 x0), (.int .u64 x1), (.slice none 0 0), (.int .u64 x2)]) w := by
  intro w
  kernel_rfl
theorem al94 : ∀ w : World, (Instr.alloc 94 true (.tuple #[])).run Try.prog w = .ok (.pointer (some (ad w.heap.size 0))) (w.alloc (.cells (List.toArray [(.int .i64 0), (.int .u64 0), (.slice none 0 0), (.int .u64 0)]) 94)) := fun w => by kernel_rfl
theorem sz94 : ∀ w : World, (sizeOf 94).run Try.prog w = .ok 4 w := fun w => by kernel_rfl
theorem fld94_0 : Fld Try.prog 94 0 0 := fun p w => by kernel_rfl
theorem c54 : Callable Try.prog 54 := ⟨Try.f54, Try.func54, by kernel_rfl, by kernel_rfl⟩
theorem c29 : Callable Try.prog 29 := ⟨Try.f29, Try.func29, by kernel_rfl, by kernel_rfl⟩
theorem c36 : Callable Try.prog 36 := ⟨Try.f36, Try.func36, by kernel_rfl, by kernel_rfl⟩
theorem c57 : Callable Try.prog 57 := ⟨Try.f57, Try.func57, by kernel_rfl, by kernel_rfl⟩
theorem c56 : Callable Try.prog 56 := ⟨Try.f56, Try.func56, by kernel_rfl, by kernel_rfl⟩
def m90_l1 (a0 : List S_api_Arc) : Nat → (Nat → Int) → (Nat → Bool) → Bool → Int → Option (Bool × (Nat → Int) × (Nat → Bool))
  | 0, _, _, _, _ => none
  | k + 1, fn2930, fn2931, b2932, y2933 => if y2933 < (a0.length : Int) then (Option.bind (rdx a0 y2933) fun x3062 => if 0 ≤ x3062.From ∧ x3062.From < 65 then (Option.bind (m39 (fn2930 (x3062.From).toNat) (IntKind.u64.wrap x3062.Cost)) fun x3069 => Option.bind (α := Bool) (if 0 ≤ x3062.From ∧ x3062.From < 65 then (if (fn2931 (x3062.From).toNat) = true then (if 0 ≤ x3062.To ∧ x3062.To < 65 then (if (fn2931 (x3062.To).toNat) = true then (if 0 ≤ x3062.To ∧ x3062.To < 65 then (some (decide (x3069 < (fn2930 (x3062.To).toNat)))) else none) else (some true)) else none) else (some false)) else none) fun s3078 => Option.bind (α := (Nat → Int) × (Nat → Bool) × Bool) (if s3078 = true then (if 0 ≤ x3062.To ∧ x3062.To < 65 then (if 0 ≤ x3062.To ∧ x3062.To < 65 then (some ((upd fn2930 x3062.To x3069), (upd fn2931 x3062.To true), true)) else none) else none) else (some (fn2930, fn2931, b2932))) fun s3092 => m90_l1 a0 k s3092.1 s3092.2.1 s3092.2.2 (IntKind.i64.wrap (y2933 + 1))) else none) else (some (b2932, fn2930, fn2931))
def m90_l0 (a0 : List S_api_Arc) : Nat → (Nat → Int) → (Nat → Bool) → Int → Option (Out ((Nat → Int) × (Nat → Bool)) ((Nat → Int) × (Nat → Bool)))
  | 0, _, _, _ => none
  | k + 1, fn2090, fn2091, y2092 => if y2092 < 65 then (Option.bind (m90_l1 a0 k fn2090 fn2091 false 0) fun s3017 => if s3017.1 = true then (m90_l0 a0 k s3017.2.1 s3017.2.2 (IntKind.i64.wrap (y2092 + 1))) else (some (.ret s3017.2))) else (some (.go (fn2090, fn2091)))
def m90 (k : Nat) (a0 : List S_api_Arc) (a1 : Int) : Option ((Nat → Int) × (Nat → Bool)) := Option.bind (α := Bool) (if a1 < 1 then (some true) else (some (decide (64 < a1)))) fun s1582 => if s1582 = true then (some ((fun _ => 0), (fun _ => false))) else (if 0 ≤ a1 ∧ a1 < 65 then (Option.bind (m90_l0 a0 k (fun _ => 0) (upd (fun _ => false) a1 true) 0) fun s2597 => s2597.on (fun q_ => some q_) fun s2597 => some s2597) else none)
set_option maxRecDepth 20000 in
set_option maxHeartbeats 4000000 in
theorem f90_ok (k : Nat) {u0 : Value} (a0 : List S_api_Arc) (a1 : Int) {res : ((Nat → Int) × (Nat → Bool))} (hm : m90 k a0 a1 = some res) {z w : World} {I : Hp} {r : List Asn} (hr0 : Rd c_api_Arc I r u0 a0) (H : St z I w (r)) :
    Calls Try.prog 90 #[u0, (.int .i64 a1)] w (Rt fun v w' => v = (bigv res.1 res.2) ∧ St z I w' (r)) := by
  unfold m90 at hm
  refine enter (args := [u0, (.int .i64 a1)]) Try.func90 rfl Try.ntmps90 rfl fun a hE => ?_
  refine wp_seq ?_
  refine wp_region_lit ?_
  refine s2 hE rfl (d_alloc al140 H) fun a v w hR hE => ?_
  obtain ⟨q1577, rfl, H⟩ := hR
  refine wpList_nil ?_
  refine wp_seq ?_
  refine wp_region_lit ?_
  refine s1 hE rfl (d_build hE rfl bld140) fun a hE => ?_
  refine s2 hE rfl (d_alloc al140 H) fun a v w hR hE => ?_
  obtain ⟨q1579, rfl, H⟩ := hR
  refine s3 (d_storeB sz140 rfl hE rfl rfl H) fun v w hR => ?_
  have H : St z I w (Bl q1579 140 (bigc (fun _ => 0) (fun _ => false)) :: Bl q1577 140 (bigc (fun _ => 0) (fun _ => false)) :: r) := hR
  refine wpList_nil ?_
  refine wp_seq ?_
  refine wp_seq ?_
  obtain ⟨s1582, hj1582, hm⟩ := bnd hm
  refine cut2 (fun a w => Env a 80 [(0, u0), (1, (.int .i64 a1)), (4, (.pointer (some (ad q1577 0)))), (5, (.pointer (some (ad q1579 0)))), (17, (.bool s1582))] ∧ St z I w (Bl q1577 140 (bigc (fun _ => 0) (fun _ => false)) :: Bl q1579 140 (bigc (fun _ => 0) (fun _ => false)) :: r)) ?_ ?_
  · have hm := hj1582
    refine wp_region_lit ?_
    refine s1 hE rfl (d_move hE rfl) fun a hE => ?_
    refine s1 hE rfl (d_lss hE rfl rfl) fun a hE => ?_
    refine s1 hE rfl (d_move hE rfl) fun a hE => ?_
    by_cases c1583 : a1 < 1
    · rw [if_pos c1583] at hm
      refine gP hE rfl rfl rfl (decide_eq_true c1583) fun a hE => ?_
      refine gP hE rfl rfl rfl (decide_eq_true c1583) fun a hE => ?_
      refine s1 hE rfl (d_pT hE rfl (decide_eq_true c1583) rfl) fun a hE => ?_
      refine wpList_nil ?_
      cases hm
      have H := St.get H 1 rfl
      exact ⟨hE.sub ⟨rfl, rfl, rfl, rfl, rfl, trivial⟩, H⟩
    · rw [if_neg c1583] at hm
      refine gR hE rfl rfl (decide_eq_false c1583) ?_
      refine s1 hE rfl (d_move hE rfl) fun a hE => ?_
      refine gR hE rfl rfl (decide_eq_false c1583) ?_
      refine s1 hE rfl (d_gtr hE rfl rfl) fun a hE => ?_
      refine s1 hE rfl (d_pF hE rfl (decide_eq_false c1583) rfl) fun a hE => ?_
      refine wpList_nil ?_
      cases hm
      have H := St.get H 1 rfl
      exact ⟨hE.sub ⟨rfl, rfl, rfl, rfl, rfl, trivial⟩, H⟩
  · rintro a w ⟨hE, H⟩
    by_cases c1585 : s1582 = true
    · rw [if_pos c1585] at hm
      refine cT hE rfl c1585 ?_
      refine wp_seq ?_
      refine wp_region_lit ?_
      refine s1 hE rfl (d_loadB ag140 hE rfl H 1 rfl) fun a hE => ?_
      refine s3 (d_storeB sz140 rfl hE rfl rfl H) fun v w hR => ?_
      have H : St z I w (Bl q1577 140 (bigc (fun _ => 0) (fun _ => false)) :: Bl q1579 140 (bigc (fun _ => 0) (fun _ => false)) :: r) := hR
      refine wpList_nil ?_
      refine wp_ret ?_
      have hb0 := H.ob 0 rfl
      cases hm
      have H := St.del H 0
      have H := St.del H 0
      exact retC1 rfl hE rfl hb0 (aggB ag140) ⟨_, rfl, rfl, H⟩
    · rw [if_neg c1585] at hm
      refine cF hE rfl (b_f c1585) ?_
      refine wp_skip ?_
      refine wp_seq ?_
      refine wp_region_lit ?_
      refine s1 hE rfl (d_move hE rfl) fun a hE => ?_
      refine s1 hE rfl (d_fieldAddr fld140_1 hE rfl) fun a hE => ?_
      by_cases c1587 : 0 ≤ a1 ∧ a1 < 65
      · rw [if_pos c1587] at hm
        refine s1 hE rfl (d_indexB Try.underlying138 sz4 hE rfl rfl c1587) fun a hE => ?_
        have H := St.get H 1 rfl
        refine s3 (d_storeBf sz4 hE rfl rfl c1587 H) fun v w hR => ?_
        have H : St z I w (Bl q1579 140 (bigc (fun _ => 0) (upd (fun _ => false) a1 true)) :: Bl q1577 140 (bigc (fun _ => 0) (fun _ => false)) :: r) := hR
        refine wpList_nil ?_
        refine wp_seq ?_
        refine wp_seq ?_
        refine wp_region_lit ?_
        refine s1 hE rfl (d_assign hE rfl) fun a hE => ?_
        refine wpList_nil ?_
        obtain ⟨s2597, hj2597, hq2597⟩ := bnd hm
        refine cut2 (fun a w => ∃ s_ : (Nat → Int) × (Nat → Bool), s2597 = .go s_ ∧ Env a 80 [(4, (.pointer (some (ad q1577 0)))), (5, (.pointer (some (ad q1579 0))))] ∧ St z I w (Bl q1577 140 (bigc (fun _ => 0) (fun _ => false)) :: Bl q1579 140 (bigc s_.1 s_.2) :: r)) ?_ ?_
        · refine wp_block ?_
          refine loopI (fun k a w => ∃ fn2090 : Nat → Int, ∃ fn2091 : Nat → Bool, ∃ y2092 : Int, m90_l0 a0 k fn2090 fn2091 y2092 = some s2597 ∧ Env a 80 [(0, u0), (4, (.pointer (some (ad q1577 0)))), (5, (.pointer (some (ad q1579 0)))), (6, (.int .i64 y2092))] ∧ St z I w (Bl q1577 140 (bigc (fun _ => 0) (fun _ => false)) :: Bl q1579 140 (bigc fn2090 fn2091) :: r)) ?_ k _ _ ?_
          · rintro k a w ⟨fn2090, fn2091, y2092, hm, hE, H⟩
            cases k with
            | zero => rw [m90_l0] at hm; cases hm
            | succ k =>
              rw [m90_l0] at hm
              refine wp_seq ?_
              refine wp_seq ?_
              refine wp_region_lit ?_
              refine s1 hE rfl (d_move hE rfl) fun a hE => ?_
              refine s1 hE rfl (d_lss hE rfl rfl) fun a hE => ?_
              refine wpList_nil ?_
              by_cases c2599 : y2092 < 65
              · rw [if_pos c2599] at hm
                refine cT hE rfl (decide_eq_true c2599) ?_
                refine wp_skip ?_
                refine wp_seq ?_
                refine wp_block ?_
                refine wp_seq ?_
                refine wp_region_lit ?_
                refine s1 hE rfl (d_assign hE rfl) fun a hE => ?_
                refine wpList_nil ?_
                refine wp_seq ?_
                refine wp_seq ?_
                refine wp_region_lit ?_
                refine s1 hE rfl (d_assign hE rfl) fun a hE => ?_
                refine wpList_nil ?_
                obtain ⟨s3017, hj3017, hm⟩ := bnd hm
                refine cut2 (fun a w => Env a 80 [(0, u0), (4, (.pointer (some (ad q1577 0)))), (5, (.pointer (some (ad q1579 0)))), (6, (.int .i64 y2092)), (7, (.bool s3017.1))] ∧ St z I w (Bl q1577 140 (bigc (fun _ => 0) (fun _ => false)) :: Bl q1579 140 (bigc s3017.2.1 s3017.2.2) :: r)) ?_ ?_
                · refine wp_block ?_
                  refine loopI (fun k a w => ∃ fn2930 : Nat → Int, ∃ fn2931 : Nat → Bool, ∃ b2932 : Bool, ∃ y2933 : Int, m90_l1 a0 k fn2930 fn2931 b2932 y2933 = some s3017 ∧ Env a 80 [(0, u0), (4, (.pointer (some (ad q1577 0)))), (5, (.pointer (some (ad q1579 0)))), (6, (.int .i64 y2092)), (7, (.bool b2932)), (8, (.int .i64 y2933))] ∧ St z I w (Bl q1577 140 (bigc (fun _ => 0) (fun _ => false)) :: Bl q1579 140 (bigc fn2930 fn2931) :: r)) ?_ k _ _ ?_
                  · rintro k a w ⟨fn2930, fn2931, b2932, y2933, hm, hE, H⟩
                    cases k with
                    | zero => rw [m90_l1] at hm; cases hm
                    | succ k =>
                      rw [m90_l1] at hm
                      refine wp_seq ?_
                      refine wp_seq ?_
                      refine wp_region_lit ?_
                      refine s1 hE rfl (d_move hE rfl) fun a hE => ?_
                      refine s1 hE rfl (d_move hE rfl) fun a hE => ?_
                      refine s1 hE rfl (d_lenS Try.underlying55 hE rfl H (Rd.cons (Rd.cons hr0))) fun a hE => ?_
                      refine s1 hE rfl (d_lss hE rfl rfl) fun a hE => ?_
                      refine wpList_nil ?_
                      by_cases c3019 : y2933 < (a0.length : Int)
                      · rw [if_pos c3019] at hm
                        refine cT hE rfl (decide_eq_true c3019) ?_
                        refine wp_skip ?_
                        refine wp_seq ?_
                        refine wp_block ?_
                        refine wp_seq ?_
                        refine wp_region_lit ?_
                        refine s1 hE rfl (d_move hE rfl) fun a hE => ?_
                        refine s1 hE rfl (d_move hE rfl) fun a hE => ?_
                        obtain ⟨x3062, hx3063, hm⟩ := bnd hm
                        refine s1 hE rfl (d_indexS sl55 hE rfl rfl H (Rd.cons (Rd.cons hr0)) hx3063) fun a hE => ?_
                        refine s1 hE rfl (d_loadSA ag60 rfl hE rfl H (Rd.cons (Rd.cons hr0)) hx3063 (fun _ _ e => e)) fun a hE => ?_
                        refine s2 hE rfl (d_alloc al60 H) fun a v w hR hE => ?_
                        obtain ⟨q3064, rfl, H⟩ := hR
                        refine s3 (d_store sz60 hE rfl rfl rfl (oneAll rfl) H rfl) fun v w hR => ?_
                        have H : St z I w (Bl q3064 60 [(.int .i64 x3062.From), (.int .i64 x3062.To), (.int .i64 x3062.Cost)] :: Bl q1577 140 (bigc (fun _ => 0) (fun _ => false)) :: Bl q1579 140 (bigc fn2930 fn2931) :: r) := hR
                        refine wpList_nil ?_
                        refine wp_seq ?_
                        by_cases c3068 : 0 ≤ x3062.From ∧ x3062.From < 65
                        · rw [if_pos c3068] at hm
                          obtain ⟨x3069, hc3070, hm⟩ := bnd hm
                          refine Dr.region (γ := Unit) (pre := [[], [0], [], [0, 1, 2], [0, 1, 2, 3], [], [5], [5, 6], [0, 1, 2, 3, 4, 5, 6, 7], [0, 1, 2, 3, 4, 5, 6, 7, 8]]) (val := [some (.pointer (some (ad q3064 (0 + 0)))), some (.int .i64 x3062.From), some (.pointer (some (ad q1579 (0 + 0)))), some (.pointer (some (ad q1579 ((0 + 0) + (x3062.From).toNat)))), some (.int .u64 (fn2930 (x3062.From).toNat)), some (.pointer (some (ad q3064 (0 + 2)))), some (.int .i64 x3062.Cost), some (.int .u64 (IntKind.u64.wrap x3062.Cost)), some (.int .u64 x3069), some (.int .u64 x3069)]) (eff := []) (mask := [[]]) (keys := [[]]) (src := [[.base 9], [.op 0], [.base 5], [.op 1, .op 2], [.op 3], [.base 9], [.op 5], [.op 6], [.op 4, .op 7], [.op 8]]) (z := z) (ef := fun p g => ([[]] : List (List (Nat × Value))).getD p []) (hi := fun _ _ => I) (rs := fun p g => ([Bl q3064 60 [(.int .i64 x3062.From), (.int .i64 x3062.To), (.int .i64 x3062.Cost)] :: Bl q1577 140 (bigc (fun _ => 0) (fun _ => false)) :: Bl q1579 140 (bigc fn2930 fn2931) :: r] : List (List Asn)).getD p []) [(0, 0), (1, 0), (2, 0), (3, 0), (4, 0), (5, 0), (6, 0), (7, 0), (8, 0), (9, 0)] [] [0, 1, 2, 3, 4, 5, 6, 7, 8, 9] 0 mo hE () rfl H (by kernel_rfl) (by kernel_rfl) (fun p g => by cases p <;> rfl) ?_ ?_ (by kernel_rfl) (by kernel_rfl) ?_
                          · exact ⟨by intro a w g hE H; exact Dr.is H rfl (Dr.run rfl (d_fieldAddr fld60_0 hE rfl)),
    by intro a w g hE H; exact Dr.is H rfl (Dr.run rfl (d_load sc3 hE rfl H 0 rfl rfl)),
    by intro a w g hE H; exact Dr.is H rfl (Dr.run rfl (d_fieldAddr fld140_0 hE rfl)),
    by intro a w g hE H; exact Dr.is H rfl (Dr.run rfl (d_indexB Try.underlying137 sz61 hE rfl rfl c3068)),
    by intro a w g hE H; exact Dr.is H rfl (Dr.run rfl (d_loadBc sc61 hE rfl H 2 rfl c3068)),
    by intro a w g hE H; exact Dr.is H rfl (Dr.run rfl (d_fieldAddr fld60_2 hE rfl)),
    by intro a w g hE H; exact Dr.is H rfl (Dr.run rfl (d_load sc3 hE rfl H 0 rfl rfl)),
    by intro a w g hE H; exact Dr.is H rfl (Dr.run rfl (d_convert hE rfl (cv3_61 _))),
    by intro a w g hE H; exact (Dr.run rfl (d_call c39 hE rfl (f39_ok (fn2930 (x3062.From).toNat) (IntKind.u64.wrap x3062.Cost) hc3070  H))).mono fun v w' hR => by obtain ⟨rfl, H⟩ := hR; exact ⟨rfl, H⟩,
    by intro a w g hE H; exact Dr.is H rfl (Dr.run rfl (d_assign hE rfl)),
    trivial⟩
                          · trivial
                          · intro a w g hE H
                            have H : St z I w (Bl q3064 60 [(.int .i64 x3062.From), (.int .i64 x3062.To), (.int .i64 x3062.Cost)] :: Bl q1577 140 (bigc (fun _ => 0) (fun _ => false)) :: Bl q1579 140 (bigc fn2930 fn2931) :: r) := H
                            refine wp_seq ?_
                            obtain ⟨s3078, hj3078, hm⟩ := bnd hm
                            refine cut2 (fun a w => Env a 80 [(0, u0), (4, (.pointer (some (ad q1577 0)))), (5, (.pointer (some (ad q1579 0)))), (6, (.int .i64 y2092)), (7, (.bool b2932)), (8, (.int .i64 y2933)), (9, (.pointer (some (ad q3064 0)))), (10, (.int .u64 x3069)), (66, (.bool s3078))] ∧ St z I w (Bl q1577 140 (bigc (fun _ => 0) (fun _ => false)) :: Bl q1579 140 (bigc fn2930 fn2931) :: Bl q3064 60 [(.int .i64 x3062.From), (.int .i64 x3062.To), (.int .i64 x3062.Cost)] :: r)) ?_ ?_
                            · have hm := hj3078
                              refine wp_region_lit ?_
                              refine s1 hE rfl (d_fieldAddr fld60_0 hE rfl) fun a hE => ?_
                              refine s1 hE rfl (d_load sc3 hE rfl H 0 rfl rfl) fun a hE => ?_
                              refine s1 hE rfl (d_fieldAddr fld140_1 hE rfl) fun a hE => ?_
                              by_cases c3079 : 0 ≤ x3062.From ∧ x3062.From < 65
                              · rw [if_pos c3079] at hm
                                refine s1 hE rfl (d_indexB Try.underlying138 sz4 hE rfl rfl c3079) fun a hE => ?_
                                refine s1 hE rfl (d_loadBf sc4 hE rfl H 2 rfl c3079) fun a hE => ?_
                                refine s1 hE rfl (d_move hE rfl) fun a hE => ?_
                                by_cases c3080 : (fn2931 (x3062.From).toNat) = true
                                · rw [if_pos c3080] at hm
                                  refine gR hE rfl rfl c3080 ?_
                                  refine s1 hE rfl (d_fieldAddr fld60_1 hE rfl) fun a hE => ?_
                                  refine gR hE rfl rfl c3080 ?_
                                  refine s1 hE rfl (d_load sc3 hE rfl H 0 rfl rfl) fun a hE => ?_
                                  refine gR hE rfl rfl c3080 ?_
                                  refine s1 hE rfl (d_fieldAddr fld140_1 hE rfl) fun a hE => ?_
                                  refine gR hE rfl rfl c3080 ?_
                                  by_cases c3081 : 0 ≤ x3062.To ∧ x3062.To < 65
                                  · rw [if_pos c3081] at hm
                                    refine s1 hE rfl (d_indexB Try.underlying138 sz4 hE rfl rfl c3081) fun a hE => ?_
                                    refine gR hE rfl rfl c3080 ?_
                                    refine s1 hE rfl (d_loadBf sc4 hE rfl H 2 rfl c3081) fun a hE => ?_
                                    refine gR hE rfl rfl c3080 ?_
                                    refine s1 hE rfl (d_not hE rfl) fun a hE => ?_
                                    refine gR hE rfl rfl c3080 ?_
                                    refine s1 hE rfl (d_move hE rfl) fun a hE => ?_
                                    by_cases c3082 : (fn2931 (x3062.To).toNat) = true
                                    · rw [if_pos c3082] at hm
                                      refine gR hE rfl rfl (not_f c3082) ?_
                                      refine s1 hE rfl (d_move hE rfl) fun a hE => ?_
                                      refine gR hE rfl rfl (not_f c3082) ?_
                                      refine s1 hE rfl (d_fieldAddr fld60_1 hE rfl) fun a hE => ?_
                                      refine gR hE rfl rfl (not_f c3082) ?_
                                      refine s1 hE rfl (d_load sc3 hE rfl H 0 rfl rfl) fun a hE => ?_
                                      refine gR hE rfl rfl (not_f c3082) ?_
                                      refine s1 hE rfl (d_fieldAddr fld140_0 hE rfl) fun a hE => ?_
                                      refine gR hE rfl rfl (not_f c3082) ?_
                                      by_cases c3083 : 0 ≤ x3062.To ∧ x3062.To < 65
                                      · rw [if_pos c3083] at hm
                                        refine s1 hE rfl (d_indexB Try.underlying137 sz61 hE rfl rfl c3083) fun a hE => ?_
                                        refine gR hE rfl rfl (not_f c3082) ?_
                                        refine s1 hE rfl (d_loadBc sc61 hE rfl H 2 rfl c3083) fun a hE => ?_
                                        refine gR hE rfl rfl (not_f c3082) ?_
                                        refine s1 hE rfl (d_lss hE rfl rfl) fun a hE => ?_
                                        refine gR hE rfl rfl c3080 ?_
                                        refine s1 hE rfl (d_pF hE rfl (not_f c3082) rfl) fun a hE => ?_
                                        refine s1 hE rfl (d_pT hE rfl c3080 rfl) fun a hE => ?_
                                        refine wpList_nil ?_
                                        cases hm
                                        have H := St.get H 2 rfl
                                        have H := St.get H 2 rfl
                                        exact ⟨hE.sub ⟨rfl, rfl, rfl, rfl, rfl, rfl, rfl, rfl, rfl, trivial⟩, H⟩
                                      · rw [if_neg c3083] at hm; cases hm
                                    · rw [if_neg c3082] at hm
                                      refine gP hE rfl rfl rfl (not_t (b_f c3082)) fun a hE => ?_
                                      refine gP hE rfl rfl rfl (not_t (b_f c3082)) fun a hE => ?_
                                      refine gP hE rfl rfl rfl (not_t (b_f c3082)) fun a hE => ?_
                                      refine gP hE rfl rfl rfl (not_t (b_f c3082)) fun a hE => ?_
                                      refine gP hE rfl rfl rfl (not_t (b_f c3082)) fun a hE => ?_
                                      refine gP hE rfl rfl rfl (not_t (b_f c3082)) fun a hE => ?_
                                      refine gP hE rfl rfl rfl (not_t (b_f c3082)) fun a hE => ?_
                                      refine gR hE rfl rfl c3080 ?_
                                      refine s1 hE rfl (d_pT hE rfl (not_t (b_f c3082)) rfl) fun a hE => ?_
                                      refine s1 hE rfl (d_pT hE rfl c3080 rfl) fun a hE => ?_
                                      refine wpList_nil ?_
                                      cases hm
                                      have H := St.get H 2 rfl
                                      have H := St.get H 2 rfl
                                      exact ⟨hE.sub ⟨rfl, rfl, rfl, rfl, rfl, rfl, rfl, rfl, rfl, trivial⟩, H⟩
                                  · rw [if_neg c3081] at hm; cases hm
                                · rw [if_neg c3080] at hm
                                  refine gP hE rfl rfl rfl (b_f c3080) fun a hE => ?_
                                  refine gP hE rfl rfl rfl (b_f c3080) fun a hE => ?_
                                  refine gP hE rfl rfl rfl (b_f c3080) fun a hE => ?_
                                  refine gP hE rfl rfl rfl (b_f c3080) fun a hE => ?_
                                  refine gP hE rfl rfl rfl (b_f c3080) fun a hE => ?_
                                  refine gP hE rfl rfl rfl (b_f c3080) fun a hE => ?_
                                  refine gP hE rfl rfl rfl (b_f c3080) fun a hE => ?_
                                  refine sk_undef hE rfl rfl rfl fun a hE => ?_
                                  refine sk_undef hE rfl rfl rfl fun a hE => ?_
                                  refine sk_undef hE rfl rfl rfl fun a hE => ?_
                                  refine sk_undef hE rfl rfl rfl fun a hE => ?_
                                  refine sk_undef hE rfl rfl rfl fun a hE => ?_
                                  refine sk_undef hE rfl rfl rfl fun a hE => ?_
                                  refine sk_undef hE rfl rfl rfl fun a hE => ?_
                                  refine gP hE rfl rfl rfl (b_f c3080) fun a hE => ?_
                                  refine s1 hE rfl (d_pF hE rfl (b_f c3080) rfl) fun a hE => ?_
                                  refine wpList_nil ?_
                                  cases hm
                                  have H := St.get H 2 rfl
                                  have H := St.get H 2 rfl
                                  exact ⟨hE.sub ⟨rfl, rfl, rfl, rfl, rfl, rfl, rfl, rfl, rfl, trivial⟩, H⟩
                              · rw [if_neg c3079] at hm; cases hm
                            · rintro a w ⟨hE, H⟩
                              obtain ⟨s3092, hj3092, hm⟩ := bnd hm
                              refine cut2 (fun a w => Env a 80 [(0, u0), (4, (.pointer (some (ad q1577 0)))), (5, (.pointer (some (ad q1579 0)))), (6, (.int .i64 y2092)), (7, (.bool s3092.2.2)), (8, (.int .i64 y2933))] ∧ St z I w (Bl q1577 140 (bigc (fun _ => 0) (fun _ => false)) :: Bl q1579 140 (bigc s3092.1 s3092.2.1) :: r)) ?_ ?_
                              · have hm := hj3092
                                by_cases c3093 : s3078 = true
                                · rw [if_pos c3093] at hm
                                  refine cT hE rfl c3093 ?_
                                  refine wp_seq ?_
                                  refine wp_region_lit ?_
                                  refine s1 hE rfl (d_fieldAddr fld60_1 hE rfl) fun a hE => ?_
                                  refine s1 hE rfl (d_load sc3 hE rfl H 2 rfl rfl) fun a hE => ?_
                                  refine s1 hE rfl (d_fieldAddr fld140_1 hE rfl) fun a hE => ?_
                                  by_cases c3095 : 0 ≤ x3062.To ∧ x3062.To < 65
                                  · rw [if_pos c3095] at hm
                                    refine s1 hE rfl (d_indexB Try.underlying138 sz4 hE rfl rfl c3095) fun a hE => ?_
                                    have H := St.get H 1 rfl
                                    refine s3 (d_storeBf sz4 hE rfl rfl c3095 H) fun v w hR => ?_
                                    have H : St z I w (Bl q1579 140 (bigc fn2930 (upd fn2931 x3062.To true)) :: Bl q1577 140 (bigc (fun _ => 0) (fun _ => false)) :: Bl q3064 60 [(.int .i64 x3062.From), (.int .i64 x3062.To), (.int .i64 x3062.Cost)] :: r) := hR
                                    refine wpList_nil ?_
                                    refine wp_seq ?_
                                    refine wp_region_lit ?_
                                    refine s1 hE rfl (d_fieldAddr fld60_1 hE rfl) fun a hE => ?_
                                    refine s1 hE rfl (d_load sc3 hE rfl H 2 rfl rfl) fun a hE => ?_
                                    refine s1 hE rfl (d_move hE rfl) fun a hE => ?_
                                    refine s1 hE rfl (d_fieldAddr fld140_0 hE rfl) fun a hE => ?_
                                    by_cases c3097 : 0 ≤ x3062.To ∧ x3062.To < 65
                                    · rw [if_pos c3097] at hm
                                      refine s1 hE rfl (d_indexB Try.underlying137 sz61 hE rfl rfl c3097) fun a hE => ?_
                                      refine s3 (d_storeBc sz61 hE rfl rfl c3097 H) fun v w hR => ?_
                                      have H : St z I w (Bl q1579 140 (bigc (upd fn2930 x3062.To x3069) (upd fn2931 x3062.To true)) :: Bl q1577 140 (bigc (fun _ => 0) (fun _ => false)) :: Bl q3064 60 [(.int .i64 x3062.From), (.int .i64 x3062.To), (.int .i64 x3062.Cost)] :: r) := hR
                                      refine wpList_nil ?_
                                      refine wp_region_lit ?_
                                      refine s1 hE rfl (d_assign hE rfl) fun a hE => ?_
                                      refine wpList_nil ?_
                                      cases hm
                                      have H := St.get H 1 rfl
                                      have H := St.del H 2
                                      exact ⟨hE.sub ⟨rfl, rfl, rfl, rfl, rfl, rfl, trivial⟩, H⟩
                                    · rw [if_neg c3097] at hm; cases hm
                                  · rw [if_neg c3095] at hm; cases hm
                                · rw [if_neg c3093] at hm
                                  refine cF hE rfl (b_f c3093) ?_
                                  refine wp_skip ?_
                                  cases hm
                                  have H := St.del H 2
                                  exact ⟨hE.sub ⟨rfl, rfl, rfl, rfl, rfl, rfl, trivial⟩, H⟩
                              · rintro a w ⟨hE, H⟩
                                refine wp_region_lit ?_
                                refine s1 hE rfl (d_move hE rfl) fun a hE => ?_
                                refine s1 hE rfl (d_add hE rfl rfl) fun a hE => ?_
                                refine s1 hE rfl (d_assign hE rfl) fun a hE => ?_
                                refine wpList_nil ?_
                                exact ⟨k, Nat.lt_succ_self k, s3092.1, s3092.2.1, s3092.2.2, IntKind.i64.wrap (y2933 + 1), hm, hE.sub ⟨rfl, rfl, rfl, rfl, rfl, rfl, trivial⟩, H⟩
                        · rw [if_neg c3068] at hm; cases hm
                      · rw [if_neg c3019] at hm
                        refine cF hE rfl (decide_eq_false c3019) ?_
                        refine wp_exit ?_
                        cases hm
                        exact ⟨hE.sub ⟨rfl, rfl, rfl, rfl, rfl, trivial⟩, H⟩
                  · exact ⟨fn2090, fn2091, false, 0, hj3017, hE.sub ⟨rfl, rfl, rfl, rfl, rfl, rfl, trivial⟩, H⟩
                · rintro a w ⟨hE, H⟩
                  refine wp_seq ?_
                  refine wp_region_lit ?_
                  refine s1 hE rfl (d_move hE rfl) fun a hE => ?_
                  refine s1 hE rfl (d_not hE rfl) fun a hE => ?_
                  refine wpList_nil ?_
                  by_cases c3099 : s3017.1 = true
                  · rw [if_pos c3099] at hm
                    refine cF hE rfl (not_f c3099) ?_
                    refine wp_skip ?_
                    refine wp_region_lit ?_
                    refine s1 hE rfl (d_move hE rfl) fun a hE => ?_
                    refine s1 hE rfl (d_add hE rfl rfl) fun a hE => ?_
                    refine s1 hE rfl (d_assign hE rfl) fun a hE => ?_
                    refine wpList_nil ?_
                    exact ⟨k, Nat.lt_succ_self k, s3017.2.1, s3017.2.2, IntKind.i64.wrap (y2092 + 1), hm, hE.sub ⟨rfl, rfl, rfl, rfl, trivial⟩, H⟩
                  · rw [if_neg c3099] at hm
                    refine cT hE rfl (not_t (b_f c3099)) ?_
                    refine wp_seq ?_
                    refine wp_region_lit ?_
                    refine s1 hE rfl (d_loadB ag140 hE rfl H 1 rfl) fun a hE => ?_
                    refine s3 (d_storeB sz140 rfl hE rfl rfl H) fun v w hR => ?_
                    have H : St z I w (Bl q1577 140 (bigc s3017.2.1 s3017.2.2) :: Bl q1579 140 (bigc s3017.2.1 s3017.2.2) :: r) := hR
                    refine wpList_nil ?_
                    refine wp_ret ?_
                    have hb0 := H.ob 0 rfl
                    cases hm
                    have hm := hq2597
                    simp only [Out.on] at hm
                    cases hm
                    have H := St.del H 0
                    have H := St.del H 0
                    exact retC1 rfl hE rfl hb0 (aggB ag140) ⟨_, rfl, rfl, H⟩
              · rw [if_neg c2599] at hm
                refine cF hE rfl (decide_eq_false c2599) ?_
                refine wp_exit ?_
                cases hm
                exact ⟨_, rfl, hE.sub ⟨rfl, rfl, trivial⟩, H⟩
          · have H := St.get H 1 rfl
            exact ⟨(fun _ => 0), (upd (fun _ => false) a1 true), 0, hj2597, hE.sub ⟨rfl, rfl, rfl, rfl, trivial⟩, H⟩
        · rintro a w ⟨s2597, rfl, hE, H⟩
          have hm := hq2597
          simp only [Out.on] at hm
          refine wp_seq ?_
          refine wp_region_lit ?_
          refine s1 hE rfl (d_loadB ag140 hE rfl H 1 rfl) fun a hE => ?_
          refine s3 (d_storeB sz140 rfl hE rfl rfl H) fun v w hR => ?_
          have H : St z I w (Bl q1577 140 (bigc s2597.1 s2597.2) :: Bl q1579 140 (bigc s2597.1 s2597.2) :: r) := hR
          refine wpList_nil ?_
          refine wp_ret ?_
          have hb0 := H.ob 0 rfl
          cases hm
          have H := St.del H 0
          have H := St.del H 0
          exact retC1 rfl hE rfl hb0 (aggB ag140) ⟨_, rfl, rfl, H⟩
      · rw [if_neg c1587] at hm; cases hm
def m121_l0 (F_ : (List S_api_Arc) → ((Nat → Int) × (Nat → Bool)) → Int → Int → Option Int) (a0 : List S_api_Arc) (a1 : (Nat → Int) × (Nat → Bool)) (a2 : Int) (a3 : Int) : Nat → Int → Int → Option Int
  | 0, _, _ => none
  | k + 1, y579, y580 => if y580 < (a0.length : Int) then (Option.bind (rdx a0 y580) fun x719 => Option.bind (α := Bool) (if x719.To = a3 then (if 0 ≤ x719.From ∧ x719.From < 65 then (if (a1.2 (x719.From).toNat) = true then (if 0 ≤ x719.From ∧ x719.From < 65 then (Option.bind (m39 (a1.1 (x719.From).toNat) (IntKind.u64.wrap x719.Cost)) fun x736 => if 0 ≤ a3 ∧ a3 < 65 then (some (decide (x736 = (a1.1 (a3).toNat)))) else none) else none) else (some false)) else none) else (some false)) fun s731 => Option.bind (α := Int) (if s731 = true then (Option.bind (F_ a0 a1 a2 x719.From) fun x755 => Option.bind (m39 y579 x755) fun x757 => some x757) else (some y579)) fun s749 => m121_l0 F_ a0 a1 a2 a3 k s749 (IntKind.i64.wrap (y580 + 1))) else (some y579)
def m121b (F_ : (List S_api_Arc) → ((Nat → Int) × (Nat → Bool)) → Int → Int → Option Int) (k : Nat) (a0 : List S_api_Arc) (a1 : (Nat → Int) × (Nat → Bool)) (a2 : Int) (a3 : Int) : Option Int := if a3 = a2 then (some 1) else (Option.bind (m121_l0 F_ a0 a1 a2 a3 k 0 0) fun s670 => some s670)
def m121 : Nat → (List S_api_Arc) → ((Nat → Int) × (Nat → Bool)) → Int → Int → Option Int
  | 0, _, _, _, _ => none
  | k + 1, a0, a1, a2, a3 => m121b (m121 k) k a0 a1 a2 a3
set_option maxRecDepth 20000 in
set_option maxHeartbeats 4000000 in
theorem f121_b (F_ : (List S_api_Arc) → ((Nat → Int) × (Nat → Bool)) → Int → Int → Option Int) (hRec : ∀ {u0 : Value} (a0 : List S_api_Arc) (a1 : (Nat → Int) × (Nat → Bool)) (a2 : Int) (a3 : Int) {res : Int}, F_ a0 a1 a2 a3 = some res → ∀ {z w : World} {I : Hp} {r : List Asn}, Rd c_api_Arc I r u0 a0 → St z I w (r) → Calls Try.prog 121 #[u0, (bigv a1.1 a1.2), (.int .i64 a2), (.int .i64 a3)] w (Rt fun v w' => v = (.int .u64 res) ∧ St z I w' (r))) (k : Nat) {u0 : Value} (a0 : List S_api_Arc) (a1 : (Nat → Int) × (Nat → Bool)) (a2 : Int) (a3 : Int) {res : Int} (hm : m121b F_ k a0 a1 a2 a3 = some res) {z w : World} {I : Hp} {r : List Asn} (hr0 : Rd c_api_Arc I r u0 a0) (H : St z I w (r)) :
    Calls Try.prog 121 #[u0, (bigv a1.1 a1.2), (.int .i64 a2), (.int .i64 a3)] w (Rt fun v w' => v = (.int .u64 res) ∧ St z I w' (r)) := by
  unfold m121b at hm
  refine enter (args := [u0, (bigv a1.1 a1.2), (.int .i64 a2), (.int .i64 a3)]) Try.func121 rfl Try.ntmps121 rfl fun a hE => ?_
  refine wp_seq ?_
  refine wp_region_lit ?_
  refine s2 hE rfl (d_box hE rfl H) fun a v w hR hE => ?_
  obtain ⟨q488, rfl, H⟩ := hR
  have H : St z I w (Bl q488 140 (bigc a1.1 a1.2) :: r) := H
  refine s1 hE rfl (d_assign hE rfl) fun a hE => ?_
  refine wpList_nil ?_
  refine wp_seq ?_
  refine wp_seq ?_
  refine wp_region_lit ?_
  refine s1 hE rfl (d_move hE rfl) fun a hE => ?_
  refine s1 hE rfl (d_move hE rfl) fun a hE => ?_
  refine s1 hE rfl (d_eql hE rfl rfl) fun a hE => ?_
  refine wpList_nil ?_
  by_cases c490 : a3 = a2
  · rw [if_pos c490] at hm
    refine cT hE rfl (decide_eq_true c490) ?_
    refine wp_seq ?_
    refine wp_region_lit ?_
    refine s1 hE rfl (d_assign hE rfl) fun a hE => ?_
    refine wpList_nil ?_
    refine wp_ret ?_
    cases hm
    have H := St.del H 0
    exact ret1 rfl hE rfl ⟨_, rfl, rfl, H⟩
  · rw [if_neg c490] at hm
    refine cF hE rfl (decide_eq_false c490) ?_
    refine wp_skip ?_
    refine wp_seq ?_
    refine wp_region_lit ?_
    refine s1 hE rfl (d_assign hE rfl) fun a hE => ?_
    refine wpList_nil ?_
    refine wp_seq ?_
    refine wp_seq ?_
    refine wp_region_lit ?_
    refine s1 hE rfl (d_assign hE rfl) fun a hE => ?_
    refine wpList_nil ?_
    obtain ⟨s670, hj670, hm⟩ := bnd hm
    refine cut2 (fun a w => Env a 61 [(9, (.int .u64 s670))] ∧ St z I w (r)) ?_ ?_
    · refine wp_block ?_
      refine loopI (fun k a w => ∃ y579 : Int, ∃ y580 : Int, m121_l0 F_ a0 a1 a2 a3 k y579 y580 = some s670 ∧ Env a 61 [(0, u0), (2, (.int .i64 a2)), (3, (.int .i64 a3)), (5, (.pointer (some (ad q488 0)))), (9, (.int .u64 y579)), (10, (.int .i64 y580))] ∧ St z I w (Bl q488 140 (bigc a1.1 a1.2) :: r)) ?_ k _ _ ?_
      · rintro k a w ⟨y579, y580, hm, hE, H⟩
        cases k with
        | zero => rw [m121_l0] at hm; cases hm
        | succ k =>
          rw [m121_l0] at hm
          refine wp_seq ?_
          refine wp_seq ?_
          refine wp_region_lit ?_
          refine s1 hE rfl (d_move hE rfl) fun a hE => ?_
          refine s1 hE rfl (d_move hE rfl) fun a hE => ?_
          refine s1 hE rfl (d_lenS Try.underlying55 hE rfl H (Rd.cons hr0)) fun a hE => ?_
          refine s1 hE rfl (d_lss hE rfl rfl) fun a hE => ?_
          refine wpList_nil ?_
          by_cases c672 : y580 < (a0.length : Int)
          · rw [if_pos c672] at hm
            refine cT hE rfl (decide_eq_true c672) ?_
            refine wp_skip ?_
            refine wp_seq ?_
            refine wp_block ?_
            refine wp_seq ?_
            refine wp_region_lit ?_
            refine s1 hE rfl (d_move hE rfl) fun a hE => ?_
            refine s1 hE rfl (d_move hE rfl) fun a hE => ?_
            obtain ⟨x719, hx720, hm⟩ := bnd hm
            refine s1 hE rfl (d_indexS sl55 hE rfl rfl H (Rd.cons hr0) hx720) fun a hE => ?_
            refine s1 hE rfl (d_loadSA ag60 rfl hE rfl H (Rd.cons hr0) hx720 (fun _ _ e => e)) fun a hE => ?_
            refine s2 hE rfl (d_alloc al60 H) fun a v w hR hE => ?_
            obtain ⟨q721, rfl, H⟩ := hR
            refine s3 (d_store sz60 hE rfl rfl rfl (oneAll rfl) H rfl) fun v w hR => ?_
            have H : St z I w (Bl q721 60 [(.int .i64 x719.From), (.int .i64 x719.To), (.int .i64 x719.Cost)] :: Bl q488 140 (bigc a1.1 a1.2) :: r) := hR
            refine wpList_nil ?_
            refine wp_seq ?_
            obtain ⟨s731, hj731, hm⟩ := bnd hm
            refine cut2 (fun a w => Env a 61 [(0, u0), (2, (.int .i64 a2)), (3, (.int .i64 a3)), (5, (.pointer (some (ad q488 0)))), (9, (.int .u64 y579)), (10, (.int .i64 y580)), (11, (.pointer (some (ad q721 0)))), (51, (.bool s731))] ∧ St z I w (Bl q488 140 (bigc a1.1 a1.2) :: Bl q721 60 [(.int .i64 x719.From), (.int .i64 x719.To), (.int .i64 x719.Cost)] :: r)) ?_ ?_
            · have hm := hj731
              by_cases c732 : x719.To = a3
              · rw [if_pos c732] at hm
                by_cases c733 : 0 ≤ x719.From ∧ x719.From < 65
                · rw [if_pos c733] at hm
                  by_cases c734 : (a1.2 (x719.From).toNat) = true
                  · rw [if_pos c734] at hm
                    by_cases c735 : 0 ≤ x719.From ∧ x719.From < 65
                    · rw [if_pos c735] at hm
                      obtain ⟨x736, hc737, hm⟩ := bnd hm
                      by_cases c738 : 0 ≤ a3 ∧ a3 < 65
                      · rw [if_pos c738] at hm
                        refine Dr.region (γ := Unit) (pre := [[], [0], [], [0, 1, 2], [0, 1, 2, 3], [0, 1, 2, 3, 4], [0, 1, 2, 3, 4, 5], [0, 1, 2, 3, 4], [0, 1, 2, 3, 4, 5, 6, 7], [0, 1, 2, 3, 4, 5, 6, 7, 8], [0, 1, 2, 3, 4, 5, 6, 7, 8, 9], [0, 1, 2, 3, 4, 5, 6, 7, 8, 9, 10], [0, 1, 2, 3, 4, 5, 6, 7, 8, 9, 10, 11], [0, 1, 2, 3, 4, 5, 6, 7, 8, 9, 10, 11, 12], [0, 1, 2, 3, 4, 5, 6, 7, 8, 9, 10, 11], [0, 1, 2, 3, 4, 5, 6, 7, 8, 9, 10, 11, 12, 13, 14], [0, 1, 2, 3, 4, 5, 6, 7, 8, 9, 10, 11, 12, 13, 14, 15], [0, 1, 2, 3, 4, 5, 6, 7, 8, 9, 10, 11], [0, 1, 2, 3, 4, 5, 6, 7, 8, 9, 10, 11, 17], [0, 1, 2, 3, 4, 5, 6, 7, 8, 9, 10, 11, 17, 18], [0, 1, 2, 3, 4, 5, 6, 7, 8, 9, 10, 11, 12, 13, 14, 15, 16, 17, 18, 19], [0, 1, 2, 3, 4, 5, 6, 7, 8, 9, 10, 11], [0, 1, 2, 3, 4, 5, 6, 7, 8, 9, 10, 11], [0, 1, 2, 3, 4, 5, 6, 7, 8, 9, 10, 11, 21, 22], [0, 1, 2, 3, 4, 5, 6, 7, 8, 9, 10, 11, 21, 22, 23], [0, 1, 2, 3, 4, 5, 6, 7, 8, 9, 10, 11, 12, 13, 14, 15, 16, 17, 18, 19, 20, 21, 22, 23, 24], [0, 1, 2, 3, 4, 5, 6, 7, 8, 9, 10, 11, 12, 13, 14, 15, 16, 17, 18, 19, 20, 21, 22, 23, 24, 25]]) (val := [some (.pointer (some (ad q721 (0 + 1)))), some (.int .i64 x719.To), some (.int .i64 a3), some (.bool (decide (x719.To = a3))), some (.bool (decide (x719.To = a3))), some (.pointer (some (ad q721 (0 + 0)))), some (.int .i64 x719.From), some (.pointer (some (ad q488 (0 + 65)))), some (.pointer (some (ad q488 ((0 + 65) + (x719.From).toNat)))), some (.bool (a1.2 (x719.From).toNat)), some (.bool (a1.2 (x719.From).toNat)), some (.bool (a1.2 (x719.From).toNat)), some (.pointer (some (ad q721 (0 + 0)))), some (.int .i64 x719.From), some (.pointer (some (ad q488 (0 + 0)))), some (.pointer (some (ad q488 ((0 + 0) + (x719.From).toNat)))), some (.int .u64 (a1.1 (x719.From).toNat)), some (.pointer (some (ad q721 (0 + 2)))), some (.int .i64 x719.Cost), some (.int .u64 (IntKind.u64.wrap x719.Cost)), some (.int .u64 x736), some (.int .i64 a3), some (.pointer (some (ad q488 (0 + 0)))), some (.pointer (some (ad q488 ((0 + 0) + (a3).toNat)))), some (.int .u64 (a1.1 (a3).toNat)), some (.bool (decide (x736 = (a1.1 (a3).toNat)))), some (.bool (decide (x736 = (a1.1 (a3).toNat))))]) (eff := []) (mask := [[]]) (keys := [[]]) (src := [[.base 11], [.op 0], [.base 3], [.op 1, .op 2], [.op 3], [.base 11, .op 4], [.op 4, .op 5], [.base 5, .op 4], [.op 4, .op 6, .op 7], [.op 4, .op 8], [.op 4, .op 9], [.op 10], [.base 11, .op 11], [.op 11, .op 12], [.base 5, .op 11], [.op 11, .op 13, .op 14], [.op 11, .op 15], [.base 11, .op 11], [.op 11, .op 17], [.op 11, .op 18], [.op 11, .op 16, .op 19], [.base 3, .op 11], [.base 5, .op 11], [.op 11, .op 21, .op 22], [.op 11, .op 23], [.op 11, .op 20, .op 24], [.op 11, .op 25]]) (z := z) (ef := fun p g => ([[]] : List (List (Nat × Value))).getD p []) (hi := fun _ _ => I) (rs := fun p g => ([Bl q721 60 [(.int .i64 x719.From), (.int .i64 x719.To), (.int .i64 x719.Cost)] :: Bl q488 140 (bigc a1.1 a1.2) :: r] : List (List Asn)).getD p []) [(0, 0), (1, 0), (2, 0), (3, 0), (4, 0), (5, 0), (6, 0), (7, 0), (8, 0), (9, 0), (10, 0), (11, 0), (12, 0), (13, 0), (14, 0), (15, 0), (16, 0), (17, 0), (18, 0), (19, 0), (20, 0), (21, 0), (22, 0), (23, 0), (24, 0), (25, 0), (26, 0)] [] [0, 1, 2, 3, 4, 5, 6, 7, 8, 9, 10, 11, 12, 13, 14, 15, 16, 17, 18, 19, 20, 21, 22, 23, 24, 25, 26] 0 mo hE () rfl H (by kernel_rfl) (by kernel_rfl) (fun p g => by cases p <;> rfl) ?_ ?_ (by kernel_rfl) (by kernel_rfl) ?_
                        · exact ⟨by intro a w g hE H; exact Dr.is H rfl (Dr.run rfl (d_fieldAddr fld60_1 hE rfl)),
    by intro a w g hE H; exact Dr.is H rfl (Dr.run rfl (d_load sc3 hE rfl H 0 rfl rfl)),
    by intro a w g hE H; exact Dr.is H rfl (Dr.run rfl (d_move hE rfl)),
    by intro a w g hE H; exact Dr.is H rfl (Dr.run rfl (d_eql hE rfl rfl)),
    by intro a w g hE H; exact Dr.is H rfl (Dr.run rfl (d_move hE rfl)),
    by intro a w g hE H; exact Dr.is H rfl (Dr.rG rfl hE rfl rfl (decide_eq_true c732) (d_fieldAddr fld60_0 hE rfl)),
    by intro a w g hE H; exact Dr.is H rfl (Dr.rG rfl hE rfl rfl (decide_eq_true c732) (d_load sc3 hE rfl H 0 rfl rfl)),
    by intro a w g hE H; exact Dr.is H rfl (Dr.rG rfl hE rfl rfl (decide_eq_true c732) (d_fieldAddr fld140_1 hE rfl)),
    by intro a w g hE H; exact Dr.is H rfl (Dr.rG rfl hE rfl rfl (decide_eq_true c732) (d_indexB Try.underlying138 sz4 hE rfl rfl c733)),
    by intro a w g hE H; exact Dr.is H rfl (Dr.rG rfl hE rfl rfl (decide_eq_true c732) (d_loadBf sc4 hE rfl H 1 rfl c733)),
    by intro a w g hE H; exact Dr.is H rfl (Dr.run rfl (d_pT hE rfl (decide_eq_true c732) rfl)),
    by intro a w g hE H; exact Dr.is H rfl (Dr.run rfl (d_move hE rfl)),
    by intro a w g hE H; exact Dr.is H rfl (Dr.rG rfl hE rfl rfl c734 (d_fieldAddr fld60_0 hE rfl)),
    by intro a w g hE H; exact Dr.is H rfl (Dr.rG rfl hE rfl rfl c734 (d_load sc3 hE rfl H 0 rfl rfl)),
    by intro a w g hE H; exact Dr.is H rfl (Dr.rG rfl hE rfl rfl c734 (d_fieldAddr fld140_0 hE rfl)),
    by intro a w g hE H; exact Dr.is H rfl (Dr.rG rfl hE rfl rfl c734 (d_indexB Try.underlying137 sz61 hE rfl rfl c735)),
    by intro a w g hE H; exact Dr.is H rfl (Dr.rG rfl hE rfl rfl c734 (d_loadBc sc61 hE rfl H 1 rfl c735)),
    by intro a w g hE H; exact Dr.is H rfl (Dr.rG rfl hE rfl rfl c734 (d_fieldAddr fld60_2 hE rfl)),
    by intro a w g hE H; exact Dr.is H rfl (Dr.rG rfl hE rfl rfl c734 (d_load sc3 hE rfl H 0 rfl rfl)),
    by intro a w g hE H; exact Dr.is H rfl (Dr.rG rfl hE rfl rfl c734 (d_convert hE rfl (cv3_61 _))),
    by intro a w g hE H; exact (Dr.rG rfl hE rfl rfl c734 (d_call c39 hE rfl (f39_ok (a1.1 (x719.From).toNat) (IntKind.u64.wrap x719.Cost) hc737  H))).mono fun v w' hR => by obtain ⟨rfl, H⟩ := hR; exact ⟨rfl, H⟩,
    by intro a w g hE H; exact Dr.is H rfl (Dr.rG rfl hE rfl rfl c734 (d_move hE rfl)),
    by intro a w g hE H; exact Dr.is H rfl (Dr.rG rfl hE rfl rfl c734 (d_fieldAddr fld140_0 hE rfl)),
    by intro a w g hE H; exact Dr.is H rfl (Dr.rG rfl hE rfl rfl c734 (d_indexB Try.underlying137 sz61 hE rfl rfl c738)),
    by intro a w g hE H; exact Dr.is H rfl (Dr.rG rfl hE rfl rfl c734 (d_loadBc sc61 hE rfl H 1 rfl c738)),
    by intro a w g hE H; exact Dr.is H rfl (Dr.rG rfl hE rfl rfl c734 (d_eql hE rfl rfl)),
    by intro a w g hE H; exact Dr.is H rfl (Dr.run rfl (d_pT hE rfl c734 rfl)),
    trivial⟩
                        · trivial
                        · intro a w g hE H
                          have H : St z I w (Bl q721 60 [(.int .i64 x719.From), (.int .i64 x719.To), (.int .i64 x719.Cost)] :: Bl q488 140 (bigc a1.1 a1.2) :: r) := H
                          cases hm
                          have H := St.get H 1 rfl
                          exact ⟨hE.sub ⟨rfl, rfl, rfl, rfl, rfl, rfl, rfl, rfl, trivial⟩, H⟩
                      · rw [if_neg c738] at hm; cases hm
                    · rw [if_neg c735] at hm; cases hm
                  · rw [if_neg c734] at hm
                    refine Dr.region (γ := Unit) (pre := [[], [0], [], [0, 1, 2], [0, 1, 2, 3], [0, 1, 2, 3, 4], [0, 1, 2, 3, 4, 5], [0, 1, 2, 3, 4], [0, 1, 2, 3, 4, 5, 6, 7], [0, 1, 2, 3, 4, 5, 6, 7, 8], [0, 1, 2, 3, 4, 5, 6, 7, 8, 9], [0, 1, 2, 3, 4, 5, 6, 7, 8, 9, 10], [0, 1, 2, 3, 4, 5, 6, 7, 8, 9, 10, 11], [0, 1, 2, 3, 4, 5, 6, 7, 8, 9, 10, 11, 12], [0, 1, 2, 3, 4, 5, 6, 7, 8, 9, 10, 11], [0, 1, 2, 3, 4, 5, 6, 7, 8, 9, 10, 11, 12, 13, 14], [0, 1, 2, 3, 4, 5, 6, 7, 8, 9, 10, 11, 12, 13, 14, 15], [0, 1, 2, 3, 4, 5, 6, 7, 8, 9, 10, 11], [0, 1, 2, 3, 4, 5, 6, 7, 8, 9, 10, 11, 17], [0, 1, 2, 3, 4, 5, 6, 7, 8, 9, 10, 11, 17, 18], [0, 1, 2, 3, 4, 5, 6, 7, 8, 9, 10, 11, 12, 13, 14, 15, 16, 17, 18, 19], [0, 1, 2, 3, 4, 5, 6, 7, 8, 9, 10, 11], [0, 1, 2, 3, 4, 5, 6, 7, 8, 9, 10, 11], [0, 1, 2, 3, 4, 5, 6, 7, 8, 9, 10, 11, 21, 22], [0, 1, 2, 3, 4, 5, 6, 7, 8, 9, 10, 11, 21, 22, 23], [0, 1, 2, 3, 4, 5, 6, 7, 8, 9, 10, 11, 12, 13, 14, 15, 16, 17, 18, 19, 20, 21, 22, 23, 24], [0, 1, 2, 3, 4, 5, 6, 7, 8, 9, 10, 11, 12, 13, 14, 15, 16, 17, 18, 19, 20, 21, 22, 23, 24, 25]]) (val := [some (.pointer (some (ad q721 (0 + 1)))), some (.int .i64 x719.To), some (.int .i64 a3), some (.bool (decide (x719.To = a3))), some (.bool (decide (x719.To = a3))), some (.pointer (some (ad q721 (0 + 0)))), some (.int .i64 x719.From), some (.pointer (some (ad q488 (0 + 65)))), some (.pointer (some (ad q488 ((0 + 65) + (x719.From).toNat)))), some (.bool (a1.2 (x719.From).toNat)), some (.bool (a1.2 (x719.From).toNat)), some (.bool (a1.2 (x719.From).toNat)), some undef, some undef, some undef, some undef, some undef, some undef, some undef, some undef, some undef, some undef, some undef, some undef, some undef, some undef, some (.bool false)]) (eff := []) (mask := [[]]) (keys := [[]]) (src := [[.base 11], [.op 0], [.base 3], [.op 1, .op 2], [.op 3], [.base 11, .op 4], [.op 4, .op 5], [.base 5, .op 4], [.op 4, .op 6, .op 7], [.op 4, .op 8], [.op 4, .op 9], [.op 10], [.base 11, .op 11], [.op 11, .op 12], [.base 5, .op 11], [.op 11, .op 13, .op 14], [.op 11, .op 15], [.base 11, .op 11], [.op 11, .op 17], [.op 11, .op 18], [.op 11, .op 16, .op 19], [.base 3, .op 11], [.base 5, .op 11], [.op 11, .op 21, .op 22], [.op 11, .op 23], [.op 11, .op 20, .op 24], [.op 11, .op 25]]) (z := z) (ef := fun p g => ([[]] : List (List (Nat × Value))).getD p []) (hi := fun _ _ => I) (rs := fun p g => ([Bl q721 60 [(.int .i64 x719.From), (.int .i64 x719.To), (.int .i64 x719.Cost)] :: Bl q488 140 (bigc a1.1 a1.2) :: r] : List (List Asn)).getD p []) [(0, 0), (1, 0), (2, 0), (3, 0), (4, 0), (5, 0), (6, 0), (7, 0), (8, 0), (9, 0), (10, 0), (11, 0), (12, 0), (13, 0), (14, 0), (15, 0), (16, 0), (17, 0), (18, 0), (19, 0), (20, 0), (21, 0), (22, 0), (23, 0), (24, 0), (25, 0), (26, 0)] [] [0, 1, 2, 3, 4, 5, 6, 7, 8, 9, 10, 11, 12, 13, 14, 15, 16, 17, 18, 19, 20, 21, 22, 23, 24, 25, 26] 0 mo hE () rfl H (by kernel_rfl) (by kernel_rfl) (fun p g => by cases p <;> rfl) ?_ ?_ (by kernel_rfl) (by kernel_rfl) ?_
                    · exact ⟨by intro a w g hE H; exact Dr.is H rfl (Dr.run rfl (d_fieldAddr fld60_1 hE rfl)),
    by intro a w g hE H; exact Dr.is H rfl (Dr.run rfl (d_load sc3 hE rfl H 0 rfl rfl)),
    by intro a w g hE H; exact Dr.is H rfl (Dr.run rfl (d_move hE rfl)),
    by intro a w g hE H; exact Dr.is H rfl (Dr.run rfl (d_eql hE rfl rfl)),
    by intro a w g hE H; exact Dr.is H rfl (Dr.run rfl (d_move hE rfl)),
    by intro a w g hE H; exact Dr.is H rfl (Dr.rG rfl hE rfl rfl (decide_eq_true c732) (d_fieldAddr fld60_0 hE rfl)),
    by intro a w g hE H; exact Dr.is H rfl (Dr.rG rfl hE rfl rfl (decide_eq_true c732) (d_load sc3 hE rfl H 0 rfl rfl)),
    by intro a w g hE H; exact Dr.is H rfl (Dr.rG rfl hE rfl rfl (decide_eq_true c732) (d_fieldAddr fld140_1 hE rfl)),
    by intro a w g hE H; exact Dr.is H rfl (Dr.rG rfl hE rfl rfl (decide_eq_true c732) (d_indexB Try.underlying138 sz4 hE rfl rfl c733)),
    by intro a w g hE H; exact Dr.is H rfl (Dr.rG rfl hE rfl rfl (decide_eq_true c732) (d_loadBf sc4 hE rfl H 1 rfl c733)),
    by intro a w g hE H; exact Dr.is H rfl (Dr.run rfl (d_pT hE rfl (decide_eq_true c732) rfl)),
    by intro a w g hE H; exact Dr.is H rfl (Dr.run rfl (d_move hE rfl)),
    by intro a w g hE H; exact Dr.is H rfl (Dr.pG rfl hE rfl rfl (b_f c734) ⟨rfl, rfl⟩),
    by intro a w g hE H; exact Dr.is H rfl (Dr.pG rfl hE rfl rfl (b_f c734) ⟨rfl, rfl⟩),
    by intro a w g hE H; exact Dr.is H rfl (Dr.pG rfl hE rfl rfl (b_f c734) ⟨rfl, rfl⟩),
    by intro a w g hE H; exact Dr.is H rfl (Dr.pG rfl hE rfl rfl (b_f c734) ⟨rfl, rfl⟩),
    by intro a w g hE H; exact Dr.is H rfl (Dr.pG rfl hE rfl rfl (b_f c734) ⟨rfl, rfl⟩),
    by intro a w g hE H; exact Dr.is H rfl (Dr.pG rfl hE rfl rfl (b_f c734) ⟨rfl, rfl⟩),
    by intro a w g hE H; exact Dr.is H rfl (Dr.pG rfl hE rfl rfl (b_f c734) ⟨rfl, rfl⟩),
    by intro a w g hE H; exact Dr.is H rfl (Dr.pG rfl hE rfl rfl (b_f c734) ⟨rfl, rfl⟩),
    by intro a w g hE H; exact Dr.is H rfl (Dr.pG rfl hE rfl rfl (b_f c734) ⟨rfl, rfl⟩),
    by intro a w g hE H; exact Dr.is H rfl (Dr.pG rfl hE rfl rfl (b_f c734) ⟨rfl, rfl⟩),
    by intro a w g hE H; exact Dr.is H rfl (Dr.pG rfl hE rfl rfl (b_f c734) ⟨rfl, rfl⟩),
    by intro a w g hE H; exact Dr.is H rfl (Dr.pG rfl hE rfl rfl (b_f c734) ⟨rfl, rfl⟩),
    by intro a w g hE H; exact Dr.is H rfl (Dr.pG rfl hE rfl rfl (b_f c734) ⟨rfl, rfl⟩),
    by intro a w g hE H; exact Dr.is H rfl (Dr.pG rfl hE rfl rfl (b_f c734) ⟨rfl, rfl⟩),
    by intro a w g hE H; exact Dr.is H rfl (Dr.run rfl (d_pF hE rfl (b_f c734) rfl)),
    trivial⟩
                    · trivial
                    · intro a w g hE H
                      have H : St z I w (Bl q721 60 [(.int .i64 x719.From), (.int .i64 x719.To), (.int .i64 x719.Cost)] :: Bl q488 140 (bigc a1.1 a1.2) :: r) := H
                      cases hm
                      have H := St.get H 1 rfl
                      exact ⟨hE.sub ⟨rfl, rfl, rfl, rfl, rfl, rfl, rfl, rfl, trivial⟩, H⟩
                · rw [if_neg c733] at hm; cases hm
              · rw [if_neg c732] at hm
                refine Dr.region (γ := Unit) (pre := [[], [0], [], [0, 1, 2], [0, 1, 2, 3], [0, 1, 2, 3, 4], [0, 1, 2, 3, 4, 5], [0, 1, 2, 3, 4], [0, 1, 2, 3, 4, 5, 6, 7], [0, 1, 2, 3, 4, 5, 6, 7, 8], [0, 1, 2, 3, 4, 5, 6, 7, 8, 9], [0, 1, 2, 3, 4, 5, 6, 7, 8, 9, 10], [0, 1, 2, 3, 4, 5, 6, 7, 8, 9, 10, 11], [0, 1, 2, 3, 4, 5, 6, 7, 8, 9, 10, 11, 12], [0, 1, 2, 3, 4, 5, 6, 7, 8, 9, 10, 11], [0, 1, 2, 3, 4, 5, 6, 7, 8, 9, 10, 11, 12, 13, 14], [0, 1, 2, 3, 4, 5, 6, 7, 8, 9, 10, 11, 12, 13, 14, 15], [0, 1, 2, 3, 4, 5, 6, 7, 8, 9, 10, 11], [0, 1, 2, 3, 4, 5, 6, 7, 8, 9, 10, 11, 17], [0, 1, 2, 3, 4, 5, 6, 7, 8, 9, 10, 11, 17, 18], [0, 1, 2, 3, 4, 5, 6, 7, 8, 9, 10, 11, 12, 13, 14, 15, 16, 17, 18, 19], [0, 1, 2, 3, 4, 5, 6, 7, 8, 9, 10, 11], [0, 1, 2, 3, 4, 5, 6, 7, 8, 9, 10, 11], [0, 1, 2, 3, 4, 5, 6, 7, 8, 9, 10, 11, 21, 22], [0, 1, 2, 3, 4, 5, 6, 7, 8, 9, 10, 11, 21, 22, 23], [0, 1, 2, 3, 4, 5, 6, 7, 8, 9, 10, 11, 12, 13, 14, 15, 16, 17, 18, 19, 20, 21, 22, 23, 24], [0, 1, 2, 3, 4, 5, 6, 7, 8, 9, 10, 11, 12, 13, 14, 15, 16, 17, 18, 19, 20, 21, 22, 23, 24, 25]]) (val := [some (.pointer (some (ad q721 (0 + 1)))), some (.int .i64 x719.To), some (.int .i64 a3), some (.bool (decide (x719.To = a3))), some (.bool (decide (x719.To = a3))), some undef, some undef, some undef, some undef, some undef, some (.bool false), some (.bool false), some undef, some undef, some undef, some undef, some undef, some undef, some undef, some undef, some undef, some undef, some undef, some undef, some undef, some undef, some (.bool false)]) (eff := []) (mask := [[]]) (keys := [[]]) (src := [[.base 11], [.op 0], [.base 3], [.op 1, .op 2], [.op 3], [.base 11, .op 4], [.op 4, .op 5], [.base 5, .op 4], [.op 4, .op 6, .op 7], [.op 4, .op 8], [.op 4, .op 9], [.op 10], [.base 11, .op 11], [.op 11, .op 12], [.base 5, .op 11], [.op 11, .op 13, .op 14], [.op 11, .op 15], [.base 11, .op 11], [.op 11, .op 17], [.op 11, .op 18], [.op 11, .op 16, .op 19], [.base 3, .op 11], [.base 5, .op 11], [.op 11, .op 21, .op 22], [.op 11, .op 23], [.op 11, .op 20, .op 24], [.op 11, .op 25]]) (z := z) (ef := fun p g => ([[]] : List (List (Nat × Value))).getD p []) (hi := fun _ _ => I) (rs := fun p g => ([Bl q721 60 [(.int .i64 x719.From), (.int .i64 x719.To), (.int .i64 x719.Cost)] :: Bl q488 140 (bigc a1.1 a1.2) :: r] : List (List Asn)).getD p []) [(0, 0), (1, 0), (2, 0), (3, 0), (4, 0), (5, 0), (6, 0), (7, 0), (8, 0), (9, 0), (10, 0), (11, 0), (12, 0), (13, 0), (14, 0), (15, 0), (16, 0), (17, 0), (18, 0), (19, 0), (20, 0), (21, 0), (22, 0), (23, 0), (24, 0), (25, 0), (26, 0)] [] [0, 1, 2, 3, 4, 5, 6, 7, 8, 9, 10, 11, 12, 13, 14, 15, 16, 17, 18, 19, 20, 21, 22, 23, 24, 25, 26] 0 mo hE () rfl H (by kernel_rfl) (by kernel_rfl) (fun p g => by cases p <;> rfl) ?_ ?_ (by kernel_rfl) (by kernel_rfl) ?_
                · exact ⟨by intro a w g hE H; exact Dr.is H rfl (Dr.run rfl (d_fieldAddr fld60_1 hE rfl)),
    by intro a w g hE H; exact Dr.is H rfl (Dr.run rfl (d_load sc3 hE rfl H 0 rfl rfl)),
    by intro a w g hE H; exact Dr.is H rfl (Dr.run rfl (d_move hE rfl)),
    by intro a w g hE H; exact Dr.is H rfl (Dr.run rfl (d_eql hE rfl rfl)),
    by intro a w g hE H; exact Dr.is H rfl (Dr.run rfl (d_move hE rfl)),
    by intro a w g hE H; exact Dr.is H rfl (Dr.pG rfl hE rfl rfl (decide_eq_false c732) ⟨rfl, rfl⟩),
    by intro a w g hE H; exact Dr.is H rfl (Dr.pG rfl hE rfl rfl (decide_eq_false c732) ⟨rfl, rfl⟩),
    by intro a w g hE H; exact Dr.is H rfl (Dr.pG rfl hE rfl rfl (decide_eq_false c732) ⟨rfl, rfl⟩),
    by intro a w g hE H; exact Dr.is H rfl (Dr.pG rfl hE rfl rfl (decide_eq_false c732) ⟨rfl, rfl⟩),
    by intro a w g hE H; exact Dr.is H rfl (Dr.pG rfl hE rfl rfl (decide_eq_false c732) ⟨rfl, rfl⟩),
    by intro a w g hE H; exact Dr.is H rfl (Dr.run rfl (d_pF hE rfl (decide_eq_false c732) rfl)),
    by intro a w g hE H; exact Dr.is H rfl (Dr.run rfl (d_move hE rfl)),
    by intro a w g hE H; exact Dr.is H rfl (Dr.pG rfl hE rfl rfl rfl ⟨rfl, rfl⟩),
    by intro a w g hE H; exact Dr.is H rfl (Dr.pG rfl hE rfl rfl rfl ⟨rfl, rfl⟩),
    by intro a w g hE H; exact Dr.is H rfl (Dr.pG rfl hE rfl rfl rfl ⟨rfl, rfl⟩),
    by intro a w g hE H; exact Dr.is H rfl (Dr.pG rfl hE rfl rfl rfl ⟨rfl, rfl⟩),
    by intro a w g hE H; exact Dr.is H rfl (Dr.pG rfl hE rfl rfl rfl ⟨rfl, rfl⟩),
    by intro a w g hE H; exact Dr.is H rfl (Dr.pG rfl hE rfl rfl rfl ⟨rfl, rfl⟩),
    by intro a w g hE H; exact Dr.is H rfl (Dr.pG rfl hE rfl rfl rfl ⟨rfl, rfl⟩),
    by intro a w g hE H; exact Dr.is H rfl (Dr.pG rfl hE rfl rfl rfl ⟨rfl, rfl⟩),
    by intro a w g hE H; exact Dr.is H rfl (Dr.pG rfl hE rfl rfl rfl ⟨rfl, rfl⟩),
    by intro a w g hE H; exact Dr.is H rfl (Dr.pG rfl hE rfl rfl rfl ⟨rfl, rfl⟩),
    by intro a w g hE H; exact Dr.is H rfl (Dr.pG rfl hE rfl rfl rfl ⟨rfl, rfl⟩),
    by intro a w g hE H; exact Dr.is H rfl (Dr.pG rfl hE rfl rfl rfl ⟨rfl, rfl⟩),
    by intro a w g hE H; exact Dr.is H rfl (Dr.pG rfl hE rfl rfl rfl ⟨rfl, rfl⟩),
    by intro a w g hE H; exact Dr.is H rfl (Dr.pG rfl hE rfl rfl rfl ⟨rfl, rfl⟩),
    by intro a w g hE H; exact Dr.is H rfl (Dr.run rfl (d_pF hE rfl rfl rfl)),
    trivial⟩
                · trivial
                · intro a w g hE H
                  have H : St z I w (Bl q721 60 [(.int .i64 x719.From), (.int .i64 x719.To), (.int .i64 x719.Cost)] :: Bl q488 140 (bigc a1.1 a1.2) :: r) := H
                  cases hm
                  have H := St.get H 1 rfl
                  exact ⟨hE.sub ⟨rfl, rfl, rfl, rfl, rfl, rfl, rfl, rfl, trivial⟩, H⟩
            · rintro a w ⟨hE, H⟩
              obtain ⟨s749, hj749, hm⟩ := bnd hm
              refine cut2 (fun a w => Env a 61 [(0, u0), (2, (.int .i64 a2)), (3, (.int .i64 a3)), (5, (.pointer (some (ad q488 0)))), (9, (.int .u64 s749)), (10, (.int .i64 y580))] ∧ St z I w (Bl q488 140 (bigc a1.1 a1.2) :: r)) ?_ ?_
              · have hm := hj749
                by_cases c750 : s731 = true
                · rw [if_pos c750] at hm
                  refine cT hE rfl c750 ?_
                  refine wp_region_lit ?_
                  refine s1 hE rfl (d_move hE rfl) fun a hE => ?_
                  refine s1 hE rfl (d_move hE rfl) fun a hE => ?_
                  refine s1 hE rfl (d_loadB ag140 hE rfl H 0 rfl) fun a hE => ?_
                  refine s1 hE rfl (d_move hE rfl) fun a hE => ?_
                  refine s1 hE rfl (d_fieldAddr fld60_0 hE rfl) fun a hE => ?_
                  refine s1 hE rfl (d_load sc3 hE rfl H 1 rfl rfl) fun a hE => ?_
                  obtain ⟨x755, hc756, hm⟩ := bnd hm
                  refine s2 hE rfl (d_call c121 hE rfl (hRec a0 a1 a2 x719.From hc756 (Rd.cons (Rd.cons hr0)) H)) fun a v w hR hE => ?_
                  obtain ⟨hv_, H⟩ := hR
                  have hv_ := hv_.symm
                  subst hv_
                  obtain ⟨x757, hc758, hm⟩ := bnd hm
                  refine s2 hE rfl (d_call c39 hE rfl (f39_ok y579 x755 hc758  H)) fun a v w hR hE => ?_
                  obtain ⟨hv_, H⟩ := hR
                  have hv_ := hv_.symm
                  subst hv_
                  refine s1 hE rfl (d_assign hE rfl) fun a hE => ?_
                  refine wpList_nil ?_
                  cases hm
                  have H := St.del H 1
                  exact ⟨hE.sub ⟨rfl, rfl, rfl, rfl, rfl, rfl, trivial⟩, H⟩
                · rw [if_neg c750] at hm
                  refine cF hE rfl (b_f c750) ?_
                  refine wp_skip ?_
                  cases hm
                  have H := St.del H 1
                  exact ⟨hE.sub ⟨rfl, rfl, rfl, rfl, rfl, rfl, trivial⟩, H⟩
              · rintro a w ⟨hE, H⟩
                refine wp_region_lit ?_
                refine s1 hE rfl (d_move hE rfl) fun a hE => ?_
                refine s1 hE rfl (d_add hE rfl rfl) fun a hE => ?_
                refine s1 hE rfl (d_assign hE rfl) fun a hE => ?_
                refine wpList_nil ?_
                exact ⟨k, Nat.lt_succ_self k, s749, IntKind.i64.wrap (y580 + 1), hm, hE.sub ⟨rfl, rfl, rfl, rfl, rfl, rfl, trivial⟩, H⟩
          · rw [if_neg c672] at hm
            refine cF hE rfl (decide_eq_false c672) ?_
            refine wp_exit ?_
            cases hm
            have H := St.del H 0
            exact ⟨hE.sub ⟨rfl, trivial⟩, H⟩
      · exact ⟨0, 0, hj670, hE.sub ⟨rfl, rfl, rfl, rfl, rfl, rfl, trivial⟩, H⟩
    · rintro a w ⟨hE, H⟩
      refine wp_seq ?_
      refine wp_region_lit ?_
      refine s1 hE rfl (d_move hE rfl) fun a hE => ?_
      refine s1 hE rfl (d_assign hE rfl) fun a hE => ?_
      refine wpList_nil ?_
      refine wp_ret ?_
      cases hm
      exact ret1 rfl hE rfl ⟨_, rfl, rfl, H⟩
theorem f121_ok (k : Nat) : ∀ {u0 : Value} (a0 : List S_api_Arc) (a1 : (Nat → Int) × (Nat → Bool)) (a2 : Int) (a3 : Int) {res : Int}, m121 k a0 a1 a2 a3 = some res → ∀ {z w : World} {I : Hp} {r : List Asn}, Rd c_api_Arc I r u0 a0 → St z I w (r) → Calls Try.prog 121 #[u0, (bigv a1.1 a1.2), (.int .i64 a2), (.int .i64 a3)] w (Rt fun v w' => v = (.int .u64 res) ∧ St z I w' (r)) := by
  induction k with
  | zero => intros; rename_i hm _ _ _ _ _ _; cases hm
  | succ k ih =>
    intro u0 a0 a1 a2 a3 res hm z w I r hr0 H
    exact f121_b (m121 k) ih k a0 a1 a2 a3 hm hr0 H
def m57_l1 (a0 : List S_api_Arc) (a1 : Int) (x2625 : ((Nat → Int) × (Nat → Bool))) (y3481 : Int) : Nat → (List Int) → Int → Option (List Int)
  | 0, _, _ => none
  | k + 1, l4912, y4913 => if y4913 < (a0.length : Int) then (Option.bind (α := (List Int)) (Option.bind (rdx a0 y4913) fun x5118 => if x5118.From = a1 then (Option.bind (rdx a0 y4913) fun x5127 => Option.bind (m90 k a0 x5127.To) fun x5129 => Option.bind (α := Bool) (if 0 ≤ y3481 ∧ y3481 < 65 then (if (x5129.2 (y3481).toNat) = true then (Option.bind (rdx a0 y4913) fun x5144 => if 0 ≤ y3481 ∧ y3481 < 65 then (Option.bind (m39 (IntKind.u64.wrap x5144.Cost) (x5129.1 (y3481).toNat)) fun x5147 => if 0 ≤ y3481 ∧ y3481 < 65 then (some (decide (x5147 = (x2625.1 (y3481).toNat)))) else none) else none) else (some false)) else none) fun s5141 => Option.bind (α := (List Int)) (if s5141 = true then (Option.bind (rdx a0 y4913) fun x5173 => Option.bind (appd 17592186044416 l4912 ([x5173.To])) fun l5176 => some l5176) else (some l4912)) fun s5165 => some s5165) else (some l4912)) fun s5115 => m57_l1 a0 a1 x2625 y3481 k s5115 (IntKind.i64.wrap (y4913 + 1))) else (some l4912)
def m57_l0 (a0 : List S_api_Arc) (a1 : Int) (x2625 : ((Nat → Int) × (Nat → Bool))) : Nat → (List S_api_Ways) → Int → Option (List S_api_Ways)
  | 0, _, _ => none
  | k + 1, l3480, y3481 => if y3481 ≤ 64 then (Option.bind (α := (List S_api_Ways)) (Option.bind (α := Bool) (if y3481 = a1 then (some true) else (if 0 ≤ y3481 ∧ y3481 < 65 then (some (!(x2625.2 (y3481).toNat))) else none)) fun s4767 => if s4767 = true then (some l3480) else (if 0 ≤ y3481 ∧ y3481 < 65 then (Option.bind (m121 k a0 x2625 a1 y3481) fun x4777 => Option.bind (m57_l1 a0 a1 x2625 y3481 k [] 0) fun s5047 => Option.bind (appd 2932031007402 l3480 ([(⟨y3481, x2625.1 (y3481).toNat, s5047, x4777⟩ : S_api_Ways)])) fun l5184 => some l5184) else none)) fun s4763 => m57_l0 a0 a1 x2625 k s4763 (IntKind.i64.wrap (y3481 + 1))) else (some l3480)
def m57 (k : Nat) (a0 : List S_api_Arc) (a1 : Int) : Option (List S_api_Ways) := Option.bind (m90 k a0 a1) fun x2625 => Option.bind (m57_l0 a0 a1 x2625 k [] 1) fun s4335 => some s4335
set_option maxRecDepth 20000 in
set_option maxHeartbeats 4000000 in
theorem f57_ok (k : Nat) {u0 : Value} (a0 : List S_api_Arc) (a1 : Int) {res : (List S_api_Ways)} (hm : m57 k a0 a1 = some res) {z w : World} {I : Hp} {r : List Asn} (hr0 : Rd c_api_Arc I r u0 a0) (H : St z I w (r)) :
    Calls Try.prog 57 #[u0, (.int .i64 a1)] w (Rt fun v w' => ∃ v2618 : Value, v = v2618 ∧ St z I w' (OwnSl c_api_Ways v2618 res :: r)) := by
  unfold m57 at hm
  refine enter (args := [u0, (.int .i64 a1)]) Try.func57 rfl Try.ntmps57 rfl fun a hE => ?_
  refine wp_seq ?_
  refine wp_region_lit ?_
  refine s1 hE rfl (d_assign hE rfl) fun a hE => ?_
  refine wpList_nil ?_
  refine wp_seq ?_
  refine wp_region_lit ?_
  refine s2 hE rfl (d_lit (c := c_api_Ways) (xs := []) hE rfl (lit87_0_) rfl rfl (fun J h iJ s => rows0) H) fun a v w hR hE => ?_
  obtain ⟨v2621, rfl⟩ : ∃ x, x = v := ⟨v, rfl⟩
  have H : St z I w (OwnSl c_api_Ways v2621 [] :: r) := hR
  refine s1 hE rfl (d_assign hE rfl) fun a hE => ?_
  refine wpList_nil ?_
  refine wp_seq ?_
  refine wp_region_lit ?_
  refine s1 hE rfl (d_move hE rfl) fun a hE => ?_
  refine s1 hE rfl (d_move hE rfl) fun a hE => ?_
  obtain ⟨x2625, hc2626, hm⟩ := bnd hm
  refine s2 hE rfl (d_call c90 hE rfl (f90_ok k a0 a1 hc2626 (Rd.cons hr0) H)) fun a v w hR hE => ?_
  obtain ⟨hv_, H⟩ := hR
  have hv_ := hv_.symm
  subst hv_
  refine s2 hE rfl (d_alloc al140 H) fun a v w hR hE => ?_
  obtain ⟨q2627, rfl, H⟩ := hR
  refine s3 (d_storeB sz140 rfl hE rfl rfl H) fun v w hR => ?_
  have H : St z I w (Bl q2627 140 (bigc x2625.1 x2625.2) :: OwnSl c_api_Ways v2621 [] :: r) := hR
  refine wpList_nil ?_
  refine wp_seq ?_
  refine wp_seq ?_
  refine wp_region_lit ?_
  refine s1 hE rfl (d_assign hE rfl) fun a hE => ?_
  refine wpList_nil ?_
  obtain ⟨s4335, hj4335, hm⟩ := bnd hm
  refine cut2 (fun a w => ∃ v4333 : Value, Env a 97 [(5, v4333)] ∧ St z I w (OwnSl c_api_Ways v4333 s4335 :: r)) ?_ ?_
  · refine wp_block ?_
    refine loopI (fun k a w => ∃ l3480 : List S_api_Ways, ∃ y3481 : Int, m57_l0 a0 a1 x2625 k l3480 y3481 = some s4335 ∧ ∃ v3479 : Value, Env a 97 [(0, u0), (1, (.int .i64 a1)), (5, v3479), (6, (.pointer (some (ad q2627 0)))), (7, (.int .i64 y3481))] ∧ St z I w (OwnSl c_api_Ways v3479 l3480 :: Bl q2627 140 (bigc x2625.1 x2625.2) :: r)) ?_ k _ _ ?_
    · rintro k a w ⟨l3480, y3481, hm, v3479, hE, H⟩
      cases k with
      | zero => rw [m57_l0] at hm; cases hm
      | succ k =>
        rw [m57_l0] at hm
        refine wp_seq ?_
        refine wp_seq ?_
        refine wp_region_lit ?_
        refine s1 hE rfl (d_move hE rfl) fun a hE => ?_
        refine s1 hE rfl (d_leq hE rfl rfl) fun a hE => ?_
        refine wpList_nil ?_
        by_cases c4337 : y3481 ≤ 64
        · rw [if_pos c4337] at hm
          refine cT hE rfl (decide_eq_true c4337) ?_
          refine wp_skip ?_
          refine wp_seq ?_
          obtain ⟨s4763, hj4763, hm⟩ := bnd hm
          refine cut2 (fun a w => ∃ v4761 : Value, Env a 97 [(0, u0), (1, (.int .i64 a1)), (5, v4761), (6, (.pointer (some (ad q2627 0)))), (7, (.int .i64 y3481))] ∧ St z I w (OwnSl c_api_Ways v4761 s4763 :: Bl q2627 140 (bigc x2625.1 x2625.2) :: r)) ?_ ?_
          · have hm := hj4763
            refine wp_block ?_
            refine wp_seq ?_
            refine wp_seq ?_
            obtain ⟨s4767, hj4767, hm⟩ := bnd hm
            refine cut2 (fun a w => Env a 97 [(0, u0), (1, (.int .i64 a1)), (5, v3479), (6, (.pointer (some (ad q2627 0)))), (7, (.int .i64 y3481)), (28, (.bool s4767))] ∧ St z I w (OwnSl c_api_Ways v3479 l3480 :: Bl q2627 140 (bigc x2625.1 x2625.2) :: r)) ?_ ?_
            · have hm := hj4767
              refine wp_region_lit ?_
              refine s1 hE rfl (d_move hE rfl) fun a hE => ?_
              refine s1 hE rfl (d_move hE rfl) fun a hE => ?_
              refine s1 hE rfl (d_eql hE rfl rfl) fun a hE => ?_
              refine s1 hE rfl (d_move hE rfl) fun a hE => ?_
              by_cases c4768 : y3481 = a1
              · rw [if_pos c4768] at hm
                refine gP hE rfl rfl rfl (decide_eq_true c4768) fun a hE => ?_
                refine gP hE rfl rfl rfl (decide_eq_true c4768) fun a hE => ?_
                refine gP hE rfl rfl rfl (decide_eq_true c4768) fun a hE => ?_
                refine gP hE rfl rfl rfl (decide_eq_true c4768) fun a hE => ?_
                refine gP hE rfl rfl rfl (decide_eq_true c4768) fun a hE => ?_
                refine s1 hE rfl (d_pT hE rfl (decide_eq_true c4768) rfl) fun a hE => ?_
                refine wpList_nil ?_
                cases hm
                exact ⟨hE.sub ⟨rfl, rfl, rfl, rfl, rfl, rfl, trivial⟩, H⟩
              · rw [if_neg c4768] at hm
                refine gR hE rfl rfl (decide_eq_false c4768) ?_
                refine s1 hE rfl (d_move hE rfl) fun a hE => ?_
                refine gR hE rfl rfl (decide_eq_false c4768) ?_
                refine s1 hE rfl (d_fieldAddr fld140_1 hE rfl) fun a hE => ?_
                refine gR hE rfl rfl (decide_eq_false c4768) ?_
                by_cases c4769 : 0 ≤ y3481 ∧ y3481 < 65
                · rw [if_pos c4769] at hm
                  refine s1 hE rfl (d_indexB Try.underlying138 sz4 hE rfl rfl c4769) fun a hE => ?_
                  refine gR hE rfl rfl (decide_eq_false c4768) ?_
                  refine s1 hE rfl (d_loadBf sc4 hE rfl H 1 rfl c4769) fun a hE => ?_
                  refine gR hE rfl rfl (decide_eq_false c4768) ?_
                  refine s1 hE rfl (d_not hE rfl) fun a hE => ?_
                  refine s1 hE rfl (d_pF hE rfl (decide_eq_false c4768) rfl) fun a hE => ?_
                  refine wpList_nil ?_
                  cases hm
                  exact ⟨hE.sub ⟨rfl, rfl, rfl, rfl, rfl, rfl, trivial⟩, H⟩
                · rw [if_neg c4769] at hm; cases hm
            · rintro a w ⟨hE, H⟩
              by_cases c4771 : s4767 = true
              · rw [if_pos c4771] at hm
                refine cT hE rfl c4771 ?_
                refine wp_exit ?_
                cases hm
                exact ⟨v3479, hE.sub ⟨rfl, rfl, rfl, rfl, rfl, trivial⟩, H⟩
              · rw [if_neg c4771] at hm
                refine cF hE rfl (b_f c4771) ?_
                refine wp_skip ?_
                refine wp_seq ?_
                by_cases c4776 : 0 ≤ y3481 ∧ y3481 < 65
                · rw [if_pos c4776] at hm
                  obtain ⟨x4777, hc4778, hm⟩ := bnd hm
                  refine Dr.region (γ := Nat) (pre := [[], [], [], [1, 2], [1, 2, 3], [], [], [], [], [5, 6, 7, 8], [0, 1, 2, 3, 4, 5, 6, 7, 8, 9], [], [0, 1, 2, 3, 4, 5, 6, 7, 8, 9, 10, 11]]) (val := [some (.int .i64 y3481), some (.int .i64 y3481), some (.pointer (some (ad q2627 (0 + 0)))), some (.pointer (some (ad q2627 ((0 + 0) + (y3481).toNat)))), some (.int .u64 (x2625.1 (y3481).toNat)), some u0, some (bigv x2625.1 x2625.2), some (.int .i64 a1), some (.int .i64 y3481), some (.int .u64 x4777), some (.agg #[(.int .i64 y3481), (.int .u64 (x2625.1 (y3481).toNat)), (.slice none 0 0), (.int .u64 x4777)]), none, none]) (eff := [11, 12]) (mask := [[], [11], [11, 12]]) (keys := [[], [8], [8]]) (src := [[.base 7], [.base 7], [.base 6], [.op 1, .op 2], [.op 3], [.base 0], [.base 6], [.base 1], [.base 7], [.op 5, .op 6, .op 7, .op 8], [.op 0, .op 4, .op 9], [], [.op 10]]) (z := z) (ef := fun p g => ([[], [(8, (.pointer (some (ad g 0))))], [(8, (.pointer (some (ad g 0))))]] : List (List (Nat × Value))).getD p []) (hi := fun _ _ => I) (rs := fun p g => ([OwnSl c_api_Ways v3479 l3480 :: Bl q2627 140 (bigc x2625.1 x2625.2) :: r, Bl g 94 [(.int .i64 0), (.int .u64 0), (.slice none 0 0), (.int .u64 0)] :: OwnSl c_api_Ways v3479 l3480 :: Bl q2627 140 (bigc x2625.1 x2625.2) :: r, Bl g 94 [(.int .i64 y3481), (.int .u64 (x2625.1 (y3481).toNat)), (.slice none 0 0), (.int .u64 x4777)] :: OwnSl c_api_Ways v3479 l3480 :: Bl q2627 140 (bigc x2625.1 x2625.2) :: r] : List (List Asn)).getD p []) [(0, 0), (1, 0), (2, 0), (3, 0), (4, 0), (5, 0), (6, 0), (7, 0), (8, 0), (9, 0), (10, 0), (0, 1), (1, 1), (2, 1), (3, 1), (4, 1), (5, 1), (6, 1), (7, 1), (8, 1), (9, 1), (10, 1)] [(0, 11, 1), (1, 12, 2)] [0, 1, 2, 3, 4, 5, 6, 7, 8, 9, 10] 2 mo hE (0) rfl H (by kernel_rfl) (by kernel_rfl) (fun p g => by rcases p with _ | _ | _ | p <;> rfl) ?_ ?_ (by kernel_rfl) (by kernel_rfl) ?_
                  · exact ⟨by intro a w g hE H; obtain ⟨q4779, rfl⟩ : ∃ x, x = g := ⟨g, rfl⟩; exact Dr.is H rfl (Dr.run rfl (d_move hE rfl)),
    by intro a w g hE H; obtain ⟨q4779, rfl⟩ : ∃ x, x = g := ⟨g, rfl⟩; exact Dr.is H rfl (Dr.run rfl (d_move hE rfl)),
    by intro a w g hE H; obtain ⟨q4779, rfl⟩ : ∃ x, x = g := ⟨g, rfl⟩; exact Dr.is H rfl (Dr.run rfl (d_fieldAddr fld140_0 hE rfl)),
    by intro a w g hE H; obtain ⟨q4779, rfl⟩ : ∃ x, x = g := ⟨g, rfl⟩; exact Dr.is H rfl (Dr.run rfl (d_indexB Try.underlying137 sz61 hE rfl rfl c4776)),
    by intro a w g hE H; obtain ⟨q4779, rfl⟩ : ∃ x, x = g := ⟨g, rfl⟩; exact Dr.is H rfl (Dr.run rfl (d_loadBc sc61 hE rfl H 1 rfl c4776)),
    by intro a w g hE H; obtain ⟨q4779, rfl⟩ : ∃ x, x = g := ⟨g, rfl⟩; exact Dr.is H rfl (Dr.run rfl (d_move hE rfl)),
    by intro a w g hE H; obtain ⟨q4779, rfl⟩ : ∃ x, x = g := ⟨g, rfl⟩; exact Dr.is H rfl (Dr.run rfl (d_loadB ag140 hE rfl H 1 rfl)),
    by intro a w g hE H; obtain ⟨q4779, rfl⟩ : ∃ x, x = g := ⟨g, rfl⟩; exact Dr.is H rfl (Dr.run rfl (d_move hE rfl)),
    by intro a w g hE H; obtain ⟨q4779, rfl⟩ : ∃ x, x = g := ⟨g, rfl⟩; exact Dr.is H rfl (Dr.run rfl (d_move hE rfl)),
    by intro a w g hE H; obtain ⟨q4779, rfl⟩ : ∃ x, x = g := ⟨g, rfl⟩; exact (Dr.run rfl (d_call c121 hE rfl (f121_ok k a0 x2625 a1 y3481 hc4778 (Rd.cons (Rd.cons hr0)) H))).mono fun v w' hR => by obtain ⟨rfl, H⟩ := hR; exact ⟨rfl, H⟩,
    by intro a w g hE H; obtain ⟨q4779, rfl⟩ : ∃ x, x = g := ⟨g, rfl⟩; exact Dr.is H rfl (Dr.run rfl (d_build hE rfl (bld94_0In_1In_3In _ _ _))),
    by intro a w g hE H; obtain ⟨q4779, rfl⟩ : ∃ x, x = g := ⟨g, rfl⟩; exact Dr.is H rfl (Dr.run rfl (d_move hE rfl)),
    by intro a w g hE H; obtain ⟨q4779, rfl⟩ : ∃ x, x = g := ⟨g, rfl⟩; exact Dr.is H rfl (Dr.run rfl (d_move hE rfl)),
    by intro a w g hE H; obtain ⟨q4779, rfl⟩ : ∃ x, x = g := ⟨g, rfl⟩; exact Dr.is H rfl (Dr.run rfl (d_fieldAddr fld140_0 hE rfl)),
    by intro a w g hE H; obtain ⟨q4779, rfl⟩ : ∃ x, x = g := ⟨g, rfl⟩; exact Dr.is H rfl (Dr.run rfl (d_indexB Try.underlying137 sz61 hE rfl rfl c4776)),
    by intro a w g hE H; obtain ⟨q4779, rfl⟩ : ∃ x, x = g := ⟨g, rfl⟩; exact Dr.is H rfl (Dr.run rfl (d_loadBc sc61 hE rfl H 2 rfl c4776)),
    by intro a w g hE H; obtain ⟨q4779, rfl⟩ : ∃ x, x = g := ⟨g, rfl⟩; exact Dr.is H rfl (Dr.run rfl (d_move hE rfl)),
    by intro a w g hE H; obtain ⟨q4779, rfl⟩ : ∃ x, x = g := ⟨g, rfl⟩; exact Dr.is H rfl (Dr.run rfl (d_loadB ag140 hE rfl H 2 rfl)),
    by intro a w g hE H; obtain ⟨q4779, rfl⟩ : ∃ x, x = g := ⟨g, rfl⟩; exact Dr.is H rfl (Dr.run rfl (d_move hE rfl)),
    by intro a w g hE H; obtain ⟨q4779, rfl⟩ : ∃ x, x = g := ⟨g, rfl⟩; exact Dr.is H rfl (Dr.run rfl (d_move hE rfl)),
    by intro a w g hE H; obtain ⟨q4779, rfl⟩ : ∃ x, x = g := ⟨g, rfl⟩; exact (Dr.run rfl (d_call c121 hE rfl (f121_ok k a0 x2625 a1 y3481 hc4778 (Rd.cons (Rd.cons (Rd.cons hr0))) H))).mono fun v w' hR => by obtain ⟨rfl, H⟩ := hR; exact ⟨rfl, H⟩,
    by intro a w g hE H; obtain ⟨q4779, rfl⟩ : ∃ x, x = g := ⟨g, rfl⟩; exact Dr.is H rfl (Dr.run rfl (d_build hE rfl (bld94_0In_1In_3In _ _ _))),
    trivial⟩
                  · exact ⟨by intro a w g hE hF H; obtain ⟨q4779, rfl⟩ : ∃ x, x = g := ⟨g, rfl⟩; refine (Dr.run rfl (d_alloc al94 H)).mono fun v w hR => ?_; obtain ⟨q4779, hv_, H⟩ := hR; have hv_ := hv_.symm; subst hv_; exact ⟨q4779, H, Dr.lkSub ⟨rfl, trivial⟩⟩,
    by intro a w g hE hF H; obtain ⟨q4779, rfl⟩ : ∃ x, x = g := ⟨g, rfl⟩; have hE := Dr.env_both hE hF; refine (Dr.run rfl (d_store sz94 hE rfl rfl rfl (oneAll rfl) H rfl)).mono fun v w hR => ?_; have H : St z I w (Bl q4779 94 [(.int .i64 y3481), (.int .u64 (x2625.1 (y3481).toNat)), (.slice none 0 0), (.int .u64 x4777)] :: OwnSl c_api_Ways v3479 l3480 :: Bl q2627 140 (bigc x2625.1 x2625.2) :: r) := hR; exact ⟨q4779, H, Dr.lkSub ⟨rfl, trivial⟩⟩,
    trivial⟩
                  · intro a w g hE H
                    obtain ⟨q4779, rfl⟩ : ∃ x, x = g := ⟨g, rfl⟩
                    have H : St z I w (Bl q4779 94 [(.int .i64 y3481), (.int .u64 (x2625.1 (y3481).toNat)), (.slice none 0 0), (.int .u64 x4777)] :: OwnSl c_api_Ways v3479 l3480 :: Bl q2627 140 (bigc x2625.1 x2625.2) :: r) := H
                    refine wp_seq ?_
                    refine wp_seq ?_
                    refine wp_region_lit ?_
                    refine s1 hE rfl (d_assign hE rfl) fun a hE => ?_
                    refine wpList_nil ?_
                    obtain ⟨s5047, hj5047, hm⟩ := bnd hm
                    refine cut2 (fun a w => ∃ v5045 : Value, Env a 97 [(0, u0), (1, (.int .i64 a1)), (5, v3479), (6, (.pointer (some (ad q2627 0)))), (7, (.int .i64 y3481)), (8, (.pointer (some (ad q4779 0))))] ∧ St z I w (OwnSl c_api_Ways v3479 l3480 :: Bl q2627 140 (bigc x2625.1 x2625.2) :: Bl q4779 94 [(.int .i64 y3481), (.int .u64 (x2625.1 (y3481).toNat)), v5045, (.int .u64 x4777)] :: OwnSl (cInt .i64) v5045 s5047 :: r)) ?_ ?_
                    · refine wp_block ?_
                      refine loopI (fun k a w => ∃ l4912 : List Int, ∃ y4913 : Int, m57_l1 a0 a1 x2625 y3481 k l4912 y4913 = some s5047 ∧ ∃ v4911 : Value, Env a 97 [(0, u0), (1, (.int .i64 a1)), (5, v3479), (6, (.pointer (some (ad q2627 0)))), (7, (.int .i64 y3481)), (8, (.pointer (some (ad q4779 0)))), (9, (.int .i64 y4913))] ∧ St z I w (OwnSl c_api_Ways v3479 l3480 :: Bl q2627 140 (bigc x2625.1 x2625.2) :: Bl q4779 94 [(.int .i64 y3481), (.int .u64 (x2625.1 (y3481).toNat)), v4911, (.int .u64 x4777)] :: OwnSl (cInt .i64) v4911 l4912 :: r)) ?_ k _ _ ?_
                      · rintro k a w ⟨l4912, y4913, hm, v4911, hE, H⟩
                        cases k with
                        | zero => rw [m57_l1] at hm; cases hm
                        | succ k =>
                          rw [m57_l1] at hm
                          refine wp_seq ?_
                          refine wp_seq ?_
                          refine wp_region_lit ?_
                          refine s1 hE rfl (d_move hE rfl) fun a hE => ?_
                          refine s1 hE rfl (d_move hE rfl) fun a hE => ?_
                          refine s1 hE rfl (d_lenS Try.underlying55 hE rfl H (Rd.cons (Rd.cons (Rd.cons (Rd.cons hr0))))) fun a hE => ?_
                          refine s1 hE rfl (d_lss hE rfl rfl) fun a hE => ?_
                          refine wpList_nil ?_
                          by_cases c5049 : y4913 < (a0.length : Int)
                          · rw [if_pos c5049] at hm
                            refine cT hE rfl (decide_eq_true c5049) ?_
                            refine wp_skip ?_
                            refine wp_seq ?_
                            obtain ⟨s5115, hj5115, hm⟩ := bnd hm
                            refine cut2 (fun a w => ∃ v5113 : Value, Env a 97 [(0, u0), (1, (.int .i64 a1)), (5, v3479), (6, (.pointer (some (ad q2627 0)))), (7, (.int .i64 y3481)), (8, (.pointer (some (ad q4779 0)))), (9, (.int .i64 y4913))] ∧ St z I w (OwnSl c_api_Ways v3479 l3480 :: Bl q2627 140 (bigc x2625.1 x2625.2) :: Bl q4779 94 [(.int .i64 y3481), (.int .u64 (x2625.1 (y3481).toNat)), v5113, (.int .u64 x4777)] :: OwnSl (cInt .i64) v5113 s5115 :: r)) ?_ ?_
                            · have hm := hj5115
                              refine wp_block ?_
                              refine wp_seq ?_
                              refine wp_seq ?_
                              refine wp_region_lit ?_
                              refine s1 hE rfl (d_move hE rfl) fun a hE => ?_
                              refine s1 hE rfl (d_move hE rfl) fun a hE => ?_
                              obtain ⟨x5118, hx5119, hm⟩ := bnd hm
                              refine s1 hE rfl (d_indexS sl55 hE rfl rfl H (Rd.cons (Rd.cons (Rd.cons (Rd.cons hr0)))) hx5119) fun a hE => ?_
                              refine s1 hE rfl (d_fieldAddr fld60_0 hE rfl) fun a hE => ?_
                              refine s1 hE rfl (d_loadSf (j := 0) sc3 hE rfl H (Rd.cons (Rd.cons (Rd.cons (Rd.cons hr0)))) hx5119 (fun _ _ e => by rw [e]; rfl)) fun a hE => ?_
                              refine s1 hE rfl (d_move hE rfl) fun a hE => ?_
                              refine s1 hE rfl (d_neq hE rfl rfl) fun a hE => ?_
                              refine wpList_nil ?_
                              by_cases c5121 : x5118.From = a1
                              · rw [if_pos c5121] at hm
                                refine cF hE rfl (not_f (decide_eq_true c5121)) ?_
                                refine wp_skip ?_
                                refine wp_seq ?_
                                refine wp_region_lit ?_
                                refine s1 hE rfl (d_move hE rfl) fun a hE => ?_
                                refine s1 hE rfl (d_move hE rfl) fun a hE => ?_
                                refine s1 hE rfl (d_move hE rfl) fun a hE => ?_
                                obtain ⟨x5127, hx5128, hm⟩ := bnd hm
                                refine s1 hE rfl (d_indexS sl55 hE rfl rfl H (Rd.cons (Rd.cons (Rd.cons (Rd.cons hr0)))) hx5128) fun a hE => ?_
                                refine s1 hE rfl (d_fieldAddr fld60_1 hE rfl) fun a hE => ?_
                                refine s1 hE rfl (d_loadSf (j := 1) sc3 hE rfl H (Rd.cons (Rd.cons (Rd.cons (Rd.cons hr0)))) hx5128 (fun _ _ e => by rw [e]; rfl)) fun a hE => ?_
                                obtain ⟨x5129, hc5130, hm⟩ := bnd hm
                                refine s2 hE rfl (d_call c90 hE rfl (f90_ok k a0 x5127.To hc5130 (Rd.cons (Rd.cons (Rd.cons (Rd.cons hr0)))) H)) fun a v w hR hE => ?_
                                obtain ⟨hv_, H⟩ := hR
                                have hv_ := hv_.symm
                                subst hv_
                                refine s2 hE rfl (d_alloc al140 H) fun a v w hR hE => ?_
                                obtain ⟨q5131, rfl, H⟩ := hR
                                refine s3 (d_storeB sz140 rfl hE rfl rfl H) fun v w hR => ?_
                                have H : St z I w (Bl q5131 140 (bigc x5129.1 x5129.2) :: OwnSl c_api_Ways v3479 l3480 :: Bl q2627 140 (bigc x2625.1 x2625.2) :: Bl q4779 94 [(.int .i64 y3481), (.int .u64 (x2625.1 (y3481).toNat)), v4911, (.int .u64 x4777)] :: OwnSl (cInt .i64) v4911 l4912 :: r) := hR
                                refine wpList_nil ?_
                                refine wp_seq ?_
                                obtain ⟨s5141, hj5141, hm⟩ := bnd hm
                                refine cut2 (fun a w => Env a 97 [(0, u0), (1, (.int .i64 a1)), (5, v3479), (6, (.pointer (some (ad q2627 0)))), (7, (.int .i64 y3481)), (8, (.pointer (some (ad q4779 0)))), (9, (.int .i64 y4913)), (81, (.bool s5141))] ∧ St z I w (OwnSl c_api_Ways v3479 l3480 :: Bl q2627 140 (bigc x2625.1 x2625.2) :: Bl q4779 94 [(.int .i64 y3481), (.int .u64 (x2625.1 (y3481).toNat)), v4911, (.int .u64 x4777)] :: OwnSl (cInt .i64) v4911 l4912 :: r)) ?_ ?_
                                · have hm := hj5141
                                  by_cases c5142 : 0 ≤ y3481 ∧ y3481 < 65
                                  · rw [if_pos c5142] at hm
                                    by_cases c5143 : (x5129.2 (y3481).toNat) = true
                                    · rw [if_pos c5143] at hm
                                      obtain ⟨x5144, hx5145, hm⟩ := bnd hm
                                      by_cases c5146 : 0 ≤ y3481 ∧ y3481 < 65
                                      · rw [if_pos c5146] at hm
                                        obtain ⟨x5147, hc5148, hm⟩ := bnd hm
                                        by_cases c5149 : 0 ≤ y3481 ∧ y3481 < 65
                                        · rw [if_pos c5149] at hm
                                          refine Dr.region (γ := Unit) (pre := [[], [], [0, 1], [0, 1, 2], [0, 1, 2, 3], [0, 1, 2, 3, 4], [0, 1, 2, 3, 4], [0, 1, 2, 3, 4, 5, 6], [0, 1, 2, 3, 4, 5, 6, 7], [0, 1, 2, 3, 4, 5, 6, 7, 8], [0, 1, 2, 3, 4, 5, 6, 7, 8, 9], [0, 1, 2, 3, 4], [0, 1, 2, 3, 4], [0, 1, 2, 3, 4, 11, 12], [0, 1, 2, 3, 4, 11, 12, 13], [0, 1, 2, 3, 4, 5, 6, 7, 8, 9, 10, 11, 12, 13, 14], [0, 1, 2, 3, 4], [0, 1, 2, 3, 4], [0, 1, 2, 3, 4, 16, 17], [0, 1, 2, 3, 4, 16, 17, 18], [0, 1, 2, 3, 4, 5, 6, 7, 8, 9, 10, 11, 12, 13, 14, 15, 16, 17, 18, 19], [0, 1, 2, 3, 4, 5, 6, 7, 8, 9, 10, 11, 12, 13, 14, 15, 16, 17, 18, 19, 20]]) (val := [some (.int .i64 y3481), some (.pointer (some (ad q5131 (0 + 65)))), some (.pointer (some (ad q5131 ((0 + 65) + (y3481).toNat)))), some (.bool (x5129.2 (y3481).toNat)), some (.bool (x5129.2 (y3481).toNat)), some u0, some (.int .i64 y4913), some (.pointer (some (ad (sb u0) (so u0 + (Int.toNat y4913) * c_api_Arc.n)))), some (.pointer (some (ad (sb u0) (so u0 + (Int.toNat y4913) * c_api_Arc.n + 2)))), some (.int .i64 x5144.Cost), some (.int .u64 (IntKind.u64.wrap x5144.Cost)), some (.int .i64 y3481), some (.pointer (some (ad q5131 (0 + 0)))), some (.pointer (some (ad q5131 ((0 + 0) + (y3481).toNat)))), some (.int .u64 (x5129.1 (y3481).toNat)), some (.int .u64 x5147), some (.int .i64 y3481), some (.pointer (some (ad q2627 (0 + 0)))), some (.pointer (some (ad q2627 ((0 + 0) + (y3481).toNat)))), some (.int .u64 (x2625.1 (y3481).toNat)), some (.bool (decide (x5147 = (x2625.1 (y3481).toNat)))), some (.bool (decide (x5147 = (x2625.1 (y3481).toNat))))]) (eff := []) (mask := [[]]) (keys := [[]]) (src := [[.base 7], [.base 10], [.op 0, .op 1], [.op 2], [.op 3], [.base 0, .op 4], [.base 9, .op 4], [.op 4, .op 5, .op 6], [.op 4, .op 7], [.op 4, .op 8], [.op 4, .op 9], [.base 7, .op 4], [.base 10, .op 4], [.op 4, .op 11, .op 12], [.op 4, .op 13], [.op 4, .op 10, .op 14], [.base 7, .op 4], [.base 6, .op 4], [.op 4, .op 16, .op 17], [.op 4, .op 18], [.op 4, .op 15, .op 19], [.op 4, .op 20]]) (z := z) (ef := fun p g => ([[]] : List (List (Nat × Value))).getD p []) (hi := fun _ _ => I) (rs := fun p g => ([Bl q5131 140 (bigc x5129.1 x5129.2) :: OwnSl c_api_Ways v3479 l3480 :: Bl q2627 140 (bigc x2625.1 x2625.2) :: Bl q4779 94 [(.int .i64 y3481), (.int .u64 (x2625.1 (y3481).toNat)), v4911, (.int .u64 x4777)] :: OwnSl (cInt .i64) v4911 l4912 :: r] : List (List Asn)).getD p []) [(0, 0), (1, 0), (2, 0), (3, 0), (4, 0), (5, 0), (6, 0), (7, 0), (8, 0), (9, 0), (10, 0), (11, 0), (12, 0), (13, 0), (14, 0), (15, 0), (16, 0), (17, 0), (18, 0), (19, 0), (20, 0), (21, 0)] [] [0, 1, 2, 3, 4, 5, 6, 7, 8, 9, 10, 11, 12, 13, 14, 15, 16, 17, 18, 19, 20, 21] 0 mo hE () rfl H (by kernel_rfl) (by kernel_rfl) (fun p g => by cases p <;> rfl) ?_ ?_ (by kernel_rfl) (by kernel_rfl) ?_
                                          · exact ⟨by intro a w g hE H; exact Dr.is H rfl (Dr.run rfl (d_move hE rfl)),
    by intro a w g hE H; exact Dr.is H rfl (Dr.run rfl (d_fieldAddr fld140_1 hE rfl)),
    by intro a w g hE H; exact Dr.is H rfl (Dr.run rfl (d_indexB Try.underlying138 sz4 hE rfl rfl c5142)),
    by intro a w g hE H; exact Dr.is H rfl (Dr.run rfl (d_loadBf sc4 hE rfl H 0 rfl c5142)),
    by intro a w g hE H; exact Dr.is H rfl (Dr.run rfl (d_move hE rfl)),
    by intro a w g hE H; exact Dr.is H rfl (Dr.rG rfl hE rfl rfl c5143 (d_move hE rfl)),
    by intro a w g hE H; exact Dr.is H rfl (Dr.rG rfl hE rfl rfl c5143 (d_move hE rfl)),
    by intro a w g hE H; exact Dr.is H rfl (Dr.rG rfl hE rfl rfl c5143 (d_indexS sl55 hE rfl rfl H (Rd.cons (Rd.cons (Rd.cons (Rd.cons (Rd.cons hr0))))) hx5145)),
    by intro a w g hE H; exact Dr.is H rfl (Dr.rG rfl hE rfl rfl c5143 (d_fieldAddr fld60_2 hE rfl)),
    by intro a w g hE H; exact Dr.is H rfl (Dr.rG rfl hE rfl rfl c5143 (d_loadSf (j := 2) sc3 hE rfl H (Rd.cons (Rd.cons (Rd.cons (Rd.cons (Rd.cons hr0))))) hx5145 (fun _ _ e => by rw [e]; rfl))),
    by intro a w g hE H; exact Dr.is H rfl (Dr.rG rfl hE rfl rfl c5143 (d_convert hE rfl (cv3_61 _))),
    by intro a w g hE H; exact Dr.is H rfl (Dr.rG rfl hE rfl rfl c5143 (d_move hE rfl)),
    by intro a w g hE H; exact Dr.is H rfl (Dr.rG rfl hE rfl rfl c5143 (d_fieldAddr fld140_0 hE rfl)),
    by intro a w g hE H; exact Dr.is H rfl (Dr.rG rfl hE rfl rfl c5143 (d_indexB Try.underlying137 sz61 hE rfl rfl c5146)),
    by intro a w g hE H; exact Dr.is H rfl (Dr.rG rfl hE rfl rfl c5143 (d_loadBc sc61 hE rfl H 0 rfl c5146)),
    by intro a w g hE H; exact (Dr.rG rfl hE rfl rfl c5143 (d_call c39 hE rfl (f39_ok (IntKind.u64.wrap x5144.Cost) (x5129.1 (y3481).toNat) hc5148  H))).mono fun v w' hR => by obtain ⟨rfl, H⟩ := hR; exact ⟨rfl, H⟩,
    by intro a w g hE H; exact Dr.is H rfl (Dr.rG rfl hE rfl rfl c5143 (d_move hE rfl)),
    by intro a w g hE H; exact Dr.is H rfl (Dr.rG rfl hE rfl rfl c5143 (d_fieldAddr fld140_0 hE rfl)),
    by intro a w g hE H; exact Dr.is H rfl (Dr.rG rfl hE rfl rfl c5143 (d_indexB Try.underlying137 sz61 hE rfl rfl c5149)),
    by intro a w g hE H; exact Dr.is H rfl (Dr.rG rfl hE rfl rfl c5143 (d_loadBc sc61 hE rfl H 2 rfl c5149)),
    by intro a w g hE H; exact Dr.is H rfl (Dr.rG rfl hE rfl rfl c5143 (d_eql hE rfl rfl)),
    by intro a w g hE H; exact Dr.is H rfl (Dr.run rfl (d_pT hE rfl c5143 rfl)),
    trivial⟩
                                          · trivial
                                          · intro a w g hE H
                                            have H : St z I w (Bl q5131 140 (bigc x5129.1 x5129.2) :: OwnSl c_api_Ways v3479 l3480 :: Bl q2627 140 (bigc x2625.1 x2625.2) :: Bl q4779 94 [(.int .i64 y3481), (.int .u64 (x2625.1 (y3481).toNat)), v4911, (.int .u64 x4777)] :: OwnSl (cInt .i64) v4911 l4912 :: r) := H
                                            cases hm
                                            have H := St.get H 4 rfl
                                            have H := St.get H 4 rfl
                                            have H := St.get H 4 rfl
                                            have H := St.get H 4 rfl
                                            have H := St.del H 4
                                            exact ⟨hE.sub ⟨rfl, rfl, rfl, rfl, rfl, rfl, rfl, rfl, trivial⟩, H⟩
                                        · rw [if_neg c5149] at hm; cases hm
                                      · rw [if_neg c5146] at hm; cases hm
                                    · rw [if_neg c5143] at hm
                                      refine Dr.region (γ := Unit) (pre := [[], [], [0, 1], [0, 1, 2], [0, 1, 2, 3], [0, 1, 2, 3, 4], [0, 1, 2, 3, 4], [0, 1, 2, 3, 4, 5, 6], [0, 1, 2, 3, 4, 5, 6, 7], [0, 1, 2, 3, 4, 5, 6, 7, 8], [0, 1, 2, 3, 4, 5, 6, 7, 8, 9], [0, 1, 2, 3, 4], [0, 1, 2, 3, 4], [0, 1, 2, 3, 4, 11, 12], [0, 1, 2, 3, 4, 11, 12, 13], [0, 1, 2, 3, 4, 5, 6, 7, 8, 9, 10, 11, 12, 13, 14], [0, 1, 2, 3, 4], [0, 1, 2, 3, 4], [0, 1, 2, 3, 4, 16, 17], [0, 1, 2, 3, 4, 16, 17, 18], [0, 1, 2, 3, 4, 5, 6, 7, 8, 9, 10, 11, 12, 13, 14, 15, 16, 17, 18, 19], [0, 1, 2, 3, 4, 5, 6, 7, 8, 9, 10, 11, 12, 13, 14, 15, 16, 17, 18, 19, 20]]) (val := [some (.int .i64 y3481), some (.pointer (some (ad q5131 (0 + 65)))), some (.pointer (some (ad q5131 ((0 + 65) + (y3481).toNat)))), some (.bool (x5129.2 (y3481).toNat)), some (.bool (x5129.2 (y3481).toNat)), some undef, some undef, some undef, some undef, some undef, some undef, some undef, some undef, some undef, some undef, some undef, some undef, some undef, some undef, some undef, some undef, some (.bool false)]) (eff := []) (mask := [[]]) (keys := [[]]) (src := [[.base 7], [.base 10], [.op 0, .op 1], [.op 2], [.op 3], [.base 0, .op 4], [.base 9, .op 4], [.op 4, .op 5, .op 6], [.op 4, .op 7], [.op 4, .op 8], [.op 4, .op 9], [.base 7, .op 4], [.base 10, .op 4], [.op 4, .op 11, .op 12], [.op 4, .op 13], [.op 4, .op 10, .op 14], [.base 7, .op 4], [.base 6, .op 4], [.op 4, .op 16, .op 17], [.op 4, .op 18], [.op 4, .op 15, .op 19], [.op 4, .op 20]]) (z := z) (ef := fun p g => ([[]] : List (List (Nat × Value))).getD p []) (hi := fun _ _ => I) (rs := fun p g => ([Bl q5131 140 (bigc x5129.1 x5129.2) :: OwnSl c_api_Ways v3479 l3480 :: Bl q2627 140 (bigc x2625.1 x2625.2) :: Bl q4779 94 [(.int .i64 y3481), (.int .u64 (x2625.1 (y3481).toNat)), v4911, (.int .u64 x4777)] :: OwnSl (cInt .i64) v4911 l4912 :: r] : List (List Asn)).getD p []) [(0, 0), (1, 0), (2, 0), (3, 0), (4, 0), (5, 0), (6, 0), (7, 0), (8, 0), (9, 0), (10, 0), (11, 0), (12, 0), (13, 0), (14, 0), (15, 0), (16, 0), (17, 0), (18, 0), (19, 0), (20, 0), (21, 0)] [] [0, 1, 2, 3, 4, 5, 6, 7, 8, 9, 10, 11, 12, 13, 14, 15, 16, 17, 18, 19, 20, 21] 0 mo hE () rfl H (by kernel_rfl) (by kernel_rfl) (fun p g => by cases p <;> rfl) ?_ ?_ (by kernel_rfl) (by kernel_rfl) ?_
                                      · exact ⟨by intro a w g hE H; exact Dr.is H rfl (Dr.run rfl (d_move hE rfl)),
    by intro a w g hE H; exact Dr.is H rfl (Dr.run rfl (d_fieldAddr fld140_1 hE rfl)),
    by intro a w g hE H; exact Dr.is H rfl (Dr.run rfl (d_indexB Try.underlying138 sz4 hE rfl rfl c5142)),
    by intro a w g hE H; exact Dr.is H rfl (Dr.run rfl (d_loadBf sc4 hE rfl H 0 rfl c5142)),
    by intro a w g hE H; exact Dr.is H rfl (Dr.run rfl (d_move hE rfl)),
    by intro a w g hE H; exact Dr.is H rfl (Dr.pG rfl hE rfl rfl (b_f c5143) ⟨rfl, rfl⟩),
    by intro a w g hE H; exact Dr.is H rfl (Dr.pG rfl hE rfl rfl (b_f c5143) ⟨rfl, rfl⟩),
    by intro a w g hE H; exact Dr.is H rfl (Dr.pG rfl hE rfl rfl (b_f c5143) ⟨rfl, rfl⟩),
    by intro a w g hE H; exact Dr.is H rfl (Dr.pG rfl hE rfl rfl (b_f c5143) ⟨rfl, rfl⟩),
    by intro a w g hE H; exact Dr.is H rfl (Dr.pG rfl hE rfl rfl (b_f c5143) ⟨rfl, rfl⟩),
    by intro a w g hE H; exact Dr.is H rfl (Dr.pG rfl hE rfl rfl (b_f c5143) ⟨rfl, rfl⟩),
    by intro a w g hE H; exact Dr.is H rfl (Dr.pG rfl hE rfl rfl (b_f c5143) ⟨rfl, rfl⟩),
    by intro a w g hE H; exact Dr.is H rfl (Dr.pG rfl hE rfl rfl (b_f c5143) ⟨rfl, rfl⟩),
    by intro a w g hE H; exact Dr.is H rfl (Dr.pG rfl hE rfl rfl (b_f c5143) ⟨rfl, rfl⟩),
    by intro a w g hE H; exact Dr.is H rfl (Dr.pG rfl hE rfl rfl (b_f c5143) ⟨rfl, rfl⟩),
    by intro a w g hE H; exact Dr.is H rfl (Dr.pG rfl hE rfl rfl (b_f c5143) ⟨rfl, rfl⟩),
    by intro a w g hE H; exact Dr.is H rfl (Dr.pG rfl hE rfl rfl (b_f c5143) ⟨rfl, rfl⟩),
    by intro a w g hE H; exact Dr.is H rfl (Dr.pG rfl hE rfl rfl (b_f c5143) ⟨rfl, rfl⟩),
    by intro a w g hE H; exact Dr.is H rfl (Dr.pG rfl hE rfl rfl (b_f c5143) ⟨rfl, rfl⟩),
    by intro a w g hE H; exact Dr.is H rfl (Dr.pG rfl hE rfl rfl (b_f c5143) ⟨rfl, rfl⟩),
    by intro a w g hE H; exact Dr.is H rfl (Dr.pG rfl hE rfl rfl (b_f c5143) ⟨rfl, rfl⟩),
    by intro a w g hE H; exact Dr.is H rfl (Dr.run rfl (d_pF hE rfl (b_f c5143) rfl)),
    trivial⟩
                                      · trivial
                                      · intro a w g hE H
                                        have H : St z I w (Bl q5131 140 (bigc x5129.1 x5129.2) :: OwnSl c_api_Ways v3479 l3480 :: Bl q2627 140 (bigc x2625.1 x2625.2) :: Bl q4779 94 [(.int .i64 y3481), (.int .u64 (x2625.1 (y3481).toNat)), v4911, (.int .u64 x4777)] :: OwnSl (cInt .i64) v4911 l4912 :: r) := H
                                        cases hm
                                        have H := St.get H 4 rfl
                                        have H := St.get H 4 rfl
                                        have H := St.get H 4 rfl
                                        have H := St.get H 4 rfl
                                        have H := St.del H 4
                                        exact ⟨hE.sub ⟨rfl, rfl, rfl, rfl, rfl, rfl, rfl, rfl, trivial⟩, H⟩
                                  · rw [if_neg c5142] at hm; cases hm
                                · rintro a w ⟨hE, H⟩
                                  obtain ⟨s5165, hj5165, hm⟩ := bnd hm
                                  refine cut2 (fun a w => ∃ v5163 : Value, Env a 97 [(0, u0), (1, (.int .i64 a1)), (5, v3479), (6, (.pointer (some (ad q2627 0)))), (7, (.int .i64 y3481)), (8, (.pointer (some (ad q4779 0)))), (9, (.int .i64 y4913))] ∧ St z I w (OwnSl c_api_Ways v3479 l3480 :: Bl q2627 140 (bigc x2625.1 x2625.2) :: Bl q4779 94 [(.int .i64 y3481), (.int .u64 (x2625.1 (y3481).toNat)), v5163, (.int .u64 x4777)] :: OwnSl (cInt .i64) v5163 s5165 :: r)) ?_ ?_
                                  · have hm := hj5165
                                    by_cases c5166 : s5141 = true
                                    · rw [if_pos c5166] at hm
                                      refine cT hE rfl c5166 ?_
                                      obtain ⟨x5173, hx5174, hm⟩ := bnd hm
                                      obtain ⟨l5176, ha5177, hm⟩ := bnd hm
                                      refine Dr.region (γ := Value × Value) (pre := [[], [0], [], [], [2, 3], [2, 3, 4], [2, 3, 4, 5], [2, 3, 4, 5, 6], [0, 1, 2, 3, 4, 5, 6, 7], [0, 1, 2, 3, 4, 5, 6, 7, 8], [0, 1, 2, 3, 4, 5, 6, 7, 8, 9]]) (val := [some (.pointer (some (ad q4779 (0 + 2)))), some v4911, some u0, some (.int .i64 y4913), some (.pointer (some (ad (sb u0) (so u0 + (Int.toNat y4913) * c_api_Arc.n)))), some (.pointer (some (ad (sb u0) (so u0 + (Int.toNat y4913) * c_api_Arc.n + 1)))), some (.int .i64 x5173.To), none, none, some (.pointer (some (ad q4779 (0 + 2)))), none]) (eff := [7, 8, 10]) (mask := [[], [7], [7, 8], [7, 8, 10]]) (keys := [[], [89], [90, 89], [90, 89]]) (src := [[.base 8], [.op 0], [.base 0], [.base 9], [.op 2, .op 3], [.op 4], [.op 5], [.op 6], [.op 1], [.base 8], [.op 9]]) (z := z) (ef := fun p g => ([[], [(89, g.1)], [(90, g.2), (89, g.1)], [(90, g.2), (89, g.1)]] : List (List (Nat × Value))).getD p []) (hi := fun _ _ => I) (rs := fun p g => ([OwnSl c_api_Ways v3479 l3480 :: Bl q2627 140 (bigc x2625.1 x2625.2) :: Bl q4779 94 [(.int .i64 y3481), (.int .u64 (x2625.1 (y3481).toNat)), v4911, (.int .u64 x4777)] :: OwnSl (cInt .i64) v4911 l4912 :: r, OwnSl (cInt .i64) g.1 ([x5173.To]) :: OwnSl c_api_Ways v3479 l3480 :: Bl q2627 140 (bigc x2625.1 x2625.2) :: Bl q4779 94 [(.int .i64 y3481), (.int .u64 (x2625.1 (y3481).toNat)), v4911, (.int .u64 x4777)] :: OwnSl (cInt .i64) v4911 l4912 :: r, OwnSl (cInt .i64) g.2 l5176 :: OwnSl c_api_Ways v3479 l3480 :: Bl q2627 140 (bigc x2625.1 x2625.2) :: Bl q4779 94 [(.int .i64 y3481), (.int .u64 (x2625.1 (y3481).toNat)), v4911, (.int .u64 x4777)] :: r, Bl q4779 94 [(.int .i64 y3481), (.int .u64 (x2625.1 (y3481).toNat)), g.2, (.int .u64 x4777)] :: OwnSl (cInt .i64) g.2 l5176 :: OwnSl c_api_Ways v3479 l3480 :: Bl q2627 140 (bigc x2625.1 x2625.2) :: r] : List (List Asn)).getD p []) [(0, 0), (1, 0), (2, 0), (3, 0), (4, 0), (5, 0), (6, 0), (0, 1), (1, 1), (9, 2)] [(0, 7, 1), (1, 8, 2), (2, 10, 3)] [0, 1, 2, 3, 4, 5, 6, 9] 3 mo hE (undef, undef) rfl H (by kernel_rfl) (by kernel_rfl) (fun p g => by rcases p with _ | _ | _ | _ | p <;> rfl) ?_ ?_ (by kernel_rfl) (by kernel_rfl) ?_
                                      · exact ⟨by intro a w g hE H; obtain ⟨v5175, v5178⟩ := g; exact Dr.is H rfl (Dr.run rfl (d_fieldAddr fld94_2 hE rfl)),
    by intro a w g hE H; obtain ⟨v5175, v5178⟩ := g; exact Dr.is H rfl (Dr.run rfl (d_load sc51 hE rfl H 2 rfl rfl)),
    by intro a w g hE H; obtain ⟨v5175, v5178⟩ := g; exact Dr.is H rfl (Dr.run rfl (d_move hE rfl)),
    by intro a w g hE H; obtain ⟨v5175, v5178⟩ := g; exact Dr.is H rfl (Dr.run rfl (d_move hE rfl)),
    by intro a w g hE H; obtain ⟨v5175, v5178⟩ := g; exact Dr.is H rfl (Dr.run rfl (d_indexS sl55 hE rfl rfl H (Rd.cons (Rd.cons (Rd.cons (Rd.cons hr0)))) hx5174)),
    by intro a w g hE H; obtain ⟨v5175, v5178⟩ := g; exact Dr.is H rfl (Dr.run rfl (d_fieldAddr fld60_1 hE rfl)),
    by intro a w g hE H; obtain ⟨v5175, v5178⟩ := g; exact Dr.is H rfl (Dr.run rfl (d_loadSf (j := 1) sc3 hE rfl H (Rd.cons (Rd.cons (Rd.cons (Rd.cons hr0)))) hx5174 (fun _ _ e => by rw [e]; rfl))),
    by intro a w g hE H; obtain ⟨v5175, v5178⟩ := g; exact Dr.is H rfl (Dr.run rfl (d_fieldAddr fld94_2 hE rfl)),
    by intro a w g hE H; obtain ⟨v5175, v5178⟩ := g; exact Dr.is H rfl (Dr.run rfl (d_load sc51 hE rfl H 3 rfl rfl)),
    by intro a w g hE H; obtain ⟨v5175, v5178⟩ := g; exact Dr.is H rfl (Dr.run rfl (d_fieldAddr fld94_2 hE rfl)),
    trivial⟩
                                      · exact ⟨by intro a w g hE hF H; obtain ⟨v5175, v5178⟩ := g; refine (Dr.run rfl (d_lit (c := (cInt .i64)) (xs := [x5173.To]) hE rfl (lit51_1 _) rfl rfl (fun J h iJ s => rowsC (cs := [(.int .i64 x5173.To)]) rfl (rows0)) H)).mono fun v w hR => ?_; obtain ⟨v5175, rfl⟩ : ∃ x, x = v := ⟨v, rfl⟩; have H : St z I w (OwnSl (cInt .i64) v5175 ([x5173.To]) :: OwnSl c_api_Ways v3479 l3480 :: Bl q2627 140 (bigc x2625.1 x2625.2) :: Bl q4779 94 [(.int .i64 y3481), (.int .u64 (x2625.1 (y3481).toNat)), v4911, (.int .u64 x4777)] :: OwnSl (cInt .i64) v4911 l4912 :: r) := hR; exact ⟨(v5175, v5178), H, Dr.lkSub ⟨rfl, trivial⟩⟩,
    by intro a w g hE hF H; obtain ⟨v5175, v5178⟩ := g; have hE := Dr.env_both hE hF; have H := St.get H 4 rfl; have H : St z I w (OwnSl (cInt .i64) v4911 l4912 :: OwnSl (cInt .i64) v5175 ([x5173.To]) :: OwnSl c_api_Ways v3479 l3480 :: Bl q2627 140 (bigc x2625.1 x2625.2) :: Bl q4779 94 [(.int .i64 y3481), (.int .u64 (x2625.1 (y3481).toNat)), v4911, (.int .u64 x4777)] :: r) := H; refine (Dr.run rfl (d_appendO (lim := 17592186044416) el51 (by decide) (by decide) hE rfl rfl H ha5177)).mono fun v w hR => ?_; obtain ⟨v5178, rfl⟩ : ∃ x, x = v := ⟨v, rfl⟩; have H : St z I w (OwnSl (cInt .i64) v5178 l5176 :: OwnSl c_api_Ways v3479 l3480 :: Bl q2627 140 (bigc x2625.1 x2625.2) :: Bl q4779 94 [(.int .i64 y3481), (.int .u64 (x2625.1 (y3481).toNat)), v4911, (.int .u64 x4777)] :: r) := hR; exact ⟨(v5175, v5178), H, Dr.lkSub ⟨rfl, rfl, trivial⟩⟩,
    by intro a w g hE hF H; obtain ⟨v5175, v5178⟩ := g; have hE := Dr.env_both hE hF; have H := St.get H 3 rfl; refine (Dr.run rfl (d_store1 sc51 hE rfl rfl (one_slice (Rd.slice H (Rd.own 1 rfl))) H rfl)).mono fun v w hR => ?_; have H : St z I w (Bl q4779 94 [(.int .i64 y3481), (.int .u64 (x2625.1 (y3481).toNat)), v5178, (.int .u64 x4777)] :: OwnSl (cInt .i64) v5178 l5176 :: OwnSl c_api_Ways v3479 l3480 :: Bl q2627 140 (bigc x2625.1 x2625.2) :: r) := hR; exact ⟨(v5175, v5178), H, Dr.lkSub ⟨rfl, rfl, trivial⟩⟩,
    trivial⟩
                                      · intro a w g hE H
                                        obtain ⟨v5175, v5178⟩ := g
                                        have H : St z I w (Bl q4779 94 [(.int .i64 y3481), (.int .u64 (x2625.1 (y3481).toNat)), v5178, (.int .u64 x4777)] :: OwnSl (cInt .i64) v5178 l5176 :: OwnSl c_api_Ways v3479 l3480 :: Bl q2627 140 (bigc x2625.1 x2625.2) :: r) := H
                                        cases hm
                                        have H := St.get H 1 rfl
                                        have H := St.get H 1 rfl
                                        have H := St.get H 3 rfl
                                        have H := St.get H 3 rfl
                                        exact ⟨v5178, hE.sub ⟨rfl, rfl, rfl, rfl, rfl, rfl, rfl, trivial⟩, H⟩
                                    · rw [if_neg c5166] at hm
                                      refine cF hE rfl (b_f c5166) ?_
                                      refine wp_skip ?_
                                      cases hm
                                      exact ⟨v4911, hE.sub ⟨rfl, rfl, rfl, rfl, rfl, rfl, rfl, trivial⟩, H⟩
                                  · rintro a w ⟨v5163, hE, H⟩
                                    cases hm
                                    exact ⟨v5163, hE.sub ⟨rfl, rfl, rfl, rfl, rfl, rfl, rfl, trivial⟩, H⟩
                              · rw [if_neg c5121] at hm
                                refine cT hE rfl (not_t (decide_eq_false c5121)) ?_
                                refine wp_exit ?_
                                cases hm
                                exact ⟨v4911, hE.sub ⟨rfl, rfl, rfl, rfl, rfl, rfl, rfl, trivial⟩, H⟩
                            · rintro a w ⟨v5113, hE, H⟩
                              refine wp_region_lit ?_
                              refine s1 hE rfl (d_move hE rfl) fun a hE => ?_
                              refine s1 hE rfl (d_add hE rfl rfl) fun a hE => ?_
                              refine s1 hE rfl (d_assign hE rfl) fun a hE => ?_
                              refine wpList_nil ?_
                              exact ⟨k, Nat.lt_succ_self k, s5115, IntKind.i64.wrap (y4913 + 1), hm, v5113, hE.sub ⟨rfl, rfl, rfl, rfl, rfl, rfl, rfl, trivial⟩, H⟩
                          · rw [if_neg c5049] at hm
                            refine cF hE rfl (decide_eq_false c5049) ?_
                            refine wp_exit ?_
                            cases hm
                            exact ⟨v4911, hE.sub ⟨rfl, rfl, rfl, rfl, rfl, rfl, trivial⟩, H⟩
                      · have H := St.nil (c := (cInt .i64)) H none
                        have H := St.get H 1 rfl
                        have H := St.get H 3 rfl
                        have H := St.get H 3 rfl
                        exact ⟨[], 0, hj5047, (.slice none 0 0), hE.sub ⟨rfl, rfl, rfl, rfl, rfl, rfl, rfl, trivial⟩, H⟩
                    · rintro a w ⟨v5045, hE, H⟩
                      refine wp_region_lit ?_
                      refine s1 hE rfl (d_move hE rfl) fun a hE => ?_
                      refine s1 hE rfl (d_loadA ag94 hE rfl H 2 rfl rfl) fun a hE => ?_
                      have H := St.get H 3 rfl
                      have H := St.give H
                      have H : St z I w (ImR (cInt .i64) v5045 s5047 :: OwnSl c_api_Ways v3479 l3480 :: Bl q2627 140 (bigc x2625.1 x2625.2) :: Bl q4779 94 [(.int .i64 y3481), (.int .u64 (x2625.1 (y3481).toNat)), v5045, (.int .u64 x4777)] :: r) := H
                      refine s2 hE rfl (d_lit (c := c_api_Ways) (xs := [(⟨y3481, x2625.1 (y3481).toNat, s5047, x4777⟩ : S_api_Ways)]) hE rfl (lit87_1_v_v_v_v _ _ _ _) rfl rfl (fun J h iJ s => rowsC (cs := [(.int .i64 y3481), (.int .u64 (x2625.1 (y3481).toNat)), v5045, (.int .u64 x4777)]) ⟨_, rfl, (Sat.im s 0 rfl)⟩ (rows0)) H) fun a v w hR hE => ?_
                      obtain ⟨v5183, rfl⟩ : ∃ x, x = v := ⟨v, rfl⟩
                      have H : St z I w (OwnSl c_api_Ways v5183 ([(⟨y3481, x2625.1 (y3481).toNat, s5047, x4777⟩ : S_api_Ways)]) :: ImR (cInt .i64) v5045 s5047 :: OwnSl c_api_Ways v3479 l3480 :: Bl q2627 140 (bigc x2625.1 x2625.2) :: Bl q4779 94 [(.int .i64 y3481), (.int .u64 (x2625.1 (y3481).toNat)), v5045, (.int .u64 x4777)] :: r) := hR
                      obtain ⟨l5184, ha5185, hm⟩ := bnd hm
                      have H := St.get H 2 rfl
                      have H : St z I w (OwnSl c_api_Ways v3479 l3480 :: OwnSl c_api_Ways v5183 ([(⟨y3481, x2625.1 (y3481).toNat, s5047, x4777⟩ : S_api_Ways)]) :: ImR (cInt .i64) v5045 s5047 :: Bl q2627 140 (bigc x2625.1 x2625.2) :: Bl q4779 94 [(.int .i64 y3481), (.int .u64 (x2625.1 (y3481).toNat)), v5045, (.int .u64 x4777)] :: r) := H
                      refine s2 hE rfl (d_appendO (lim := 2932031007402) el87 (by decide) (by decide) hE rfl rfl H ha5185) fun a v w hR hE => ?_
                      obtain ⟨v5186, rfl⟩ : ∃ x, x = v := ⟨v, rfl⟩
                      have H : St z I w (OwnSl c_api_Ways v5186 l5184 :: ImR (cInt .i64) v5045 s5047 :: Bl q2627 140 (bigc x2625.1 x2625.2) :: Bl q4779 94 [(.int .i64 y3481), (.int .u64 (x2625.1 (y3481).toNat)), v5045, (.int .u64 x4777)] :: r) := hR
                      refine s1 hE rfl (d_assign hE rfl) fun a hE => ?_
                      refine wpList_nil ?_
                      cases hm
                      have H := St.get H 2 rfl
                      have H := St.get H 1 rfl
                      have H := St.del H 2
                      have H := St.del H 2
                      exact ⟨v5186, hE.sub ⟨rfl, rfl, rfl, rfl, rfl, trivial⟩, H⟩
                · rw [if_neg c4776] at hm; cases hm
          · rintro a w ⟨v4761, hE, H⟩
            refine wp_region_lit ?_
            refine s1 hE rfl (d_move hE rfl) fun a hE => ?_
            refine s1 hE rfl (d_add hE rfl rfl) fun a hE => ?_
            refine s1 hE rfl (d_assign hE rfl) fun a hE => ?_
            refine wpList_nil ?_
            exact ⟨k, Nat.lt_succ_self k, s4763, IntKind.i64.wrap (y3481 + 1), hm, v4761, hE.sub ⟨rfl, rfl, rfl, rfl, rfl, trivial⟩, H⟩
        · rw [if_neg c4337] at hm
          refine cF hE rfl (decide_eq_false c4337) ?_
          refine wp_exit ?_
          cases hm
          have H := St.del H 1
          exact ⟨v3479, hE.sub ⟨rfl, trivial⟩, H⟩
    · have H := St.get H 1 rfl
      exact ⟨[], 1, hj4335, v2621, hE.sub ⟨rfl, rfl, rfl, rfl, rfl, trivial⟩, H⟩
  · rintro a w ⟨v4333, hE, H⟩
    refine wp_seq ?_
    refine wp_region_lit ?_
    refine s1 hE rfl (d_move hE rfl) fun a hE => ?_
    refine s1 hE rfl (d_assign hE rfl) fun a hE => ?_
    refine wpList_nil ?_
    refine wp_ret ?_
    cases hm
    exact ret1 rfl hE rfl ⟨_, rfl, v4333, rfl, H⟩
end Go.Proofs.Ytbielnhpfbhkgaa
