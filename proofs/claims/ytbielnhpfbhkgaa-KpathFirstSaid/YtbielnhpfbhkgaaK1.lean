/- Functions and what their calls do, by program (gen.py). -/
import Derived.Test.YtbielnhpfbhkgaaK0
set_option linter.unusedVariables false
set_option linter.unusedSimpArgs false
namespace Go.Proofs.Ytbielnhpfbhkgaa
open Go Go.RowKit
def m43_l1 (a0 : List S_api_Path) (a1 : List S_api_Path) (y1538 : Int) : Nat → Int → Option (Out Bool Unit)
  | 0, _ => none
  | k + 1, y2174 => Option.bind (rdx a0 y1538) fun x2231 => if y2174 < (x2231.Nodes.length : Int) then (Option.bind (rdx a0 y1538) fun x2268 => Option.bind (rdx x2268.Nodes y2174) fun x2271 => Option.bind (rdx a1 y1538) fun x2273 => Option.bind (rdx x2273.Nodes y2174) fun x2276 => if x2271 = x2276 then (m43_l1 a0 a1 y1538 k (IntKind.i64.wrap (y2174 + 1))) else (some (.ret false))) else (some (.go ()))
def m43_l0 (a0 : List S_api_Path) (a1 : List S_api_Path) : Nat → Int → Option (Out Bool Unit)
  | 0, _ => none
  | k + 1, y1538 => if y1538 < (a0.length : Int) then (Option.bind (α := Bool) (Option.bind (rdx a0 y1538) fun x2109 => Option.bind (rdx a1 y1538) fun x2111 => if x2109.Cost = x2111.Cost then (Option.bind (rdx a0 y1538) fun x2114 => Option.bind (rdx a1 y1538) fun x2117 => some (!(decide ((x2114.Nodes.length : Int) = (x2117.Nodes.length : Int))))) else (some true)) fun s2108 => if s2108 = true then (some (.ret false)) else (Option.bind (m43_l1 a0 a1 y1538 k 0) fun s2227 => s2227.on (fun q_ => some (.ret q_)) fun s2227 => m43_l0 a0 a1 k (IntKind.i64.wrap (y1538 + 1)))) else (some (.go ()))
def m43 (k : Nat) (a0 : List S_api_Path) (a1 : List S_api_Path) : Option Bool := if (a0.length : Int) = (a1.length : Int) then (Option.bind (m43_l0 a0 a1 k 0) fun s1909 => s1909.on (fun q_ => some q_) fun s1909 => some true) else (some false)
set_option maxRecDepth 20000 in
set_option maxHeartbeats 4000000 in
theorem f43_ok (k : Nat) {u0 : Value} (a0 : List S_api_Path) {u1 : Value} (a1 : List S_api_Path) {res : Bool} (hm : m43 k a0 a1 = some res) {z w : World} {I : Hp} {r : List Asn} (hr0 : Rd c_api_Path I r u0 a0) (hr1 : Rd c_api_Path I r u1 a1) (H : St z I w (r)) :
    Calls Try.prog 43 #[u0, u1] w (Rt fun v w' => v = (.bool res) ∧ St z I w' (r)) := by
  unfold m43 at hm
  refine enter (args := [u0, u1]) Try.func43 rfl Try.ntmps43 rfl fun a hE => ?_
  refine wp_seq ?_
  refine wp_region_lit ?_
  refine s1 hE rfl (d_assign hE rfl) fun a hE => ?_
  refine wpList_nil ?_
  refine wp_seq ?_
  refine wp_seq ?_
  refine wp_region_lit ?_
  refine s1 hE rfl (d_move hE rfl) fun a hE => ?_
  refine s1 hE rfl (d_lenS Try.underlying74 hE rfl H hr0) fun a hE => ?_
  refine s1 hE rfl (d_move hE rfl) fun a hE => ?_
  refine s1 hE rfl (d_lenS Try.underlying74 hE rfl H hr1) fun a hE => ?_
  refine s1 hE rfl (d_neq hE rfl rfl) fun a hE => ?_
  refine wpList_nil ?_
  by_cases c1167 : (a0.length : Int) = (a1.length : Int)
  · rw [if_pos c1167] at hm
    refine cF hE rfl (not_f (decide_eq_true c1167)) ?_
    refine wp_skip ?_
    refine wp_seq ?_
    refine wp_seq ?_
    refine wp_region_lit ?_
    refine s1 hE rfl (d_assign hE rfl) fun a hE => ?_
    refine wpList_nil ?_
    obtain ⟨s1909, hj1909, hq1909⟩ := bnd hm
    refine cut2 (fun a w => ∃ s_ : Unit, s1909 = .go s_ ∧ Env a 71 [] ∧ St z I w (r)) ?_ ?_
    · refine wp_block ?_
      refine loopI (fun k a w => ∃ y1538 : Int, m43_l0 a0 a1 k y1538 = some s1909 ∧ Env a 71 [(0, u0), (1, u1), (5, (.int .i64 y1538))] ∧ St z I w (r)) ?_ k _ _ ?_
      · rintro k a w ⟨y1538, hm, hE, H⟩
        cases k with
        | zero => rw [m43_l0] at hm; cases hm
        | succ k =>
          rw [m43_l0] at hm
          refine wp_seq ?_
          refine wp_seq ?_
          refine wp_region_lit ?_
          refine s1 hE rfl (d_move hE rfl) fun a hE => ?_
          refine s1 hE rfl (d_move hE rfl) fun a hE => ?_
          refine s1 hE rfl (d_lenS Try.underlying74 hE rfl H hr0) fun a hE => ?_
          refine s1 hE rfl (d_lss hE rfl rfl) fun a hE => ?_
          refine wpList_nil ?_
          by_cases c1911 : y1538 < (a0.length : Int)
          · rw [if_pos c1911] at hm
            refine cT hE rfl (decide_eq_true c1911) ?_
            refine wp_skip ?_
            refine wp_seq ?_
            refine wp_block ?_
            refine wp_seq ?_
            refine wp_seq ?_
            obtain ⟨s2108, hj2108, hm⟩ := bnd hm
            refine cut2 (fun a w => Env a 71 [(0, u0), (1, u1), (5, (.int .i64 y1538)), (43, (.bool s2108))] ∧ St z I w (r)) ?_ ?_
            · have hm := hj2108
              obtain ⟨x2109, hx2110, hm⟩ := bnd hm
              obtain ⟨x2111, hx2112, hm⟩ := bnd hm
              by_cases c2113 : x2109.Cost = x2111.Cost
              · rw [if_pos c2113] at hm
                obtain ⟨x2114, hx2115, hm⟩ := bnd hm
                obtain ⟨x2117, hx2118, hm⟩ := bnd hm
                refine Dr.region (γ := Value × Value) (pre := [[], [], [0, 1], [0, 1, 2], [0, 1, 2, 3], [], [], [5, 6], [5, 6, 7], [5, 6, 7, 8], [0, 1, 2, 3, 4, 5, 6, 7, 8, 9], [0, 1, 2, 3, 4, 5, 6, 7, 8, 9, 10], [0, 1, 2, 3, 4, 5, 6, 7, 8, 9, 10, 11], [0, 1, 2, 3, 4, 5, 6, 7, 8, 9, 10, 11], [0, 1, 2, 3, 4, 5, 6, 7, 8, 9, 10, 11, 12, 13], [0, 1, 2, 3, 4, 5, 6, 7, 8, 9, 10, 11, 12, 13, 14], [0, 1, 2, 3, 4, 5, 6, 7, 8, 9, 10, 11, 12, 13, 14, 15], [0, 1, 2, 3, 4, 5, 6, 7, 8, 9, 10, 11, 12, 13, 14, 15, 16], [0, 1, 2, 3, 4, 5, 6, 7, 8, 9, 10, 11], [0, 1, 2, 3, 4, 5, 6, 7, 8, 9, 10, 11], [0, 1, 2, 3, 4, 5, 6, 7, 8, 9, 10, 11, 18, 19], [0, 1, 2, 3, 4, 5, 6, 7, 8, 9, 10, 11, 18, 19, 20], [0, 1, 2, 3, 4, 5, 6, 7, 8, 9, 10, 11, 18, 19, 20, 21], [0, 1, 2, 3, 4, 5, 6, 7, 8, 9, 10, 11, 18, 19, 20, 21, 22], [0, 1, 2, 3, 4, 5, 6, 7, 8, 9, 10, 11, 12, 13, 14, 15, 16, 17, 18, 19, 20, 21, 22, 23], [0, 1, 2, 3, 4, 5, 6, 7, 8, 9, 10, 11, 12, 13, 14, 15, 16, 17, 18, 19, 20, 21, 22, 23, 24]]) (val := [some u0, some (.int .i64 y1538), some (.pointer (some (ad (sb u0) (so u0 + (Int.toNat y1538) * c_api_Path.n)))), some (.pointer (some (ad (sb u0) (so u0 + (Int.toNat y1538) * c_api_Path.n + 1)))), some (.int .u64 x2109.Cost), some u1, some (.int .i64 y1538), some (.pointer (some (ad (sb u1) (so u1 + (Int.toNat y1538) * c_api_Path.n)))), some (.pointer (some (ad (sb u1) (so u1 + (Int.toNat y1538) * c_api_Path.n + 1)))), some (.int .u64 x2111.Cost), some (.bool (!(decide (x2109.Cost = x2111.Cost)))), some (.bool (!(decide (x2109.Cost = x2111.Cost)))), some u0, some (.int .i64 y1538), some (.pointer (some (ad (sb u0) (so u0 + (Int.toNat y1538) * c_api_Path.n)))), some (.pointer (some (ad (sb u0) (so u0 + (Int.toNat y1538) * c_api_Path.n + 0)))), none, none, some u1, some (.int .i64 y1538), some (.pointer (some (ad (sb u1) (so u1 + (Int.toNat y1538) * c_api_Path.n)))), some (.pointer (some (ad (sb u1) (so u1 + (Int.toNat y1538) * c_api_Path.n + 0)))), none, none, none, none]) (eff := [16, 17, 22, 23, 24, 25]) (mask := [[], [16], [22], [16, 17], [16, 22], [22, 23], [16, 17, 22], [16, 22, 23], [16, 17, 22, 23], [16, 17, 22, 23, 24], [16, 17, 22, 23, 24, 25]]) (keys := [[], [34], [40], [35, 34], [40, 34], [41, 40], [40, 35, 34], [41, 40, 34], [41, 40, 35, 34], [42, 41, 40, 35, 34], [43, 42, 41, 40, 35, 34]]) (src := [[.base 0], [.base 5], [.op 0, .op 1], [.op 2], [.op 3], [.base 1], [.base 5], [.op 5, .op 6], [.op 7], [.op 8], [.op 4, .op 9], [.op 10], [.base 0, .op 11], [.base 5, .op 11], [.op 11, .op 12, .op 13], [.op 11, .op 14], [.op 11, .op 15], [.op 11], [.base 1, .op 11], [.base 5, .op 11], [.op 11, .op 18, .op 19], [.op 11, .op 20], [.op 11, .op 21], [.op 11], [.op 11], [.op 11]]) (z := z) (ef := fun p g => ([[], [(34, g.1)], [(40, g.2)], [(35, (.int .i64 (x2114.Nodes.length : Int))), (34, g.1)], [(40, g.2), (34, g.1)], [(41, (.int .i64 (x2117.Nodes.length : Int))), (40, g.2)], [(40, g.2), (35, (.int .i64 (x2114.Nodes.length : Int))), (34, g.1)], [(41, (.int .i64 (x2117.Nodes.length : Int))), (40, g.2), (34, g.1)], [(41, (.int .i64 (x2117.Nodes.length : Int))), (40, g.2), (35, (.int .i64 (x2114.Nodes.length : Int))), (34, g.1)], [(42, (.bool (!(decide ((x2114.Nodes.length : Int) = (x2117.Nodes.length : Int)))))), (41, (.int .i64 (x2117.Nodes.length : Int))), (40, g.2), (35, (.int .i64 (x2114.Nodes.length : Int))), (34, g.1)], [(43, (.bool (!(decide ((x2114.Nodes.length : Int) = (x2117.Nodes.length : Int)))))), (42, (.bool (!(decide ((x2114.Nodes.length : Int) = (x2117.Nodes.length : Int)))))), (41, (.int .i64 (x2117.Nodes.length : Int))), (40, g.2), (35, (.int .i64 (x2114.Nodes.length : Int))), (34, g.1)]] : List (List (Nat × Value))).getD p []) (hi := fun _ _ => I) (rs := fun p g => ([r, ImR (cInt .i64) g.1 x2114.Nodes :: r, ImR (cInt .i64) g.2 x2117.Nodes :: r, ImR (cInt .i64) g.1 x2114.Nodes :: r, ImR (cInt .i64) g.2 x2117.Nodes :: ImR (cInt .i64) g.1 x2114.Nodes :: r, ImR (cInt .i64) g.2 x2117.Nodes :: r, ImR (cInt .i64) g.2 x2117.Nodes :: ImR (cInt .i64) g.1 x2114.Nodes :: r, ImR (cInt .i64) g.2 x2117.Nodes :: ImR (cInt .i64) g.1 x2114.Nodes :: r, ImR (cInt .i64) g.2 x2117.Nodes :: ImR (cInt .i64) g.1 x2114.Nodes :: r, ImR (cInt .i64) g.2 x2117.Nodes :: ImR (cInt .i64) g.1 x2114.Nodes :: r, ImR (cInt .i64) g.2 x2117.Nodes :: ImR (cInt .i64) g.1 x2114.Nodes :: r] : List (List Asn)).getD p []) [(0, 0), (1, 0), (2, 0), (3, 0), (4, 0), (5, 0), (6, 0), (7, 0), (8, 0), (9, 0), (10, 0), (11, 0), (12, 0), (13, 0), (14, 0), (15, 0), (18, 0), (19, 0), (20, 0), (21, 0), (18, 1), (19, 1), (20, 1), (21, 1), (12, 2), (13, 2), (14, 2), (15, 2), (18, 3), (19, 3), (20, 3), (21, 3), (12, 5), (13, 5), (14, 5), (15, 5)] [(0, 16, 1), (0, 22, 2), (1, 17, 3), (1, 22, 4), (2, 16, 4), (2, 23, 5), (3, 22, 6), (4, 17, 6), (4, 23, 7), (5, 16, 7), (6, 23, 8), (7, 17, 8), (8, 24, 9), (9, 25, 10)] [0, 1, 2, 3, 4, 5, 6, 7, 8, 9, 10, 11, 12, 13, 14, 15, 18, 19, 20, 21] 10 mo hE (undef, undef) rfl H (by kernel_rfl) (by kernel_rfl) (fun p g => by rcases p with _ | _ | _ | _ | _ | _ | _ | _ | _ | _ | _ | p <;> rfl) ?_ ?_ (by kernel_rfl) (by kernel_rfl) ?_
                · exact ⟨by intro a w g hE H; obtain ⟨v2116, v2119⟩ := g; exact Dr.is H rfl (Dr.run rfl (d_move hE rfl)),
    by intro a w g hE H; obtain ⟨v2116, v2119⟩ := g; exact Dr.is H rfl (Dr.run rfl (d_move hE rfl)),
    by intro a w g hE H; obtain ⟨v2116, v2119⟩ := g; exact Dr.is H rfl (Dr.run rfl (d_indexS sl74 hE rfl rfl H hr0 hx2110)),
    by intro a w g hE H; obtain ⟨v2116, v2119⟩ := g; exact Dr.is H rfl (Dr.run rfl (d_fieldAddr fld102_1 hE rfl)),
    by intro a w g hE H; obtain ⟨v2116, v2119⟩ := g; exact Dr.is H rfl (Dr.run rfl (d_loadSf (j := 1) sc61 hE rfl H hr0 hx2110 (fun _ _ e => by obtain ⟨_, rfl, _⟩ := e; rfl))),
    by intro a w g hE H; obtain ⟨v2116, v2119⟩ := g; exact Dr.is H rfl (Dr.run rfl (d_move hE rfl)),
    by intro a w g hE H; obtain ⟨v2116, v2119⟩ := g; exact Dr.is H rfl (Dr.run rfl (d_move hE rfl)),
    by intro a w g hE H; obtain ⟨v2116, v2119⟩ := g; exact Dr.is H rfl (Dr.run rfl (d_indexS sl74 hE rfl rfl H hr1 hx2112)),
    by intro a w g hE H; obtain ⟨v2116, v2119⟩ := g; exact Dr.is H rfl (Dr.run rfl (d_fieldAddr fld102_1 hE rfl)),
    by intro a w g hE H; obtain ⟨v2116, v2119⟩ := g; exact Dr.is H rfl (Dr.run rfl (d_loadSf (j := 1) sc61 hE rfl H hr1 hx2112 (fun _ _ e => by obtain ⟨_, rfl, _⟩ := e; rfl))),
    by intro a w g hE H; obtain ⟨v2116, v2119⟩ := g; exact Dr.is H rfl (Dr.run rfl (d_neq hE rfl rfl)),
    by intro a w g hE H; obtain ⟨v2116, v2119⟩ := g; exact Dr.is H rfl (Dr.run rfl (d_move hE rfl)),
    by intro a w g hE H; obtain ⟨v2116, v2119⟩ := g; exact Dr.is H rfl (Dr.rG rfl hE rfl rfl (not_f (decide_eq_true c2113)) (d_move hE rfl)),
    by intro a w g hE H; obtain ⟨v2116, v2119⟩ := g; exact Dr.is H rfl (Dr.rG rfl hE rfl rfl (not_f (decide_eq_true c2113)) (d_move hE rfl)),
    by intro a w g hE H; obtain ⟨v2116, v2119⟩ := g; exact Dr.is H rfl (Dr.rG rfl hE rfl rfl (not_f (decide_eq_true c2113)) (d_indexS sl74 hE rfl rfl H hr0 hx2115)),
    by intro a w g hE H; obtain ⟨v2116, v2119⟩ := g; exact Dr.is H rfl (Dr.rG rfl hE rfl rfl (not_f (decide_eq_true c2113)) (d_fieldAddr fld102_0 hE rfl)),
    by intro a w g hE H; obtain ⟨v2116, v2119⟩ := g; exact Dr.is H rfl (Dr.rG rfl hE rfl rfl (not_f (decide_eq_true c2113)) (d_move hE rfl)),
    by intro a w g hE H; obtain ⟨v2116, v2119⟩ := g; exact Dr.is H rfl (Dr.rG rfl hE rfl rfl (not_f (decide_eq_true c2113)) (d_move hE rfl)),
    by intro a w g hE H; obtain ⟨v2116, v2119⟩ := g; exact Dr.is H rfl (Dr.rG rfl hE rfl rfl (not_f (decide_eq_true c2113)) (d_indexS sl74 hE rfl rfl H hr1 hx2118)),
    by intro a w g hE H; obtain ⟨v2116, v2119⟩ := g; exact Dr.is H rfl (Dr.rG rfl hE rfl rfl (not_f (decide_eq_true c2113)) (d_fieldAddr fld102_0 hE rfl)),
    by intro a w g hE H; obtain ⟨v2116, v2119⟩ := g; exact Dr.is H rfl (Dr.rG rfl hE rfl rfl (not_f (decide_eq_true c2113)) (d_move hE rfl)),
    by intro a w g hE H; obtain ⟨v2116, v2119⟩ := g; exact Dr.is H rfl (Dr.rG rfl hE rfl rfl (not_f (decide_eq_true c2113)) (d_move hE rfl)),
    by intro a w g hE H; obtain ⟨v2116, v2119⟩ := g; exact Dr.is H rfl (Dr.rG rfl hE rfl rfl (not_f (decide_eq_true c2113)) (d_indexS sl74 hE rfl rfl H (Rd.cons hr1) hx2118)),
    by intro a w g hE H; obtain ⟨v2116, v2119⟩ := g; exact Dr.is H rfl (Dr.rG rfl hE rfl rfl (not_f (decide_eq_true c2113)) (d_fieldAddr fld102_0 hE rfl)),
    by intro a w g hE H; obtain ⟨v2116, v2119⟩ := g; exact Dr.is H rfl (Dr.rG rfl hE rfl rfl (not_f (decide_eq_true c2113)) (d_move hE rfl)),
    by intro a w g hE H; obtain ⟨v2116, v2119⟩ := g; exact Dr.is H rfl (Dr.rG rfl hE rfl rfl (not_f (decide_eq_true c2113)) (d_move hE rfl)),
    by intro a w g hE H; obtain ⟨v2116, v2119⟩ := g; exact Dr.is H rfl (Dr.rG rfl hE rfl rfl (not_f (decide_eq_true c2113)) (d_indexS sl74 hE rfl rfl H (Rd.cons hr0) hx2115)),
    by intro a w g hE H; obtain ⟨v2116, v2119⟩ := g; exact Dr.is H rfl (Dr.rG rfl hE rfl rfl (not_f (decide_eq_true c2113)) (d_fieldAddr fld102_0 hE rfl)),
    by intro a w g hE H; obtain ⟨v2116, v2119⟩ := g; exact Dr.is H rfl (Dr.rG rfl hE rfl rfl (not_f (decide_eq_true c2113)) (d_move hE rfl)),
    by intro a w g hE H; obtain ⟨v2116, v2119⟩ := g; exact Dr.is H rfl (Dr.rG rfl hE rfl rfl (not_f (decide_eq_true c2113)) (d_move hE rfl)),
    by intro a w g hE H; obtain ⟨v2116, v2119⟩ := g; exact Dr.is H rfl (Dr.rG rfl hE rfl rfl (not_f (decide_eq_true c2113)) (d_indexS sl74 hE rfl rfl H (Rd.cons hr1) hx2118)),
    by intro a w g hE H; obtain ⟨v2116, v2119⟩ := g; exact Dr.is H rfl (Dr.rG rfl hE rfl rfl (not_f (decide_eq_true c2113)) (d_fieldAddr fld102_0 hE rfl)),
    by intro a w g hE H; obtain ⟨v2116, v2119⟩ := g; exact Dr.is H rfl (Dr.rG rfl hE rfl rfl (not_f (decide_eq_true c2113)) (d_move hE rfl)),
    by intro a w g hE H; obtain ⟨v2116, v2119⟩ := g; exact Dr.is H rfl (Dr.rG rfl hE rfl rfl (not_f (decide_eq_true c2113)) (d_move hE rfl)),
    by intro a w g hE H; obtain ⟨v2116, v2119⟩ := g; exact Dr.is H rfl (Dr.rG rfl hE rfl rfl (not_f (decide_eq_true c2113)) (d_indexS sl74 hE rfl rfl H (Rd.cons hr0) hx2115)),
    by intro a w g hE H; obtain ⟨v2116, v2119⟩ := g; exact Dr.is H rfl (Dr.rG rfl hE rfl rfl (not_f (decide_eq_true c2113)) (d_fieldAddr fld102_0 hE rfl)),
    trivial⟩
                · exact ⟨by intro a w g hE hF H; obtain ⟨v2116, v2119⟩ := g; refine (Dr.rG rfl hE rfl rfl (not_f (decide_eq_true c2113)) (d_loadSfR (c := c_api_Path) (j := 0) (Q := fun V => ImR (cInt .i64) V x2114.Nodes) sc51 hE rfl H hr0 hx2115 (fun _ _ e => by obtain ⟨V0, rfl, h0⟩ := e; exact ⟨_, rfl, h0⟩))).mono fun v w hR => ?_; obtain ⟨v2116, rfl⟩ : ∃ x, x = v := ⟨v, rfl⟩; have H : St z I w (ImR (cInt .i64) v2116 x2114.Nodes :: r) := hR; exact ⟨(v2116, v2119), H, Dr.lkSub ⟨rfl, trivial⟩⟩,
    by intro a w g hE hF H; obtain ⟨v2116, v2119⟩ := g; refine (Dr.rG rfl hE rfl rfl (not_f (decide_eq_true c2113)) (d_loadSfR (c := c_api_Path) (j := 0) (Q := fun V => ImR (cInt .i64) V x2117.Nodes) sc51 hE rfl H hr1 hx2118 (fun _ _ e => by obtain ⟨V0, rfl, h0⟩ := e; exact ⟨_, rfl, h0⟩))).mono fun v w hR => ?_; obtain ⟨v2119, rfl⟩ : ∃ x, x = v := ⟨v, rfl⟩; have H : St z I w (ImR (cInt .i64) v2119 x2117.Nodes :: r) := hR; exact ⟨(v2116, v2119), H, Dr.lkSub ⟨rfl, trivial⟩⟩,
    by intro a w g hE hF H; obtain ⟨v2116, v2119⟩ := g; have hE := Dr.env_both hE hF; refine (Dr.rG rfl hE rfl rfl (not_f (decide_eq_true c2113)) (d_lenS Try.underlying51 hE rfl H (Rd.im 0 rfl))).mono fun v w' hR => ?_; obtain ⟨hv_, rfl⟩ := hR; have hv_ := hv_.symm; subst hv_; exact ⟨(v2116, v2119), H, Dr.lkSub ⟨rfl, rfl, trivial⟩⟩,
    by intro a w g hE hF H; obtain ⟨v2116, v2119⟩ := g; refine (Dr.rG rfl hE rfl rfl (not_f (decide_eq_true c2113)) (d_loadSfR (c := c_api_Path) (j := 0) (Q := fun V => ImR (cInt .i64) V x2117.Nodes) sc51 hE rfl H (Rd.cons hr1) hx2118 (fun _ _ e => by obtain ⟨V0, rfl, h0⟩ := e; exact ⟨_, rfl, h0⟩))).mono fun v w hR => ?_; obtain ⟨v2119, rfl⟩ : ∃ x, x = v := ⟨v, rfl⟩; have H : St z I w (ImR (cInt .i64) v2119 x2117.Nodes :: ImR (cInt .i64) v2116 x2114.Nodes :: r) := hR; exact ⟨(v2116, v2119), H, Dr.lkSub ⟨rfl, rfl, trivial⟩⟩,
    by intro a w g hE hF H; obtain ⟨v2116, v2119⟩ := g; refine (Dr.rG rfl hE rfl rfl (not_f (decide_eq_true c2113)) (d_loadSfR (c := c_api_Path) (j := 0) (Q := fun V => ImR (cInt .i64) V x2114.Nodes) sc51 hE rfl H (Rd.cons hr0) hx2115 (fun _ _ e => by obtain ⟨V0, rfl, h0⟩ := e; exact ⟨_, rfl, h0⟩))).mono fun v w hR => ?_; obtain ⟨v2116, rfl⟩ : ∃ x, x = v := ⟨v, rfl⟩; have H : St z I w (ImR (cInt .i64) v2116 x2114.Nodes :: ImR (cInt .i64) v2119 x2117.Nodes :: r) := hR; have H := St.get H 1 rfl; exact ⟨(v2116, v2119), H, Dr.lkSub ⟨rfl, rfl, trivial⟩⟩,
    by intro a w g hE hF H; obtain ⟨v2116, v2119⟩ := g; have hE := Dr.env_both hE hF; refine (Dr.rG rfl hE rfl rfl (not_f (decide_eq_true c2113)) (d_lenS Try.underlying51 hE rfl H (Rd.im 0 rfl))).mono fun v w' hR => ?_; obtain ⟨hv_, rfl⟩ := hR; have hv_ := hv_.symm; subst hv_; exact ⟨(v2116, v2119), H, Dr.lkSub ⟨rfl, rfl, trivial⟩⟩,
    by intro a w g hE hF H; obtain ⟨v2116, v2119⟩ := g; refine (Dr.rG rfl hE rfl rfl (not_f (decide_eq_true c2113)) (d_loadSfR (c := c_api_Path) (j := 0) (Q := fun V => ImR (cInt .i64) V x2117.Nodes) sc51 hE rfl H (Rd.cons hr1) hx2118 (fun _ _ e => by obtain ⟨V0, rfl, h0⟩ := e; exact ⟨_, rfl, h0⟩))).mono fun v w hR => ?_; obtain ⟨v2119, rfl⟩ : ∃ x, x = v := ⟨v, rfl⟩; have H : St z I w (ImR (cInt .i64) v2119 x2117.Nodes :: ImR (cInt .i64) v2116 x2114.Nodes :: r) := hR; exact ⟨(v2116, v2119), H, Dr.lkSub ⟨rfl, rfl, rfl, trivial⟩⟩,
    by intro a w g hE hF H; obtain ⟨v2116, v2119⟩ := g; have hE := Dr.env_both hE hF; refine (Dr.rG rfl hE rfl rfl (not_f (decide_eq_true c2113)) (d_lenS Try.underlying51 hE rfl H (Rd.im 1 rfl))).mono fun v w' hR => ?_; obtain ⟨hv_, rfl⟩ := hR; have hv_ := hv_.symm; subst hv_; exact ⟨(v2116, v2119), H, Dr.lkSub ⟨rfl, rfl, rfl, trivial⟩⟩,
    by intro a w g hE hF H; obtain ⟨v2116, v2119⟩ := g; have hE := Dr.env_both hE hF; refine (Dr.rG rfl hE rfl rfl (not_f (decide_eq_true c2113)) (d_lenS Try.underlying51 hE rfl H (Rd.im 0 rfl))).mono fun v w' hR => ?_; obtain ⟨hv_, rfl⟩ := hR; have hv_ := hv_.symm; subst hv_; exact ⟨(v2116, v2119), H, Dr.lkSub ⟨rfl, rfl, rfl, trivial⟩⟩,
    by intro a w g hE hF H; obtain ⟨v2116, v2119⟩ := g; refine (Dr.rG rfl hE rfl rfl (not_f (decide_eq_true c2113)) (d_loadSfR (c := c_api_Path) (j := 0) (Q := fun V => ImR (cInt .i64) V x2114.Nodes) sc51 hE rfl H (Rd.cons hr0) hx2115 (fun _ _ e => by obtain ⟨V0, rfl, h0⟩ := e; exact ⟨_, rfl, h0⟩))).mono fun v w hR => ?_; obtain ⟨v2116, rfl⟩ : ∃ x, x = v := ⟨v, rfl⟩; have H : St z I w (ImR (cInt .i64) v2116 x2114.Nodes :: ImR (cInt .i64) v2119 x2117.Nodes :: r) := hR; have H := St.get H 1 rfl; exact ⟨(v2116, v2119), H, Dr.lkSub ⟨rfl, rfl, rfl, trivial⟩⟩,
    by intro a w g hE hF H; obtain ⟨v2116, v2119⟩ := g; have hE := Dr.env_both hE hF; refine (Dr.rG rfl hE rfl rfl (not_f (decide_eq_true c2113)) (d_lenS Try.underlying51 hE rfl H (Rd.im 0 rfl))).mono fun v w' hR => ?_; obtain ⟨hv_, rfl⟩ := hR; have hv_ := hv_.symm; subst hv_; exact ⟨(v2116, v2119), H, Dr.lkSub ⟨rfl, rfl, rfl, rfl, trivial⟩⟩,
    by intro a w g hE hF H; obtain ⟨v2116, v2119⟩ := g; have hE := Dr.env_both hE hF; refine (Dr.rG rfl hE rfl rfl (not_f (decide_eq_true c2113)) (d_lenS Try.underlying51 hE rfl H (Rd.im 1 rfl))).mono fun v w' hR => ?_; obtain ⟨hv_, rfl⟩ := hR; have hv_ := hv_.symm; subst hv_; exact ⟨(v2116, v2119), H, Dr.lkSub ⟨rfl, rfl, rfl, rfl, trivial⟩⟩,
    by intro a w g hE hF H; obtain ⟨v2116, v2119⟩ := g; have hE := Dr.env_both hE hF; refine (Dr.rG rfl hE rfl rfl (not_f (decide_eq_true c2113)) (d_neq hE rfl rfl)).mono fun v w' hR => ?_; obtain ⟨hv_, rfl⟩ := hR; have hv_ := hv_.symm; subst hv_; exact ⟨(v2116, v2119), H, Dr.lkSub ⟨rfl, rfl, rfl, rfl, rfl, trivial⟩⟩,
    by intro a w g hE hF H; obtain ⟨v2116, v2119⟩ := g; have hE := Dr.env_both hE hF; refine (Dr.run rfl (d_pF hE rfl (not_f (decide_eq_true c2113)) rfl)).mono fun v w' hR => ?_; obtain ⟨hv_, rfl⟩ := hR; have hv_ := hv_.symm; subst hv_; exact ⟨(v2116, v2119), H, Dr.lkSub ⟨rfl, rfl, rfl, rfl, rfl, rfl, trivial⟩⟩,
    trivial⟩
                · intro a w g hE H
                  obtain ⟨v2116, v2119⟩ := g
                  have H : St z I w (ImR (cInt .i64) v2119 x2117.Nodes :: ImR (cInt .i64) v2116 x2114.Nodes :: r) := H
                  cases hm
                  have H := St.del H 0
                  have H := St.del H 0
                  exact ⟨hE.sub ⟨rfl, rfl, rfl, rfl, trivial⟩, H⟩
              · rw [if_neg c2113] at hm
                refine Dr.region (γ := Unit) (pre := [[], [], [0, 1], [0, 1, 2], [0, 1, 2, 3], [], [], [5, 6], [5, 6, 7], [5, 6, 7, 8], [0, 1, 2, 3, 4, 5, 6, 7, 8, 9], [0, 1, 2, 3, 4, 5, 6, 7, 8, 9, 10], [0, 1, 2, 3, 4, 5, 6, 7, 8, 9, 10, 11], [0, 1, 2, 3, 4, 5, 6, 7, 8, 9, 10, 11], [0, 1, 2, 3, 4, 5, 6, 7, 8, 9, 10, 11, 12, 13], [0, 1, 2, 3, 4, 5, 6, 7, 8, 9, 10, 11, 12, 13, 14], [0, 1, 2, 3, 4, 5, 6, 7, 8, 9, 10, 11, 12, 13, 14, 15], [0, 1, 2, 3, 4, 5, 6, 7, 8, 9, 10, 11, 12, 13, 14, 15, 16], [0, 1, 2, 3, 4, 5, 6, 7, 8, 9, 10, 11], [0, 1, 2, 3, 4, 5, 6, 7, 8, 9, 10, 11], [0, 1, 2, 3, 4, 5, 6, 7, 8, 9, 10, 11, 18, 19], [0, 1, 2, 3, 4, 5, 6, 7, 8, 9, 10, 11, 18, 19, 20], [0, 1, 2, 3, 4, 5, 6, 7, 8, 9, 10, 11, 18, 19, 20, 21], [0, 1, 2, 3, 4, 5, 6, 7, 8, 9, 10, 11, 18, 19, 20, 21, 22], [0, 1, 2, 3, 4, 5, 6, 7, 8, 9, 10, 11, 12, 13, 14, 15, 16, 17, 18, 19, 20, 21, 22, 23], [0, 1, 2, 3, 4, 5, 6, 7, 8, 9, 10, 11, 12, 13, 14, 15, 16, 17, 18, 19, 20, 21, 22, 23, 24]]) (val := [some u0, some (.int .i64 y1538), some (.pointer (some (ad (sb u0) (so u0 + (Int.toNat y1538) * c_api_Path.n)))), some (.pointer (some (ad (sb u0) (so u0 + (Int.toNat y1538) * c_api_Path.n + 1)))), some (.int .u64 x2109.Cost), some u1, some (.int .i64 y1538), some (.pointer (some (ad (sb u1) (so u1 + (Int.toNat y1538) * c_api_Path.n)))), some (.pointer (some (ad (sb u1) (so u1 + (Int.toNat y1538) * c_api_Path.n + 1)))), some (.int .u64 x2111.Cost), some (.bool (!(decide (x2109.Cost = x2111.Cost)))), some (.bool (!(decide (x2109.Cost = x2111.Cost)))), some undef, some undef, some undef, some undef, some undef, some undef, some undef, some undef, some undef, some undef, some undef, some undef, some undef, some (.bool true)]) (eff := []) (mask := [[]]) (keys := [[]]) (src := [[.base 0], [.base 5], [.op 0, .op 1], [.op 2], [.op 3], [.base 1], [.base 5], [.op 5, .op 6], [.op 7], [.op 8], [.op 4, .op 9], [.op 10], [.base 0, .op 11], [.base 5, .op 11], [.op 11, .op 12, .op 13], [.op 11, .op 14], [.op 11, .op 15], [.op 11, .op 16], [.base 1, .op 11], [.base 5, .op 11], [.op 11, .op 18, .op 19], [.op 11, .op 20], [.op 11, .op 21], [.op 11, .op 22], [.op 11, .op 17, .op 23], [.op 11, .op 24]]) (z := z) (ef := fun p g => ([[]] : List (List (Nat × Value))).getD p []) (hi := fun _ _ => I) (rs := fun p g => ([r] : List (List Asn)).getD p []) [(0, 0), (1, 0), (2, 0), (3, 0), (4, 0), (5, 0), (6, 0), (7, 0), (8, 0), (9, 0), (10, 0), (11, 0), (12, 0), (13, 0), (14, 0), (15, 0), (16, 0), (17, 0), (18, 0), (19, 0), (20, 0), (21, 0), (22, 0), (23, 0), (24, 0), (25, 0)] [] [0, 1, 2, 3, 4, 5, 6, 7, 8, 9, 10, 11, 12, 13, 14, 15, 16, 17, 18, 19, 20, 21, 22, 23, 24, 25] 0 mo hE () rfl H (by kernel_rfl) (by kernel_rfl) (fun p g => by cases p <;> rfl) ?_ ?_ (by kernel_rfl) (by kernel_rfl) ?_
                · exact ⟨by intro a w g hE H; exact Dr.is H rfl (Dr.run rfl (d_move hE rfl)),
    by intro a w g hE H; exact Dr.is H rfl (Dr.run rfl (d_move hE rfl)),
    by intro a w g hE H; exact Dr.is H rfl (Dr.run rfl (d_indexS sl74 hE rfl rfl H hr0 hx2110)),
    by intro a w g hE H; exact Dr.is H rfl (Dr.run rfl (d_fieldAddr fld102_1 hE rfl)),
    by intro a w g hE H; exact Dr.is H rfl (Dr.run rfl (d_loadSf (j := 1) sc61 hE rfl H hr0 hx2110 (fun _ _ e => by obtain ⟨_, rfl, _⟩ := e; rfl))),
    by intro a w g hE H; exact Dr.is H rfl (Dr.run rfl (d_move hE rfl)),
    by intro a w g hE H; exact Dr.is H rfl (Dr.run rfl (d_move hE rfl)),
    by intro a w g hE H; exact Dr.is H rfl (Dr.run rfl (d_indexS sl74 hE rfl rfl H hr1 hx2112)),
    by intro a w g hE H; exact Dr.is H rfl (Dr.run rfl (d_fieldAddr fld102_1 hE rfl)),
    by intro a w g hE H; exact Dr.is H rfl (Dr.run rfl (d_loadSf (j := 1) sc61 hE rfl H hr1 hx2112 (fun _ _ e => by obtain ⟨_, rfl, _⟩ := e; rfl))),
    by intro a w g hE H; exact Dr.is H rfl (Dr.run rfl (d_neq hE rfl rfl)),
    by intro a w g hE H; exact Dr.is H rfl (Dr.run rfl (d_move hE rfl)),
    by intro a w g hE H; exact Dr.is H rfl (Dr.pG rfl hE rfl rfl (not_t (decide_eq_false c2113)) ⟨rfl, rfl⟩),
    by intro a w g hE H; exact Dr.is H rfl (Dr.pG rfl hE rfl rfl (not_t (decide_eq_false c2113)) ⟨rfl, rfl⟩),
    by intro a w g hE H; exact Dr.is H rfl (Dr.pG rfl hE rfl rfl (not_t (decide_eq_false c2113)) ⟨rfl, rfl⟩),
    by intro a w g hE H; exact Dr.is H rfl (Dr.pG rfl hE rfl rfl (not_t (decide_eq_false c2113)) ⟨rfl, rfl⟩),
    by intro a w g hE H; exact Dr.is H rfl (Dr.pG rfl hE rfl rfl (not_t (decide_eq_false c2113)) ⟨rfl, rfl⟩),
    by intro a w g hE H; exact Dr.is H rfl (Dr.pG rfl hE rfl rfl (not_t (decide_eq_false c2113)) ⟨rfl, rfl⟩),
    by intro a w g hE H; exact Dr.is H rfl (Dr.pG rfl hE rfl rfl (not_t (decide_eq_false c2113)) ⟨rfl, rfl⟩),
    by intro a w g hE H; exact Dr.is H rfl (Dr.pG rfl hE rfl rfl (not_t (decide_eq_false c2113)) ⟨rfl, rfl⟩),
    by intro a w g hE H; exact Dr.is H rfl (Dr.pG rfl hE rfl rfl (not_t (decide_eq_false c2113)) ⟨rfl, rfl⟩),
    by intro a w g hE H; exact Dr.is H rfl (Dr.pG rfl hE rfl rfl (not_t (decide_eq_false c2113)) ⟨rfl, rfl⟩),
    by intro a w g hE H; exact Dr.is H rfl (Dr.pG rfl hE rfl rfl (not_t (decide_eq_false c2113)) ⟨rfl, rfl⟩),
    by intro a w g hE H; exact Dr.is H rfl (Dr.pG rfl hE rfl rfl (not_t (decide_eq_false c2113)) ⟨rfl, rfl⟩),
    by intro a w g hE H; exact Dr.is H rfl (Dr.pG rfl hE rfl rfl (not_t (decide_eq_false c2113)) ⟨rfl, rfl⟩),
    by intro a w g hE H; exact Dr.is H rfl (Dr.run rfl (d_pT hE rfl (not_t (decide_eq_false c2113)) rfl)),
    trivial⟩
                · trivial
                · intro a w g hE H
                  have H : St z I w (r) := H
                  cases hm
                  exact ⟨hE.sub ⟨rfl, rfl, rfl, rfl, trivial⟩, H⟩
            · rintro a w ⟨hE, H⟩
              by_cases c2121 : s2108 = true
              · rw [if_pos c2121] at hm
                refine cT hE rfl c2121 ?_
                refine wp_seq ?_
                refine wp_region_lit ?_
                refine s1 hE rfl (d_assign hE rfl) fun a hE => ?_
                refine wpList_nil ?_
                refine wp_ret ?_
                cases hm
                have hm := hq1909
                simp only [Out.on] at hm
                cases hm
                exact ret1 rfl hE rfl ⟨_, rfl, rfl, H⟩
              · rw [if_neg c2121] at hm
                refine cF hE rfl (b_f c2121) ?_
                refine wp_skip ?_
                refine wp_seq ?_
                refine wp_region_lit ?_
                refine s1 hE rfl (d_assign hE rfl) fun a hE => ?_
                refine wpList_nil ?_
                obtain ⟨s2227, hj2227, hq2227⟩ := bnd hm
                refine cut2 (fun a w => ∃ s_ : Unit, s2227 = .go s_ ∧ Env a 71 [(0, u0), (1, u1), (5, (.int .i64 y1538))] ∧ St z I w (r)) ?_ ?_
                · refine wp_block ?_
                  refine loopI (fun k a w => ∃ y2174 : Int, m43_l1 a0 a1 y1538 k y2174 = some s2227 ∧ Env a 71 [(0, u0), (1, u1), (5, (.int .i64 y1538)), (6, (.int .i64 y2174))] ∧ St z I w (r)) ?_ k _ _ ?_
                  · rintro k a w ⟨y2174, hm, hE, H⟩
                    cases k with
                    | zero => rw [m43_l1] at hm; cases hm
                    | succ k =>
                      rw [m43_l1] at hm
                      refine wp_seq ?_
                      refine wp_seq ?_
                      refine wp_region_lit ?_
                      refine s1 hE rfl (d_move hE rfl) fun a hE => ?_
                      refine s1 hE rfl (d_move hE rfl) fun a hE => ?_
                      refine s1 hE rfl (d_move hE rfl) fun a hE => ?_
                      obtain ⟨x2231, hx2232, hm⟩ := bnd hm
                      refine s1 hE rfl (d_indexS sl74 hE rfl rfl H hr0 hx2232) fun a hE => ?_
                      refine s1 hE rfl (d_fieldAddr fld102_0 hE rfl) fun a hE => ?_
                      refine s2 hE rfl (d_loadSfR (c := c_api_Path) (j := 0) (Q := fun V => ImR (cInt .i64) V x2231.Nodes) sc51 hE rfl H hr0 hx2232 (fun _ _ e => by obtain ⟨V0, rfl, h0⟩ := e; exact ⟨_, rfl, h0⟩)) fun a v w hR hE => ?_
                      obtain ⟨v2233, rfl⟩ : ∃ x, x = v := ⟨v, rfl⟩
                      have H : St z I w (ImR (cInt .i64) v2233 x2231.Nodes :: r) := hR
                      refine s1 hE rfl (d_lenS Try.underlying51 hE rfl H (Rd.im 0 rfl)) fun a hE => ?_
                      refine s1 hE rfl (d_lss hE rfl rfl) fun a hE => ?_
                      refine wpList_nil ?_
                      by_cases c2235 : y2174 < (x2231.Nodes.length : Int)
                      · rw [if_pos c2235] at hm
                        refine cT hE rfl (decide_eq_true c2235) ?_
                        refine wp_skip ?_
                        refine wp_seq ?_
                        refine wp_block ?_
                        refine wp_seq ?_
                        obtain ⟨x2268, hx2269, hm⟩ := bnd hm
                        obtain ⟨x2271, hx2272, hm⟩ := bnd hm
                        obtain ⟨x2273, hx2274, hm⟩ := bnd hm
                        obtain ⟨x2276, hx2277, hm⟩ := bnd hm
                        refine Dr.region (γ := Value × Value) (pre := [[], [], [0, 1], [0, 1, 2], [0, 1, 2, 3], [], [0, 1, 2, 3, 4, 5], [0, 1, 2, 3, 4, 5, 6], [], [], [8, 9], [8, 9, 10], [8, 9, 10, 11], [], [8, 9, 10, 11, 12, 13], [8, 9, 10, 11, 12, 13, 14], [0, 1, 2, 3, 4, 5, 6, 7, 8, 9, 10, 11, 12, 13, 14, 15]]) (val := [some u0, some (.int .i64 y1538), some (.pointer (some (ad (sb u0) (so u0 + (Int.toNat y1538) * c_api_Path.n)))), some (.pointer (some (ad (sb u0) (so u0 + (Int.toNat y1538) * c_api_Path.n + 0)))), none, some (.int .i64 y2174), none, none, some u1, some (.int .i64 y1538), some (.pointer (some (ad (sb u1) (so u1 + (Int.toNat y1538) * c_api_Path.n)))), some (.pointer (some (ad (sb u1) (so u1 + (Int.toNat y1538) * c_api_Path.n + 0)))), none, some (.int .i64 y2174), none, none, none]) (eff := [4, 6, 7, 12, 14, 15, 16]) (mask := [[], [4], [12], [4, 6], [4, 12], [12, 14], [4, 6, 7], [4, 6, 12], [4, 12, 14], [12, 14, 15], [4, 6, 7, 12], [4, 6, 12, 14], [4, 12, 14, 15], [4, 6, 7, 12, 14], [4, 6, 12, 14, 15], [4, 6, 7, 12, 14, 15], [4, 6, 7, 12, 14, 15, 16]]) (keys := [[], [58], [66], [60, 58], [66, 58], [68, 66], [61, 60, 58], [66, 60, 58], [68, 66, 58], [69, 68, 66], [66, 61, 60, 58], [68, 66, 60, 58], [69, 68, 66, 58], [68, 66, 61, 60, 58], [69, 68, 66, 60, 58], [69, 68, 66, 61, 60, 58], [70, 69, 68, 66, 61, 60, 58]]) (src := [[.base 0], [.base 5], [.op 0, .op 1], [.op 2], [.op 3], [.base 6], [.op 5], [], [.base 1], [.base 5], [.op 8, .op 9], [.op 10], [.op 11], [.base 6], [.op 13], [], []]) (z := z) (ef := fun p g => ([[], [(58, g.1)], [(66, g.2)], [(60, (.pointer (some (ad (sb g.1) (so g.1 + (Int.toNat y2174) * (cInt .i64).n))))), (58, g.1)], [(66, g.2), (58, g.1)], [(68, (.pointer (some (ad (sb g.2) (so g.2 + (Int.toNat y2174) * (cInt .i64).n))))), (66, g.2)], [(61, (.int .i64 x2271)), (60, (.pointer (some (ad (sb g.1) (so g.1 + (Int.toNat y2174) * (cInt .i64).n))))), (58, g.1)], [(66, g.2), (60, (.pointer (some (ad (sb g.1) (so g.1 + (Int.toNat y2174) * (cInt .i64).n))))), (58, g.1)], [(68, (.pointer (some (ad (sb g.2) (so g.2 + (Int.toNat y2174) * (cInt .i64).n))))), (66, g.2), (58, g.1)], [(69, (.int .i64 x2276)), (68, (.pointer (some (ad (sb g.2) (so g.2 + (Int.toNat y2174) * (cInt .i64).n))))), (66, g.2)], [(66, g.2), (61, (.int .i64 x2271)), (60, (.pointer (some (ad (sb g.1) (so g.1 + (Int.toNat y2174) * (cInt .i64).n))))), (58, g.1)], [(68, (.pointer (some (ad (sb g.2) (so g.2 + (Int.toNat y2174) * (cInt .i64).n))))), (66, g.2), (60, (.pointer (some (ad (sb g.1) (so g.1 + (Int.toNat y2174) * (cInt .i64).n))))), (58, g.1)], [(69, (.int .i64 x2276)), (68, (.pointer (some (ad (sb g.2) (so g.2 + (Int.toNat y2174) * (cInt .i64).n))))), (66, g.2), (58, g.1)], [(68, (.pointer (some (ad (sb g.2) (so g.2 + (Int.toNat y2174) * (cInt .i64).n))))), (66, g.2), (61, (.int .i64 x2271)), (60, (.pointer (some (ad (sb g.1) (so g.1 + (Int.toNat y2174) * (cInt .i64).n))))), (58, g.1)], [(69, (.int .i64 x2276)), (68, (.pointer (some (ad (sb g.2) (so g.2 + (Int.toNat y2174) * (cInt .i64).n))))), (66, g.2), (60, (.pointer (some (ad (sb g.1) (so g.1 + (Int.toNat y2174) * (cInt .i64).n))))), (58, g.1)], [(69, (.int .i64 x2276)), (68, (.pointer (some (ad (sb g.2) (so g.2 + (Int.toNat y2174) * (cInt .i64).n))))), (66, g.2), (61, (.int .i64 x2271)), (60, (.pointer (some (ad (sb g.1) (so g.1 + (Int.toNat y2174) * (cInt .i64).n))))), (58, g.1)], [(70, (.bool (!(decide (x2271 = x2276))))), (69, (.int .i64 x2276)), (68, (.pointer (some (ad (sb g.2) (so g.2 + (Int.toNat y2174) * (cInt .i64).n))))), (66, g.2), (61, (.int .i64 x2271)), (60, (.pointer (some (ad (sb g.1) (so g.1 + (Int.toNat y2174) * (cInt .i64).n))))), (58, g.1)]] : List (List (Nat × Value))).getD p []) (hi := fun _ _ => I) (rs := fun p g => ([ImR (cInt .i64) v2233 x2231.Nodes :: r, ImR (cInt .i64) g.1 x2268.Nodes :: ImR (cInt .i64) v2233 x2231.Nodes :: r, ImR (cInt .i64) g.2 x2273.Nodes :: ImR (cInt .i64) v2233 x2231.Nodes :: r, ImR (cInt .i64) g.1 x2268.Nodes :: ImR (cInt .i64) v2233 x2231.Nodes :: r, ImR (cInt .i64) g.2 x2273.Nodes :: ImR (cInt .i64) g.1 x2268.Nodes :: ImR (cInt .i64) v2233 x2231.Nodes :: r, ImR (cInt .i64) g.2 x2273.Nodes :: ImR (cInt .i64) v2233 x2231.Nodes :: r, ImR (cInt .i64) g.1 x2268.Nodes :: ImR (cInt .i64) v2233 x2231.Nodes :: r, ImR (cInt .i64) g.2 x2273.Nodes :: ImR (cInt .i64) g.1 x2268.Nodes :: ImR (cInt .i64) v2233 x2231.Nodes :: r, ImR (cInt .i64) g.2 x2273.Nodes :: ImR (cInt .i64) g.1 x2268.Nodes :: ImR (cInt .i64) v2233 x2231.Nodes :: r, ImR (cInt .i64) g.2 x2273.Nodes :: ImR (cInt .i64) v2233 x2231.Nodes :: r, ImR (cInt .i64) g.2 x2273.Nodes :: ImR (cInt .i64) g.1 x2268.Nodes :: ImR (cInt .i64) v2233 x2231.Nodes :: r, ImR (cInt .i64) g.2 x2273.Nodes :: ImR (cInt .i64) g.1 x2268.Nodes :: ImR (cInt .i64) v2233 x2231.Nodes :: r, ImR (cInt .i64) g.2 x2273.Nodes :: ImR (cInt .i64) g.1 x2268.Nodes :: ImR (cInt .i64) v2233 x2231.Nodes :: r, ImR (cInt .i64) g.2 x2273.Nodes :: ImR (cInt .i64) g.1 x2268.Nodes :: ImR (cInt .i64) v2233 x2231.Nodes :: r, ImR (cInt .i64) g.2 x2273.Nodes :: ImR (cInt .i64) g.1 x2268.Nodes :: ImR (cInt .i64) v2233 x2231.Nodes :: r, ImR (cInt .i64) g.2 x2273.Nodes :: ImR (cInt .i64) g.1 x2268.Nodes :: ImR (cInt .i64) v2233 x2231.Nodes :: r, ImR (cInt .i64) g.2 x2273.Nodes :: ImR (cInt .i64) g.1 x2268.Nodes :: ImR (cInt .i64) v2233 x2231.Nodes :: r] : List (List Asn)).getD p []) [(0, 0), (1, 0), (2, 0), (3, 0), (5, 0), (8, 0), (9, 0), (10, 0), (11, 0), (13, 0), (5, 1), (8, 1), (9, 1), (10, 1), (11, 1), (13, 1), (0, 2), (1, 2), (2, 2), (3, 2), (5, 2), (13, 2), (8, 3), (9, 3), (10, 3), (11, 3), (13, 3), (5, 4), (13, 4), (0, 5), (1, 5), (2, 5), (3, 5), (5, 5), (8, 6), (9, 6), (10, 6), (11, 6), (13, 6), (13, 7), (5, 8), (0, 9), (1, 9), (2, 9), (3, 9), (5, 9), (13, 10), (5, 12)] [(0, 4, 1), (0, 12, 2), (1, 6, 3), (1, 12, 4), (2, 4, 4), (2, 14, 5), (3, 7, 6), (3, 12, 7), (4, 6, 7), (4, 14, 8), (5, 4, 8), (5, 15, 9), (6, 12, 10), (7, 7, 10), (7, 14, 11), (8, 6, 11), (8, 15, 12), (9, 4, 12), (10, 14, 13), (11, 7, 13), (11, 15, 14), (12, 6, 14), (13, 15, 15), (14, 7, 15), (15, 16, 16)] [0, 1, 2, 3, 5, 8, 9, 10, 11, 13] 16 mo hE (undef, undef) rfl H (by kernel_rfl) (by kernel_rfl) (fun p g => by rcases p with _ | _ | _ | _ | _ | _ | _ | _ | _ | _ | _ | _ | _ | _ | _ | _ | _ | p <;> rfl) ?_ ?_ (by kernel_rfl) (by kernel_rfl) ?_
                        · exact ⟨by intro a w g hE H; obtain ⟨v2270, v2275⟩ := g; exact Dr.is H rfl (Dr.run rfl (d_move hE rfl)),
    by intro a w g hE H; obtain ⟨v2270, v2275⟩ := g; exact Dr.is H rfl (Dr.run rfl (d_move hE rfl)),
    by intro a w g hE H; obtain ⟨v2270, v2275⟩ := g; exact Dr.is H rfl (Dr.run rfl (d_indexS sl74 hE rfl rfl H (Rd.cons hr0) hx2269)),
    by intro a w g hE H; obtain ⟨v2270, v2275⟩ := g; exact Dr.is H rfl (Dr.run rfl (d_fieldAddr fld102_0 hE rfl)),
    by intro a w g hE H; obtain ⟨v2270, v2275⟩ := g; exact Dr.is H rfl (Dr.run rfl (d_move hE rfl)),
    by intro a w g hE H; obtain ⟨v2270, v2275⟩ := g; exact Dr.is H rfl (Dr.run rfl (d_move hE rfl)),
    by intro a w g hE H; obtain ⟨v2270, v2275⟩ := g; exact Dr.is H rfl (Dr.run rfl (d_move hE rfl)),
    by intro a w g hE H; obtain ⟨v2270, v2275⟩ := g; exact Dr.is H rfl (Dr.run rfl (d_indexS sl74 hE rfl rfl H (Rd.cons hr1) hx2274)),
    by intro a w g hE H; obtain ⟨v2270, v2275⟩ := g; exact Dr.is H rfl (Dr.run rfl (d_fieldAddr fld102_0 hE rfl)),
    by intro a w g hE H; obtain ⟨v2270, v2275⟩ := g; exact Dr.is H rfl (Dr.run rfl (d_move hE rfl)),
    by intro a w g hE H; obtain ⟨v2270, v2275⟩ := g; exact Dr.is H rfl (Dr.run rfl (d_move hE rfl)),
    by intro a w g hE H; obtain ⟨v2270, v2275⟩ := g; exact Dr.is H rfl (Dr.run rfl (d_move hE rfl)),
    by intro a w g hE H; obtain ⟨v2270, v2275⟩ := g; exact Dr.is H rfl (Dr.run rfl (d_move hE rfl)),
    by intro a w g hE H; obtain ⟨v2270, v2275⟩ := g; exact Dr.is H rfl (Dr.run rfl (d_indexS sl74 hE rfl rfl H (Rd.cons (Rd.cons hr1)) hx2274)),
    by intro a w g hE H; obtain ⟨v2270, v2275⟩ := g; exact Dr.is H rfl (Dr.run rfl (d_fieldAddr fld102_0 hE rfl)),
    by intro a w g hE H; obtain ⟨v2270, v2275⟩ := g; exact Dr.is H rfl (Dr.run rfl (d_move hE rfl)),
    by intro a w g hE H; obtain ⟨v2270, v2275⟩ := g; exact Dr.is H rfl (Dr.run rfl (d_move hE rfl)),
    by intro a w g hE H; obtain ⟨v2270, v2275⟩ := g; exact Dr.is H rfl (Dr.run rfl (d_move hE rfl)),
    by intro a w g hE H; obtain ⟨v2270, v2275⟩ := g; exact Dr.is H rfl (Dr.run rfl (d_indexS sl74 hE rfl rfl H (Rd.cons (Rd.cons hr0)) hx2269)),
    by intro a w g hE H; obtain ⟨v2270, v2275⟩ := g; exact Dr.is H rfl (Dr.run rfl (d_fieldAddr fld102_0 hE rfl)),
    by intro a w g hE H; obtain ⟨v2270, v2275⟩ := g; exact Dr.is H rfl (Dr.run rfl (d_move hE rfl)),
    by intro a w g hE H; obtain ⟨v2270, v2275⟩ := g; exact Dr.is H rfl (Dr.run rfl (d_move hE rfl)),
    by intro a w g hE H; obtain ⟨v2270, v2275⟩ := g; exact Dr.is H rfl (Dr.run rfl (d_move hE rfl)),
    by intro a w g hE H; obtain ⟨v2270, v2275⟩ := g; exact Dr.is H rfl (Dr.run rfl (d_move hE rfl)),
    by intro a w g hE H; obtain ⟨v2270, v2275⟩ := g; exact Dr.is H rfl (Dr.run rfl (d_indexS sl74 hE rfl rfl H (Rd.cons (Rd.cons hr1)) hx2274)),
    by intro a w g hE H; obtain ⟨v2270, v2275⟩ := g; exact Dr.is H rfl (Dr.run rfl (d_fieldAddr fld102_0 hE rfl)),
    by intro a w g hE H; obtain ⟨v2270, v2275⟩ := g; exact Dr.is H rfl (Dr.run rfl (d_move hE rfl)),
    by intro a w g hE H; obtain ⟨v2270, v2275⟩ := g; exact Dr.is H rfl (Dr.run rfl (d_move hE rfl)),
    by intro a w g hE H; obtain ⟨v2270, v2275⟩ := g; exact Dr.is H rfl (Dr.run rfl (d_move hE rfl)),
    by intro a w g hE H; obtain ⟨v2270, v2275⟩ := g; exact Dr.is H rfl (Dr.run rfl (d_move hE rfl)),
    by intro a w g hE H; obtain ⟨v2270, v2275⟩ := g; exact Dr.is H rfl (Dr.run rfl (d_move hE rfl)),
    by intro a w g hE H; obtain ⟨v2270, v2275⟩ := g; exact Dr.is H rfl (Dr.run rfl (d_indexS sl74 hE rfl rfl H (Rd.cons (Rd.cons hr0)) hx2269)),
    by intro a w g hE H; obtain ⟨v2270, v2275⟩ := g; exact Dr.is H rfl (Dr.run rfl (d_fieldAddr fld102_0 hE rfl)),
    by intro a w g hE H; obtain ⟨v2270, v2275⟩ := g; exact Dr.is H rfl (Dr.run rfl (d_move hE rfl)),
    by intro a w g hE H; obtain ⟨v2270, v2275⟩ := g; exact Dr.is H rfl (Dr.run rfl (d_move hE rfl)),
    by intro a w g hE H; obtain ⟨v2270, v2275⟩ := g; exact Dr.is H rfl (Dr.run rfl (d_move hE rfl)),
    by intro a w g hE H; obtain ⟨v2270, v2275⟩ := g; exact Dr.is H rfl (Dr.run rfl (d_indexS sl74 hE rfl rfl H (Rd.cons (Rd.cons hr1)) hx2274)),
    by intro a w g hE H; obtain ⟨v2270, v2275⟩ := g; exact Dr.is H rfl (Dr.run rfl (d_fieldAddr fld102_0 hE rfl)),
    by intro a w g hE H; obtain ⟨v2270, v2275⟩ := g; exact Dr.is H rfl (Dr.run rfl (d_move hE rfl)),
    by intro a w g hE H; obtain ⟨v2270, v2275⟩ := g; exact Dr.is H rfl (Dr.run rfl (d_move hE rfl)),
    by intro a w g hE H; obtain ⟨v2270, v2275⟩ := g; exact Dr.is H rfl (Dr.run rfl (d_move hE rfl)),
    by intro a w g hE H; obtain ⟨v2270, v2275⟩ := g; exact Dr.is H rfl (Dr.run rfl (d_move hE rfl)),
    by intro a w g hE H; obtain ⟨v2270, v2275⟩ := g; exact Dr.is H rfl (Dr.run rfl (d_move hE rfl)),
    by intro a w g hE H; obtain ⟨v2270, v2275⟩ := g; exact Dr.is H rfl (Dr.run rfl (d_indexS sl74 hE rfl rfl H (Rd.cons (Rd.cons hr0)) hx2269)),
    by intro a w g hE H; obtain ⟨v2270, v2275⟩ := g; exact Dr.is H rfl (Dr.run rfl (d_fieldAddr fld102_0 hE rfl)),
    by intro a w g hE H; obtain ⟨v2270, v2275⟩ := g; exact Dr.is H rfl (Dr.run rfl (d_move hE rfl)),
    by intro a w g hE H; obtain ⟨v2270, v2275⟩ := g; exact Dr.is H rfl (Dr.run rfl (d_move hE rfl)),
    by intro a w g hE H; obtain ⟨v2270, v2275⟩ := g; exact Dr.is H rfl (Dr.run rfl (d_move hE rfl)),
    trivial⟩
                        · exact ⟨by intro a w g hE hF H; obtain ⟨v2270, v2275⟩ := g; refine (Dr.run rfl (d_loadSfR (c := c_api_Path) (j := 0) (Q := fun V => ImR (cInt .i64) V x2268.Nodes) sc51 hE rfl H (Rd.cons hr0) hx2269 (fun _ _ e => by obtain ⟨V0, rfl, h0⟩ := e; exact ⟨_, rfl, h0⟩))).mono fun v w hR => ?_; obtain ⟨v2270, rfl⟩ : ∃ x, x = v := ⟨v, rfl⟩; have H : St z I w (ImR (cInt .i64) v2270 x2268.Nodes :: ImR (cInt .i64) v2233 x2231.Nodes :: r) := hR; exact ⟨(v2270, v2275), H, Dr.lkSub ⟨rfl, trivial⟩⟩,
    by intro a w g hE hF H; obtain ⟨v2270, v2275⟩ := g; refine (Dr.run rfl (d_loadSfR (c := c_api_Path) (j := 0) (Q := fun V => ImR (cInt .i64) V x2273.Nodes) sc51 hE rfl H (Rd.cons hr1) hx2274 (fun _ _ e => by obtain ⟨V0, rfl, h0⟩ := e; exact ⟨_, rfl, h0⟩))).mono fun v w hR => ?_; obtain ⟨v2275, rfl⟩ : ∃ x, x = v := ⟨v, rfl⟩; have H : St z I w (ImR (cInt .i64) v2275 x2273.Nodes :: ImR (cInt .i64) v2233 x2231.Nodes :: r) := hR; exact ⟨(v2270, v2275), H, Dr.lkSub ⟨rfl, trivial⟩⟩,
    by intro a w g hE hF H; obtain ⟨v2270, v2275⟩ := g; have hE := Dr.env_both hE hF; refine (Dr.run rfl (d_indexS sl51 hE rfl rfl H (Rd.im 0 rfl) hx2272)).mono fun v w' hR => ?_; obtain ⟨hv_, rfl⟩ := hR; have hv_ := hv_.symm; subst hv_; exact ⟨(v2270, v2275), H, Dr.lkSub ⟨rfl, rfl, trivial⟩⟩,
    by intro a w g hE hF H; obtain ⟨v2270, v2275⟩ := g; refine (Dr.run rfl (d_loadSfR (c := c_api_Path) (j := 0) (Q := fun V => ImR (cInt .i64) V x2273.Nodes) sc51 hE rfl H (Rd.cons (Rd.cons hr1)) hx2274 (fun _ _ e => by obtain ⟨V0, rfl, h0⟩ := e; exact ⟨_, rfl, h0⟩))).mono fun v w hR => ?_; obtain ⟨v2275, rfl⟩ : ∃ x, x = v := ⟨v, rfl⟩; have H : St z I w (ImR (cInt .i64) v2275 x2273.Nodes :: ImR (cInt .i64) v2270 x2268.Nodes :: ImR (cInt .i64) v2233 x2231.Nodes :: r) := hR; exact ⟨(v2270, v2275), H, Dr.lkSub ⟨rfl, rfl, trivial⟩⟩,
    by intro a w g hE hF H; obtain ⟨v2270, v2275⟩ := g; refine (Dr.run rfl (d_loadSfR (c := c_api_Path) (j := 0) (Q := fun V => ImR (cInt .i64) V x2268.Nodes) sc51 hE rfl H (Rd.cons (Rd.cons hr0)) hx2269 (fun _ _ e => by obtain ⟨V0, rfl, h0⟩ := e; exact ⟨_, rfl, h0⟩))).mono fun v w hR => ?_; obtain ⟨v2270, rfl⟩ : ∃ x, x = v := ⟨v, rfl⟩; have H : St z I w (ImR (cInt .i64) v2270 x2268.Nodes :: ImR (cInt .i64) v2275 x2273.Nodes :: ImR (cInt .i64) v2233 x2231.Nodes :: r) := hR; have H := St.get H 2 rfl; have H := St.get H 1 rfl; have H := St.get H 2 rfl; exact ⟨(v2270, v2275), H, Dr.lkSub ⟨rfl, rfl, trivial⟩⟩,
    by intro a w g hE hF H; obtain ⟨v2270, v2275⟩ := g; have hE := Dr.env_both hE hF; refine (Dr.run rfl (d_indexS sl51 hE rfl rfl H (Rd.im 0 rfl) hx2277)).mono fun v w' hR => ?_; obtain ⟨hv_, rfl⟩ := hR; have hv_ := hv_.symm; subst hv_; exact ⟨(v2270, v2275), H, Dr.lkSub ⟨rfl, rfl, trivial⟩⟩,
    by intro a w g hE hF H; obtain ⟨v2270, v2275⟩ := g; have hE := Dr.env_both hE hF; refine (Dr.run rfl (d_loadS1 sc3 hE rfl H (Rd.im 0 rfl) hx2272 (fun _ _ e => e))).mono fun v w' hR => ?_; obtain ⟨hv_, rfl⟩ := hR; have hv_ := hv_.symm; subst hv_; exact ⟨(v2270, v2275), H, Dr.lkSub ⟨rfl, rfl, rfl, trivial⟩⟩,
    by intro a w g hE hF H; obtain ⟨v2270, v2275⟩ := g; refine (Dr.run rfl (d_loadSfR (c := c_api_Path) (j := 0) (Q := fun V => ImR (cInt .i64) V x2273.Nodes) sc51 hE rfl H (Rd.cons (Rd.cons hr1)) hx2274 (fun _ _ e => by obtain ⟨V0, rfl, h0⟩ := e; exact ⟨_, rfl, h0⟩))).mono fun v w hR => ?_; obtain ⟨v2275, rfl⟩ : ∃ x, x = v := ⟨v, rfl⟩; have H : St z I w (ImR (cInt .i64) v2275 x2273.Nodes :: ImR (cInt .i64) v2270 x2268.Nodes :: ImR (cInt .i64) v2233 x2231.Nodes :: r) := hR; exact ⟨(v2270, v2275), H, Dr.lkSub ⟨rfl, rfl, rfl, trivial⟩⟩,
    by intro a w g hE hF H; obtain ⟨v2270, v2275⟩ := g; have hE := Dr.env_both hE hF; refine (Dr.run rfl (d_indexS sl51 hE rfl rfl H (Rd.im 1 rfl) hx2272)).mono fun v w' hR => ?_; obtain ⟨hv_, rfl⟩ := hR; have hv_ := hv_.symm; subst hv_; exact ⟨(v2270, v2275), H, Dr.lkSub ⟨rfl, rfl, rfl, trivial⟩⟩,
    by intro a w g hE hF H; obtain ⟨v2270, v2275⟩ := g; have hE := Dr.env_both hE hF; refine (Dr.run rfl (d_indexS sl51 hE rfl rfl H (Rd.im 0 rfl) hx2277)).mono fun v w' hR => ?_; obtain ⟨hv_, rfl⟩ := hR; have hv_ := hv_.symm; subst hv_; exact ⟨(v2270, v2275), H, Dr.lkSub ⟨rfl, rfl, rfl, trivial⟩⟩,
    by intro a w g hE hF H; obtain ⟨v2270, v2275⟩ := g; refine (Dr.run rfl (d_loadSfR (c := c_api_Path) (j := 0) (Q := fun V => ImR (cInt .i64) V x2268.Nodes) sc51 hE rfl H (Rd.cons (Rd.cons hr0)) hx2269 (fun _ _ e => by obtain ⟨V0, rfl, h0⟩ := e; exact ⟨_, rfl, h0⟩))).mono fun v w hR => ?_; obtain ⟨v2270, rfl⟩ : ∃ x, x = v := ⟨v, rfl⟩; have H : St z I w (ImR (cInt .i64) v2270 x2268.Nodes :: ImR (cInt .i64) v2275 x2273.Nodes :: ImR (cInt .i64) v2233 x2231.Nodes :: r) := hR; have H := St.get H 2 rfl; have H := St.get H 1 rfl; have H := St.get H 2 rfl; exact ⟨(v2270, v2275), H, Dr.lkSub ⟨rfl, rfl, rfl, trivial⟩⟩,
    by intro a w g hE hF H; obtain ⟨v2270, v2275⟩ := g; have hE := Dr.env_both hE hF; refine (Dr.run rfl (d_loadS1 sc3 hE rfl H (Rd.im 0 rfl) hx2277 (fun _ _ e => e))).mono fun v w' hR => ?_; obtain ⟨hv_, rfl⟩ := hR; have hv_ := hv_.symm; subst hv_; exact ⟨(v2270, v2275), H, Dr.lkSub ⟨rfl, rfl, rfl, trivial⟩⟩,
    by intro a w g hE hF H; obtain ⟨v2270, v2275⟩ := g; refine (Dr.run rfl (d_loadSfR (c := c_api_Path) (j := 0) (Q := fun V => ImR (cInt .i64) V x2273.Nodes) sc51 hE rfl H (Rd.cons (Rd.cons hr1)) hx2274 (fun _ _ e => by obtain ⟨V0, rfl, h0⟩ := e; exact ⟨_, rfl, h0⟩))).mono fun v w hR => ?_; obtain ⟨v2275, rfl⟩ : ∃ x, x = v := ⟨v, rfl⟩; have H : St z I w (ImR (cInt .i64) v2275 x2273.Nodes :: ImR (cInt .i64) v2270 x2268.Nodes :: ImR (cInt .i64) v2233 x2231.Nodes :: r) := hR; exact ⟨(v2270, v2275), H, Dr.lkSub ⟨rfl, rfl, rfl, rfl, trivial⟩⟩,
    by intro a w g hE hF H; obtain ⟨v2270, v2275⟩ := g; have hE := Dr.env_both hE hF; refine (Dr.run rfl (d_loadS1 sc3 hE rfl H (Rd.im 1 rfl) hx2272 (fun _ _ e => e))).mono fun v w' hR => ?_; obtain ⟨hv_, rfl⟩ := hR; have hv_ := hv_.symm; subst hv_; exact ⟨(v2270, v2275), H, Dr.lkSub ⟨rfl, rfl, rfl, rfl, trivial⟩⟩,
    by intro a w g hE hF H; obtain ⟨v2270, v2275⟩ := g; have hE := Dr.env_both hE hF; refine (Dr.run rfl (d_indexS sl51 hE rfl rfl H (Rd.im 0 rfl) hx2277)).mono fun v w' hR => ?_; obtain ⟨hv_, rfl⟩ := hR; have hv_ := hv_.symm; subst hv_; exact ⟨(v2270, v2275), H, Dr.lkSub ⟨rfl, rfl, rfl, rfl, trivial⟩⟩,
    by intro a w g hE hF H; obtain ⟨v2270, v2275⟩ := g; have hE := Dr.env_both hE hF; refine (Dr.run rfl (d_indexS sl51 hE rfl rfl H (Rd.im 1 rfl) hx2272)).mono fun v w' hR => ?_; obtain ⟨hv_, rfl⟩ := hR; have hv_ := hv_.symm; subst hv_; exact ⟨(v2270, v2275), H, Dr.lkSub ⟨rfl, rfl, rfl, rfl, trivial⟩⟩,
    by intro a w g hE hF H; obtain ⟨v2270, v2275⟩ := g; have hE := Dr.env_both hE hF; refine (Dr.run rfl (d_loadS1 sc3 hE rfl H (Rd.im 0 rfl) hx2277 (fun _ _ e => e))).mono fun v w' hR => ?_; obtain ⟨hv_, rfl⟩ := hR; have hv_ := hv_.symm; subst hv_; exact ⟨(v2270, v2275), H, Dr.lkSub ⟨rfl, rfl, rfl, rfl, trivial⟩⟩,
    by intro a w g hE hF H; obtain ⟨v2270, v2275⟩ := g; refine (Dr.run rfl (d_loadSfR (c := c_api_Path) (j := 0) (Q := fun V => ImR (cInt .i64) V x2268.Nodes) sc51 hE rfl H (Rd.cons (Rd.cons hr0)) hx2269 (fun _ _ e => by obtain ⟨V0, rfl, h0⟩ := e; exact ⟨_, rfl, h0⟩))).mono fun v w hR => ?_; obtain ⟨v2270, rfl⟩ : ∃ x, x = v := ⟨v, rfl⟩; have H : St z I w (ImR (cInt .i64) v2270 x2268.Nodes :: ImR (cInt .i64) v2275 x2273.Nodes :: ImR (cInt .i64) v2233 x2231.Nodes :: r) := hR; have H := St.get H 2 rfl; have H := St.get H 1 rfl; have H := St.get H 2 rfl; exact ⟨(v2270, v2275), H, Dr.lkSub ⟨rfl, rfl, rfl, rfl, trivial⟩⟩,
    by intro a w g hE hF H; obtain ⟨v2270, v2275⟩ := g; have hE := Dr.env_both hE hF; refine (Dr.run rfl (d_indexS sl51 hE rfl rfl H (Rd.im 0 rfl) hx2277)).mono fun v w' hR => ?_; obtain ⟨hv_, rfl⟩ := hR; have hv_ := hv_.symm; subst hv_; exact ⟨(v2270, v2275), H, Dr.lkSub ⟨rfl, rfl, rfl, rfl, rfl, trivial⟩⟩,
    by intro a w g hE hF H; obtain ⟨v2270, v2275⟩ := g; have hE := Dr.env_both hE hF; refine (Dr.run rfl (d_loadS1 sc3 hE rfl H (Rd.im 1 rfl) hx2272 (fun _ _ e => e))).mono fun v w' hR => ?_; obtain ⟨hv_, rfl⟩ := hR; have hv_ := hv_.symm; subst hv_; exact ⟨(v2270, v2275), H, Dr.lkSub ⟨rfl, rfl, rfl, rfl, rfl, trivial⟩⟩,
    by intro a w g hE hF H; obtain ⟨v2270, v2275⟩ := g; have hE := Dr.env_both hE hF; refine (Dr.run rfl (d_loadS1 sc3 hE rfl H (Rd.im 0 rfl) hx2277 (fun _ _ e => e))).mono fun v w' hR => ?_; obtain ⟨hv_, rfl⟩ := hR; have hv_ := hv_.symm; subst hv_; exact ⟨(v2270, v2275), H, Dr.lkSub ⟨rfl, rfl, rfl, rfl, rfl, trivial⟩⟩,
    by intro a w g hE hF H; obtain ⟨v2270, v2275⟩ := g; have hE := Dr.env_both hE hF; refine (Dr.run rfl (d_indexS sl51 hE rfl rfl H (Rd.im 1 rfl) hx2272)).mono fun v w' hR => ?_; obtain ⟨hv_, rfl⟩ := hR; have hv_ := hv_.symm; subst hv_; exact ⟨(v2270, v2275), H, Dr.lkSub ⟨rfl, rfl, rfl, rfl, rfl, trivial⟩⟩,
    by intro a w g hE hF H; obtain ⟨v2270, v2275⟩ := g; have hE := Dr.env_both hE hF; refine (Dr.run rfl (d_loadS1 sc3 hE rfl H (Rd.im 0 rfl) hx2277 (fun _ _ e => e))).mono fun v w' hR => ?_; obtain ⟨hv_, rfl⟩ := hR; have hv_ := hv_.symm; subst hv_; exact ⟨(v2270, v2275), H, Dr.lkSub ⟨rfl, rfl, rfl, rfl, rfl, rfl, trivial⟩⟩,
    by intro a w g hE hF H; obtain ⟨v2270, v2275⟩ := g; have hE := Dr.env_both hE hF; refine (Dr.run rfl (d_loadS1 sc3 hE rfl H (Rd.im 1 rfl) hx2272 (fun _ _ e => e))).mono fun v w' hR => ?_; obtain ⟨hv_, rfl⟩ := hR; have hv_ := hv_.symm; subst hv_; exact ⟨(v2270, v2275), H, Dr.lkSub ⟨rfl, rfl, rfl, rfl, rfl, rfl, trivial⟩⟩,
    by intro a w g hE hF H; obtain ⟨v2270, v2275⟩ := g; have hE := Dr.env_both hE hF; refine (Dr.run rfl (d_neq hE rfl rfl)).mono fun v w' hR => ?_; obtain ⟨hv_, rfl⟩ := hR; have hv_ := hv_.symm; subst hv_; exact ⟨(v2270, v2275), H, Dr.lkSub ⟨rfl, rfl, rfl, rfl, rfl, rfl, rfl, trivial⟩⟩,
    trivial⟩
                        · intro a w g hE H
                          obtain ⟨v2270, v2275⟩ := g
                          have H : St z I w (ImR (cInt .i64) v2275 x2273.Nodes :: ImR (cInt .i64) v2270 x2268.Nodes :: ImR (cInt .i64) v2233 x2231.Nodes :: r) := H
                          by_cases c2279 : x2271 = x2276
                          · rw [if_pos c2279] at hm
                            refine cF hE rfl (not_f (decide_eq_true c2279)) ?_
                            refine wp_skip ?_
                            refine wp_region_lit ?_
                            refine s1 hE rfl (d_move hE rfl) fun a hE => ?_
                            refine s1 hE rfl (d_add hE rfl rfl) fun a hE => ?_
                            refine s1 hE rfl (d_assign hE rfl) fun a hE => ?_
                            refine wpList_nil ?_
                            have H := St.del H 0
                            have H := St.del H 0
                            have H := St.del H 0
                            exact ⟨k, Nat.lt_succ_self k, IntKind.i64.wrap (y2174 + 1), hm, hE.sub ⟨rfl, rfl, rfl, rfl, trivial⟩, H⟩
                          · rw [if_neg c2279] at hm
                            refine cT hE rfl (not_t (decide_eq_false c2279)) ?_
                            refine wp_seq ?_
                            refine wp_region_lit ?_
                            refine s1 hE rfl (d_assign hE rfl) fun a hE => ?_
                            refine wpList_nil ?_
                            refine wp_ret ?_
                            cases hm
                            have hm := hq2227
                            simp only [Out.on] at hm
                            cases hm
                            have hm := hq1909
                            simp only [Out.on] at hm
                            cases hm
                            have H := St.del H 0
                            have H := St.del H 0
                            have H := St.del H 0
                            exact ret1 rfl hE rfl ⟨_, rfl, rfl, H⟩
                      · rw [if_neg c2235] at hm
                        refine cF hE rfl (decide_eq_false c2235) ?_
                        refine wp_exit ?_
                        cases hm
                        have H := St.del H 0
                        exact ⟨_, rfl, hE.sub ⟨rfl, rfl, rfl, trivial⟩, H⟩
                  · exact ⟨0, hj2227, hE.sub ⟨rfl, rfl, rfl, rfl, trivial⟩, H⟩
                · rintro a w ⟨s2227, rfl, hE, H⟩
                  have hm := hq2227
                  simp only [Out.on] at hm
                  refine wp_region_lit ?_
                  refine s1 hE rfl (d_move hE rfl) fun a hE => ?_
                  refine s1 hE rfl (d_add hE rfl rfl) fun a hE => ?_
                  refine s1 hE rfl (d_assign hE rfl) fun a hE => ?_
                  refine wpList_nil ?_
                  exact ⟨k, Nat.lt_succ_self k, IntKind.i64.wrap (y1538 + 1), hm, hE.sub ⟨rfl, rfl, rfl, trivial⟩, H⟩
          · rw [if_neg c1911] at hm
            refine cF hE rfl (decide_eq_false c1911) ?_
            refine wp_exit ?_
            cases hm
            exact ⟨_, rfl, hE.sub trivial, H⟩
      · exact ⟨0, hj1909, hE.sub ⟨rfl, rfl, rfl, trivial⟩, H⟩
    · rintro a w ⟨s1909, rfl, hE, H⟩
      have hm := hq1909
      simp only [Out.on] at hm
      refine wp_seq ?_
      refine wp_region_lit ?_
      refine s1 hE rfl (d_assign hE rfl) fun a hE => ?_
      refine wpList_nil ?_
      refine wp_ret ?_
      cases hm
      exact ret1 rfl hE rfl ⟨_, rfl, rfl, H⟩
  · rw [if_neg c1167] at hm
    refine cT hE rfl (not_t (decide_eq_false c1167)) ?_
    refine wp_seq ?_
    refine wp_region_lit ?_
    refine s1 hE rfl (d_assign hE rfl) fun a hE => ?_
    refine wpList_nil ?_
    refine wp_ret ?_
    cases hm
    exact ret1 rfl hE rfl ⟨_, rfl, rfl, H⟩
def m6 (k : Nat) (a0 : List S_api_Arc) (a1 : S_waymarklaw48_Ask) : Option Bool := if 24 < (a0.length : Int) then (Option.bind (m40 k ) fun x172 => some x172) else (Option.bind (m41 k a0 a1.From a1.To a1.Most) fun x177 => Option.bind (m36 k a0) fun x183 => Option.bind (α := Bool) (Option.bind (m29 k a0) fun x201 => if x201 = true then (if 8 < (x183.length : Int) then (some true) else (if a1.From = a1.To then (some true) else (if a1.Most < 1 then (some true) else (Option.bind (m30 k x183 a1.From) fun x207 => if x207 = true then (Option.bind (m30 k x183 a1.To) fun x210 => some (!x210)) else (some true))))) else (some true)) fun s200 => if s200 = true then (Option.bind (α := Bool) (if (x177.length : Int) = 0 then (Option.bind (m40 k ) fun x228 => some x228) else (some false)) fun s226 => some s226) else (if 6 < (x183.length : Int) then (Option.bind (m40 k ) fun x238 => some x238) else (Option.bind (m42 k a0 ([a1.From]) a1.To []) fun x245 => Option.bind (α := Int) (if a1.Most < (x245.length : Int) then (some a1.Most) else (some (x245.length : Int))) fun s250 => Option.bind (α := Int) (if 20 < s250 then (some 20) else (some s250)) fun s254 => Option.bind (α := Bool) (Option.bind (cutx x245 0 s254) fun l265 => Option.bind (m43 k x177 l265) fun x267 => if x267 = true then (Option.bind (m40 k ) fun x270 => some x270) else (some false)) fun s264 => some s264)))
set_option maxRecDepth 20000 in
set_option maxHeartbeats 4000000 in
theorem f6_ok (k : Nat) {u0 : Value} (a0 : List S_api_Arc) (a1 : S_waymarklaw48_Ask) {res : Bool} (hm : m6 k a0 a1 = some res) {z w : World} {I : Hp} {r : List Asn} (hr0 : Rd c_api_Arc I r u0 a0) (hz : z.drawn = 0) (H : St z I w (r)) :
    Calls Try.prog 6 #[u0, (.agg #[(.int .i64 a1.From), (.int .i64 a1.To), (.int .i64 a1.Most)])] w (Rt fun v w' => v = (.bool res) ∧ St z I w' (r)) := by
  unfold m6 at hm
  refine enter (args := [u0, (.agg #[(.int .i64 a1.From), (.int .i64 a1.To), (.int .i64 a1.Most)])]) Try.func6 rfl Try.ntmps6 rfl fun a hE => ?_
  refine wp_seq ?_
  refine wp_region_lit ?_
  refine s2 hE rfl (d_box hE rfl H) fun a v w hR hE => ?_
  obtain ⟨q163, rfl, H⟩ := hR
  have H : St z I w (Bl q163 73 [(.int .i64 a1.From), (.int .i64 a1.To), (.int .i64 a1.Most)] :: r) := H
  refine s1 hE rfl (d_assign hE rfl) fun a hE => ?_
  refine wpList_nil ?_
  refine wp_seq ?_
  refine Dr.region (γ := Unit) (pre := [[], [0], [], [2], [], [4], [0, 1], [0, 1, 2, 3, 6], [0, 1, 2, 3, 4, 5, 6, 7]]) (val := [some (.pointer (some (ad q163 (0 + 0)))), some (.int .i64 a1.From), some (.pointer (some (ad q163 (0 + 1)))), some (.int .i64 a1.To), some (.pointer (some (ad q163 (0 + 2)))), some (.int .i64 a1.Most), some (.int .i64 a1.From), some (.int .i64 a1.To), some (.int .i64 a1.Most)]) (eff := []) (mask := [[]]) (keys := [[]]) (src := [[.base 3], [.op 0], [.base 3], [.op 2], [.base 3], [.op 4], [.op 1], [.op 3], [.op 5]]) (z := z) (ef := fun p g => ([[]] : List (List (Nat × Value))).getD p []) (hi := fun _ _ => I) (rs := fun p g => ([Bl q163 73 [(.int .i64 a1.From), (.int .i64 a1.To), (.int .i64 a1.Most)] :: r] : List (List Asn)).getD p []) [(0, 0), (1, 0), (2, 0), (3, 0), (4, 0), (5, 0), (6, 0), (7, 0), (8, 0)] [] [0, 1, 2, 3, 4, 5, 6, 7, 8] 0 mo hE () rfl H (by kernel_rfl) (by kernel_rfl) (fun p g => by cases p <;> rfl) ?_ ?_ (by kernel_rfl) (by kernel_rfl) ?_
  · exact ⟨by intro a w g hE H; exact Dr.is H rfl (Dr.run rfl (d_fieldAddr fld73_0 hE rfl)),
    by intro a w g hE H; exact Dr.is H rfl (Dr.run rfl (d_load sc3 hE rfl H 0 rfl rfl)),
    by intro a w g hE H; exact Dr.is H rfl (Dr.run rfl (d_fieldAddr fld73_1 hE rfl)),
    by intro a w g hE H; exact Dr.is H rfl (Dr.run rfl (d_load sc3 hE rfl H 0 rfl rfl)),
    by intro a w g hE H; exact Dr.is H rfl (Dr.run rfl (d_fieldAddr fld73_2 hE rfl)),
    by intro a w g hE H; exact Dr.is H rfl (Dr.run rfl (d_load sc3 hE rfl H 0 rfl rfl)),
    by intro a w g hE H; exact Dr.is H rfl (Dr.run rfl (d_assign hE rfl)),
    by intro a w g hE H; exact Dr.is H rfl (Dr.run rfl (d_assign hE rfl)),
    by intro a w g hE H; exact Dr.is H rfl (Dr.run rfl (d_assign hE rfl)),
    trivial⟩
  · trivial
  · intro a w g hE H
    have H : St z I w (Bl q163 73 [(.int .i64 a1.From), (.int .i64 a1.To), (.int .i64 a1.Most)] :: r) := H
    refine wp_seq ?_
    refine wp_seq ?_
    refine wp_region_lit ?_
    refine s1 hE rfl (d_move hE rfl) fun a hE => ?_
    refine s1 hE rfl (d_lenS Try.underlying55 hE rfl H (Rd.cons hr0)) fun a hE => ?_
    refine s1 hE rfl (d_gtr hE rfl rfl) fun a hE => ?_
    refine wpList_nil ?_
    by_cases c169 : 24 < (a0.length : Int)
    · rw [if_pos c169] at hm
      refine cT hE rfl (decide_eq_true c169) ?_
      refine wp_seq ?_
      refine wp_region_lit ?_
      obtain ⟨x172, hc173, hm⟩ := bnd hm
      refine s2 hE rfl (d_call c40 hE rfl (f40_ok k  hc173 hz H)) fun a v w hR hE => ?_
      obtain ⟨hv_, H⟩ := hR
      have hv_ := hv_.symm
      subst hv_
      refine s1 hE rfl (d_assign hE rfl) fun a hE => ?_
      refine wpList_nil ?_
      refine wp_ret ?_
      cases hm
      have H := St.del H 0
      exact ret1 rfl hE rfl ⟨_, rfl, rfl, H⟩
    · rw [if_neg c169] at hm
      refine cF hE rfl (decide_eq_false c169) ?_
      refine wp_skip ?_
      refine wp_seq ?_
      refine wp_region_lit ?_
      refine s1 hE rfl (d_move hE rfl) fun a hE => ?_
      refine s1 hE rfl (d_move hE rfl) fun a hE => ?_
      refine s1 hE rfl (d_move hE rfl) fun a hE => ?_
      refine s1 hE rfl (d_move hE rfl) fun a hE => ?_
      obtain ⟨x177, hc178, hm⟩ := bnd hm
      refine s2 hE rfl (d_call c41 hE rfl (f41_ok k a0 a1.From a1.To a1.Most hc178 (Rd.cons hr0) hz H)) fun a v w hR hE => ?_
      obtain ⟨v179, hv_, H⟩ := hR
      have hv_ := hv_.symm
      subst hv_
      refine s1 hE rfl (d_assign hE rfl) fun a hE => ?_
      refine wpList_nil ?_
      refine wp_seq ?_
      refine wp_region_lit ?_
      refine s1 hE rfl (d_move hE rfl) fun a hE => ?_
      obtain ⟨x183, hc184, hm⟩ := bnd hm
      refine s2 hE rfl (d_call c36 hE rfl (f36_ok k a0 hc184 (Rd.cons (Rd.cons hr0)) H)) fun a v w hR hE => ?_
      obtain ⟨v185, hv_, H⟩ := hR
      have hv_ := hv_.symm
      subst hv_
      refine s1 hE rfl (d_assign hE rfl) fun a hE => ?_
      refine wpList_nil ?_
      refine wp_seq ?_
      refine wp_seq ?_
      obtain ⟨s200, hj200, hm⟩ := bnd hm
      refine cut2 (fun a w => Env a 89 [(0, u0), (5, (.int .i64 a1.From)), (6, (.int .i64 a1.To)), (7, (.int .i64 a1.Most)), (8, v179), (9, v185), (57, (.bool s200))] ∧ St z I w (OwnSl c_api_Path v179 x177 :: OwnSl (cInt .i64) v185 x183 :: r)) ?_ ?_
      · have hm := hj200
        refine wp_region_lit ?_
        refine s1 hE rfl (d_move hE rfl) fun a hE => ?_
        obtain ⟨x201, hc202, hm⟩ := bnd hm
        refine s2 hE rfl (d_call c29 hE rfl (f29_ok k a0 hc202 (Rd.cons (Rd.cons (Rd.cons hr0))) H)) fun a v w hR hE => ?_
        obtain ⟨hv_, H⟩ := hR
        have hv_ := hv_.symm
        subst hv_
        refine s1 hE rfl (d_not hE rfl) fun a hE => ?_
        refine s1 hE rfl (d_move hE rfl) fun a hE => ?_
        by_cases c203 : x201 = true
        · rw [if_pos c203] at hm
          refine gR hE rfl rfl (not_f c203) ?_
          refine s1 hE rfl (d_move hE rfl) fun a hE => ?_
          refine gR hE rfl rfl (not_f c203) ?_
          refine s1 hE rfl (d_lenS Try.underlying51 hE rfl H (Rd.own 0 rfl)) fun a hE => ?_
          refine gR hE rfl rfl (not_f c203) ?_
          refine s1 hE rfl (d_gtr hE rfl rfl) fun a hE => ?_
          refine s1 hE rfl (d_pF hE rfl (not_f c203) rfl) fun a hE => ?_
          refine s1 hE rfl (d_move hE rfl) fun a hE => ?_
          by_cases c204 : 8 < (x183.length : Int)
          · rw [if_pos c204] at hm
            refine gP hE rfl rfl rfl (decide_eq_true c204) fun a hE => ?_
            refine gP hE rfl rfl rfl (decide_eq_true c204) fun a hE => ?_
            refine gP hE rfl rfl rfl (decide_eq_true c204) fun a hE => ?_
            refine s1 hE rfl (d_pT hE rfl (decide_eq_true c204) rfl) fun a hE => ?_
            refine s1 hE rfl (d_move hE rfl) fun a hE => ?_
            refine gP hE rfl rfl rfl rfl fun a hE => ?_
            refine gP hE rfl rfl rfl rfl fun a hE => ?_
            refine s1 hE rfl (d_pT hE rfl rfl rfl) fun a hE => ?_
            refine s1 hE rfl (d_move hE rfl) fun a hE => ?_
            refine gP hE rfl rfl rfl rfl fun a hE => ?_
            refine gP hE rfl rfl rfl rfl fun a hE => ?_
            refine gP hE rfl rfl rfl rfl fun a hE => ?_
            refine gP hE rfl rfl rfl rfl fun a hE => ?_
            refine s1 hE rfl (d_pT hE rfl rfl rfl) fun a hE => ?_
            refine s1 hE rfl (d_move hE rfl) fun a hE => ?_
            refine gP hE rfl rfl rfl rfl fun a hE => ?_
            refine gP hE rfl rfl rfl rfl fun a hE => ?_
            refine gP hE rfl rfl rfl rfl fun a hE => ?_
            refine gP hE rfl rfl rfl rfl fun a hE => ?_
            refine s1 hE rfl (d_pT hE rfl rfl rfl) fun a hE => ?_
            refine wpList_nil ?_
            cases hm
            have H := St.get H 1 rfl
            have H := St.del H 2
            exact ⟨hE.sub ⟨rfl, rfl, rfl, rfl, rfl, rfl, rfl, trivial⟩, H⟩
          · rw [if_neg c204] at hm
            refine gR hE rfl rfl (decide_eq_false c204) ?_
            refine s1 hE rfl (d_move hE rfl) fun a hE => ?_
            refine gR hE rfl rfl (decide_eq_false c204) ?_
            refine s1 hE rfl (d_move hE rfl) fun a hE => ?_
            refine gR hE rfl rfl (decide_eq_false c204) ?_
            refine s1 hE rfl (d_eql hE rfl rfl) fun a hE => ?_
            refine s1 hE rfl (d_pF hE rfl (decide_eq_false c204) rfl) fun a hE => ?_
            refine s1 hE rfl (d_move hE rfl) fun a hE => ?_
            by_cases c205 : a1.From = a1.To
            · rw [if_pos c205] at hm
              refine gP hE rfl rfl rfl (decide_eq_true c205) fun a hE => ?_
              refine gP hE rfl rfl rfl (decide_eq_true c205) fun a hE => ?_
              refine s1 hE rfl (d_pT hE rfl (decide_eq_true c205) rfl) fun a hE => ?_
              refine s1 hE rfl (d_move hE rfl) fun a hE => ?_
              refine gP hE rfl rfl rfl rfl fun a hE => ?_
              refine gP hE rfl rfl rfl rfl fun a hE => ?_
              refine gP hE rfl rfl rfl rfl fun a hE => ?_
              refine gP hE rfl rfl rfl rfl fun a hE => ?_
              refine s1 hE rfl (d_pT hE rfl rfl rfl) fun a hE => ?_
              refine s1 hE rfl (d_move hE rfl) fun a hE => ?_
              refine gP hE rfl rfl rfl rfl fun a hE => ?_
              refine gP hE rfl rfl rfl rfl fun a hE => ?_
              refine gP hE rfl rfl rfl rfl fun a hE => ?_
              refine gP hE rfl rfl rfl rfl fun a hE => ?_
              refine s1 hE rfl (d_pT hE rfl rfl rfl) fun a hE => ?_
              refine wpList_nil ?_
              cases hm
              have H := St.get H 1 rfl
              have H := St.del H 2
              exact ⟨hE.sub ⟨rfl, rfl, rfl, rfl, rfl, rfl, rfl, trivial⟩, H⟩
            · rw [if_neg c205] at hm
              refine gR hE rfl rfl (decide_eq_false c205) ?_
              refine s1 hE rfl (d_move hE rfl) fun a hE => ?_
              refine gR hE rfl rfl (decide_eq_false c205) ?_
              refine s1 hE rfl (d_lss hE rfl rfl) fun a hE => ?_
              refine s1 hE rfl (d_pF hE rfl (decide_eq_false c205) rfl) fun a hE => ?_
              refine s1 hE rfl (d_move hE rfl) fun a hE => ?_
              by_cases c206 : a1.Most < 1
              · rw [if_pos c206] at hm
                refine gP hE rfl rfl rfl (decide_eq_true c206) fun a hE => ?_
                refine gP hE rfl rfl rfl (decide_eq_true c206) fun a hE => ?_
                refine gP hE rfl rfl rfl (decide_eq_true c206) fun a hE => ?_
                refine gP hE rfl rfl rfl (decide_eq_true c206) fun a hE => ?_
                refine s1 hE rfl (d_pT hE rfl (decide_eq_true c206) rfl) fun a hE => ?_
                refine s1 hE rfl (d_move hE rfl) fun a hE => ?_
                refine gP hE rfl rfl rfl rfl fun a hE => ?_
                refine gP hE rfl rfl rfl rfl fun a hE => ?_
                refine gP hE rfl rfl rfl rfl fun a hE => ?_
                refine gP hE rfl rfl rfl rfl fun a hE => ?_
                refine s1 hE rfl (d_pT hE rfl rfl rfl) fun a hE => ?_
                refine wpList_nil ?_
                cases hm
                have H := St.get H 1 rfl
                have H := St.del H 2
                exact ⟨hE.sub ⟨rfl, rfl, rfl, rfl, rfl, rfl, rfl, trivial⟩, H⟩
              · rw [if_neg c206] at hm
                refine gR hE rfl rfl (decide_eq_false c206) ?_
                refine s1 hE rfl (d_move hE rfl) fun a hE => ?_
                refine gR hE rfl rfl (decide_eq_false c206) ?_
                refine s1 hE rfl (d_move hE rfl) fun a hE => ?_
                refine gR hE rfl rfl (decide_eq_false c206) ?_
                obtain ⟨x207, hc208, hm⟩ := bnd hm
                refine s2 hE rfl (d_call c30 hE rfl (f30_ok k x183 a1.From hc208 (Rd.own 0 rfl) H)) fun a v w hR hE => ?_
                obtain ⟨hv_, H⟩ := hR
                have hv_ := hv_.symm
                subst hv_
                refine gR hE rfl rfl (decide_eq_false c206) ?_
                refine s1 hE rfl (d_not hE rfl) fun a hE => ?_
                refine s1 hE rfl (d_pF hE rfl (decide_eq_false c206) rfl) fun a hE => ?_
                refine s1 hE rfl (d_move hE rfl) fun a hE => ?_
                by_cases c209 : x207 = true
                · rw [if_pos c209] at hm
                  refine gR hE rfl rfl (not_f c209) ?_
                  refine s1 hE rfl (d_move hE rfl) fun a hE => ?_
                  refine gR hE rfl rfl (not_f c209) ?_
                  refine s1 hE rfl (d_move hE rfl) fun a hE => ?_
                  refine gR hE rfl rfl (not_f c209) ?_
                  obtain ⟨x210, hc211, hm⟩ := bnd hm
                  refine s2 hE rfl (d_call c30 hE rfl (f30_ok k x183 a1.To hc211 (Rd.own 0 rfl) H)) fun a v w hR hE => ?_
                  obtain ⟨hv_, H⟩ := hR
                  have hv_ := hv_.symm
                  subst hv_
                  refine gR hE rfl rfl (not_f c209) ?_
                  refine s1 hE rfl (d_not hE rfl) fun a hE => ?_
                  refine s1 hE rfl (d_pF hE rfl (not_f c209) rfl) fun a hE => ?_
                  refine wpList_nil ?_
                  cases hm
                  have H := St.get H 1 rfl
                  have H := St.del H 2
                  exact ⟨hE.sub ⟨rfl, rfl, rfl, rfl, rfl, rfl, rfl, trivial⟩, H⟩
                · rw [if_neg c209] at hm
                  refine gP hE rfl rfl rfl (not_t (b_f c209)) fun a hE => ?_
                  refine gP hE rfl rfl rfl (not_t (b_f c209)) fun a hE => ?_
                  refine gP hE rfl rfl rfl (not_t (b_f c209)) fun a hE => ?_
                  refine gP hE rfl rfl rfl (not_t (b_f c209)) fun a hE => ?_
                  refine s1 hE rfl (d_pT hE rfl (not_t (b_f c209)) rfl) fun a hE => ?_
                  refine wpList_nil ?_
                  cases hm
                  have H := St.get H 1 rfl
                  have H := St.del H 2
                  exact ⟨hE.sub ⟨rfl, rfl, rfl, rfl, rfl, rfl, rfl, trivial⟩, H⟩
        · rw [if_neg c203] at hm
          refine gP hE rfl rfl rfl (not_t (b_f c203)) fun a hE => ?_
          refine gP hE rfl rfl rfl (not_t (b_f c203)) fun a hE => ?_
          refine gP hE rfl rfl rfl (not_t (b_f c203)) fun a hE => ?_
          refine s1 hE rfl (d_pT hE rfl (not_t (b_f c203)) rfl) fun a hE => ?_
          refine s1 hE rfl (d_move hE rfl) fun a hE => ?_
          refine gP hE rfl rfl rfl rfl fun a hE => ?_
          refine gP hE rfl rfl rfl rfl fun a hE => ?_
          refine gP hE rfl rfl rfl rfl fun a hE => ?_
          refine s1 hE rfl (d_pT hE rfl rfl rfl) fun a hE => ?_
          refine s1 hE rfl (d_move hE rfl) fun a hE => ?_
          refine gP hE rfl rfl rfl rfl fun a hE => ?_
          refine gP hE rfl rfl rfl rfl fun a hE => ?_
          refine s1 hE rfl (d_pT hE rfl rfl rfl) fun a hE => ?_
          refine s1 hE rfl (d_move hE rfl) fun a hE => ?_
          refine gP hE rfl rfl rfl rfl fun a hE => ?_
          refine gP hE rfl rfl rfl rfl fun a hE => ?_
          refine gP hE rfl rfl rfl rfl fun a hE => ?_
          refine gP hE rfl rfl rfl rfl fun a hE => ?_
          refine s1 hE rfl (d_pT hE rfl rfl rfl) fun a hE => ?_
          refine s1 hE rfl (d_move hE rfl) fun a hE => ?_
          refine gP hE rfl rfl rfl rfl fun a hE => ?_
          refine gP hE rfl rfl rfl rfl fun a hE => ?_
          refine gP hE rfl rfl rfl rfl fun a hE => ?_
          refine gP hE rfl rfl rfl rfl fun a hE => ?_
          refine s1 hE rfl (d_pT hE rfl rfl rfl) fun a hE => ?_
          refine wpList_nil ?_
          cases hm
          have H := St.get H 1 rfl
          have H := St.del H 2
          exact ⟨hE.sub ⟨rfl, rfl, rfl, rfl, rfl, rfl, rfl, trivial⟩, H⟩
      · rintro a w ⟨hE, H⟩
        by_cases c221 : s200 = true
        · rw [if_pos c221] at hm
          refine cT hE rfl c221 ?_
          refine wp_seq ?_
          obtain ⟨s226, hj226, hm⟩ := bnd hm
          refine cut2 (fun a w => Env a 89 [(4, (.bool s226))] ∧ St z I w (r)) ?_ ?_
          · have hm := hj226
            refine wp_region_lit ?_
            refine s1 hE rfl (d_move hE rfl) fun a hE => ?_
            refine s1 hE rfl (d_lenS Try.underlying74 hE rfl H (Rd.own 0 rfl)) fun a hE => ?_
            refine s1 hE rfl (d_eql hE rfl rfl) fun a hE => ?_
            refine s1 hE rfl (d_move hE rfl) fun a hE => ?_
            by_cases c227 : (x177.length : Int) = 0
            · rw [if_pos c227] at hm
              refine gR hE rfl rfl (decide_eq_true c227) ?_
              obtain ⟨x228, hc229, hm⟩ := bnd hm
              refine s2 hE rfl (d_call c40 hE rfl (f40_ok k  hc229 hz H)) fun a v w hR hE => ?_
              obtain ⟨hv_, H⟩ := hR
              have hv_ := hv_.symm
              subst hv_
              refine s1 hE rfl (d_pT hE rfl (decide_eq_true c227) rfl) fun a hE => ?_
              refine s1 hE rfl (d_assign hE rfl) fun a hE => ?_
              refine wpList_nil ?_
              cases hm
              have H := St.del H 0
              have H := St.del H 0
              exact ⟨hE.sub ⟨rfl, trivial⟩, H⟩
            · rw [if_neg c227] at hm
              refine gP hE rfl rfl rfl (decide_eq_false c227) fun a hE => ?_
              refine s1 hE rfl (d_pF hE rfl (decide_eq_false c227) rfl) fun a hE => ?_
              refine s1 hE rfl (d_assign hE rfl) fun a hE => ?_
              refine wpList_nil ?_
              cases hm
              have H := St.del H 0
              have H := St.del H 0
              exact ⟨hE.sub ⟨rfl, trivial⟩, H⟩
          · rintro a w ⟨hE, H⟩
            refine wp_ret ?_
            cases hm
            exact ret1 rfl hE rfl ⟨_, rfl, rfl, H⟩
        · rw [if_neg c221] at hm
          refine cF hE rfl (b_f c221) ?_
          refine wp_skip ?_
          refine wp_seq ?_
          refine wp_seq ?_
          refine wp_region_lit ?_
          refine s1 hE rfl (d_move hE rfl) fun a hE => ?_
          refine s1 hE rfl (d_lenS Try.underlying51 hE rfl H (Rd.own 1 rfl)) fun a hE => ?_
          refine s1 hE rfl (d_gtr hE rfl rfl) fun a hE => ?_
          refine wpList_nil ?_
          by_cases c235 : 6 < (x183.length : Int)
          · rw [if_pos c235] at hm
            refine cT hE rfl (decide_eq_true c235) ?_
            refine wp_seq ?_
            refine wp_region_lit ?_
            obtain ⟨x238, hc239, hm⟩ := bnd hm
            refine s2 hE rfl (d_call c40 hE rfl (f40_ok k  hc239 hz H)) fun a v w hR hE => ?_
            obtain ⟨hv_, H⟩ := hR
            have hv_ := hv_.symm
            subst hv_
            refine s1 hE rfl (d_assign hE rfl) fun a hE => ?_
            refine wpList_nil ?_
            refine wp_ret ?_
            cases hm
            have H := St.del H 0
            have H := St.del H 0
            exact ret1 rfl hE rfl ⟨_, rfl, rfl, H⟩
          · rw [if_neg c235] at hm
            refine cF hE rfl (decide_eq_false c235) ?_
            refine wp_skip ?_
            refine wp_seq ?_
            refine wp_region_lit ?_
            refine s1 hE rfl (d_move hE rfl) fun a hE => ?_
            refine s1 hE rfl (d_move hE rfl) fun a hE => ?_
            refine s2 hE rfl (d_lit (c := (cInt .i64)) (xs := [a1.From]) hE rfl (lit51_1 _) rfl rfl (fun J h iJ s => rowsC (cs := [(.int .i64 a1.From)]) rfl (rows0)) H) fun a v w hR hE => ?_
            obtain ⟨v244, rfl⟩ : ∃ x, x = v := ⟨v, rfl⟩
            have H : St z I w (OwnSl (cInt .i64) v244 ([a1.From]) :: OwnSl c_api_Path v179 x177 :: OwnSl (cInt .i64) v185 x183 :: r) := hR
            refine s1 hE rfl (d_move hE rfl) fun a hE => ?_
            obtain ⟨x245, hc246, hm⟩ := bnd hm
            have H := St.nil (c := c_api_Path) H none
            have H : St z I w (OwnSl c_api_Path (.slice none 0 0) [] :: OwnSl (cInt .i64) v244 ([a1.From]) :: OwnSl c_api_Path v179 x177 :: OwnSl (cInt .i64) v185 x183 :: r) := H
            refine s2 hE rfl (d_call c42 hE rfl (f42_ok k a0 ([a1.From]) a1.To [] hc246 (Rd.cons (Rd.cons (Rd.cons hr0))) (Rd.own 0 rfl) H)) fun a v w hR hE => ?_
            obtain ⟨v247, hv_, H⟩ := hR
            have hv_ := hv_.symm
            subst hv_
            refine s1 hE rfl (d_assign hE rfl) fun a hE => ?_
            refine wpList_nil ?_
            refine wp_seq ?_
            refine wp_region_lit ?_
            refine s1 hE rfl (d_move hE rfl) fun a hE => ?_
            refine s1 hE rfl (d_lenS Try.underlying74 hE rfl H (Rd.own 0 rfl)) fun a hE => ?_
            refine s1 hE rfl (d_assign hE rfl) fun a hE => ?_
            refine wpList_nil ?_
            refine wp_seq ?_
            refine wp_seq ?_
            refine wp_region_lit ?_
            refine s1 hE rfl (d_move hE rfl) fun a hE => ?_
            refine s1 hE rfl (d_move hE rfl) fun a hE => ?_
            refine s1 hE rfl (d_lss hE rfl rfl) fun a hE => ?_
            refine wpList_nil ?_
            obtain ⟨s250, hj250, hm⟩ := bnd hm
            refine cut2 (fun a w => Env a 89 [(8, v179), (10, v247), (11, (.int .i64 s250))] ∧ St z I w (OwnSl c_api_Path v179 x177 :: OwnSl c_api_Path v247 x245 :: r)) ?_ ?_
            · have hm := hj250
              by_cases c251 : a1.Most < (x245.length : Int)
              · rw [if_pos c251] at hm
                refine cT hE rfl (decide_eq_true c251) ?_
                refine wp_region_lit ?_
                refine s1 hE rfl (d_move hE rfl) fun a hE => ?_
                refine s1 hE rfl (d_assign hE rfl) fun a hE => ?_
                refine wpList_nil ?_
                cases hm
                have H := St.get H 2 rfl
                have H := St.del H 2
                have H := St.del H 2
                exact ⟨hE.sub ⟨rfl, rfl, rfl, trivial⟩, H⟩
              · rw [if_neg c251] at hm
                refine cF hE rfl (decide_eq_false c251) ?_
                refine wp_skip ?_
                cases hm
                have H := St.get H 2 rfl
                have H := St.del H 2
                have H := St.del H 2
                exact ⟨hE.sub ⟨rfl, rfl, rfl, trivial⟩, H⟩
            · rintro a w ⟨hE, H⟩
              refine wp_seq ?_
              refine wp_seq ?_
              refine wp_region_lit ?_
              refine s1 hE rfl (d_move hE rfl) fun a hE => ?_
              refine s1 hE rfl (d_gtr hE rfl rfl) fun a hE => ?_
              refine wpList_nil ?_
              obtain ⟨s254, hj254, hm⟩ := bnd hm
              refine cut2 (fun a w => Env a 89 [(8, v179), (10, v247), (11, (.int .i64 s254))] ∧ St z I w (OwnSl c_api_Path v179 x177 :: OwnSl c_api_Path v247 x245 :: r)) ?_ ?_
              · have hm := hj254
                by_cases c255 : 20 < s250
                · rw [if_pos c255] at hm
                  refine cT hE rfl (decide_eq_true c255) ?_
                  refine wp_region_lit ?_
                  refine s1 hE rfl (d_assign hE rfl) fun a hE => ?_
                  refine wpList_nil ?_
                  cases hm
                  exact ⟨hE.sub ⟨rfl, rfl, rfl, trivial⟩, H⟩
                · rw [if_neg c255] at hm
                  refine cF hE rfl (decide_eq_false c255) ?_
                  refine wp_skip ?_
                  cases hm
                  exact ⟨hE.sub ⟨rfl, rfl, rfl, trivial⟩, H⟩
              · rintro a w ⟨hE, H⟩
                refine wp_seq ?_
                obtain ⟨s264, hj264, hm⟩ := bnd hm
                refine cut2 (fun a w => Env a 89 [(4, (.bool s264))] ∧ St z I w (r)) ?_ ?_
                · have hm := hj264
                  refine wp_region_lit ?_
                  refine s1 hE rfl (d_move hE rfl) fun a hE => ?_
                  refine s1 hE rfl (d_move hE rfl) fun a hE => ?_
                  refine s1 hE rfl (d_move hE rfl) fun a hE => ?_
                  obtain ⟨l265, hl266, hm⟩ := bnd hm
                  refine s1 hE rfl (d_sliceR (c := c_api_Path) (lo := 0) (hi := s254) sl74 hE rfl (.inr ⟨rfl, rfl⟩) (.inl ⟨_, rfl, rfl⟩) hl266 H (Rd.own 1 rfl)) fun a hE => ?_
                  obtain ⟨x267, hc268, hm⟩ := bnd hm
                  refine s2 hE rfl (d_call c43 hE rfl (f43_ok k x177 l265 hc268 (Rd.own 0 rfl) (Rd.cut hl266 (Rd.own 1 rfl)) H)) fun a v w hR hE => ?_
                  obtain ⟨hv_, H⟩ := hR
                  have hv_ := hv_.symm
                  subst hv_
                  refine s1 hE rfl (d_move hE rfl) fun a hE => ?_
                  by_cases c269 : x267 = true
                  · rw [if_pos c269] at hm
                    refine gR hE rfl rfl c269 ?_
                    obtain ⟨x270, hc271, hm⟩ := bnd hm
                    refine s2 hE rfl (d_call c40 hE rfl (f40_ok k  hc271 hz H)) fun a v w hR hE => ?_
                    obtain ⟨hv_, H⟩ := hR
                    have hv_ := hv_.symm
                    subst hv_
                    refine s1 hE rfl (d_pT hE rfl c269 rfl) fun a hE => ?_
                    refine s1 hE rfl (d_assign hE rfl) fun a hE => ?_
                    refine wpList_nil ?_
                    cases hm
                    have H := St.del H 0
                    have H := St.del H 0
                    exact ⟨hE.sub ⟨rfl, trivial⟩, H⟩
                  · rw [if_neg c269] at hm
                    refine gP hE rfl rfl rfl (b_f c269) fun a hE => ?_
                    refine s1 hE rfl (d_pF hE rfl (b_f c269) rfl) fun a hE => ?_
                    refine s1 hE rfl (d_assign hE rfl) fun a hE => ?_
                    refine wpList_nil ?_
                    cases hm
                    have H := St.del H 0
                    have H := St.del H 0
                    exact ⟨hE.sub ⟨rfl, trivial⟩, H⟩
                · rintro a w ⟨hE, H⟩
                  refine wp_ret ?_
                  cases hm
                  exact ret1 rfl hE rfl ⟨_, rfl, rfl, H⟩
end Go.Proofs.Ytbielnhpfbhkgaa
