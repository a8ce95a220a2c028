/- Functions and what their calls do, by program (gen.py). -/
import Derived.Test.YtbielnhpfbhkgaaR0
set_option linter.unusedVariables false
set_option linter.unusedSimpArgs false
namespace Go.Proofs.Ytbielnhpfbhkgaa
open Go Go.RowKit
def m56_l1 (a0 : List S_api_Ways) (a1 : List S_api_Ways) (y1714 : Int) : Nat → Int → Option (Out Bool Unit)
  | 0, _ => none
  | k + 1, y2438 => Option.bind (rdx a0 y1714) fun x2495 => if y2438 < (x2495.Via.length : Int) then (Option.bind (rdx a0 y1714) fun x2532 => Option.bind (rdx x2532.Via y2438) fun x2535 => Option.bind (rdx a1 y1714) fun x2537 => Option.bind (rdx x2537.Via y2438) fun x2540 => if x2535 = x2540 then (m56_l1 a0 a1 y1714 k (IntKind.i64.wrap (y2438 + 1))) else (some (.ret false))) else (some (.go ()))
def m56_l0 (a0 : List S_api_Ways) (a1 : List S_api_Ways) : Nat → Int → Option (Out Bool Unit)
  | 0, _ => none
  | k + 1, y1714 => if y1714 < (a0.length : Int) then (Option.bind (α := Bool) (Option.bind (rdx a0 y1714) fun x2363 => Option.bind (rdx a1 y1714) fun x2365 => if x2363.To = x2365.To then (Option.bind (rdx a0 y1714) fun x2368 => Option.bind (rdx a1 y1714) fun x2370 => if x2368.Cost = x2370.Cost then (Option.bind (rdx a0 y1714) fun x2373 => Option.bind (rdx a1 y1714) fun x2375 => if x2373.Many = x2375.Many then (Option.bind (rdx a0 y1714) fun x2378 => Option.bind (rdx a1 y1714) fun x2381 => some (!(decide ((x2378.Via.length : Int) = (x2381.Via.length : Int))))) else (some true)) else (some true)) else (some true)) fun s2362 => if s2362 = true then (some (.ret false)) else (Option.bind (m56_l1 a0 a1 y1714 k 0) fun s2491 => s2491.on (fun q_ => some (.ret q_)) fun s2491 => m56_l0 a0 a1 k (IntKind.i64.wrap (y1714 + 1)))) else (some (.go ()))
def m56 (k : Nat) (a0 : List S_api_Ways) (a1 : List S_api_Ways) : Option Bool := if (a0.length : Int) = (a1.length : Int) then (Option.bind (m56_l0 a0 a1 k 0) fun s2129 => s2129.on (fun q_ => some q_) fun s2129 => some true) else (some false)
set_option maxRecDepth 20000 in
set_option maxHeartbeats 4000000 in
theorem f56_ok (k : Nat) {u0 : Value} (a0 : List S_api_Ways) {u1 : Value} (a1 : List S_api_Ways) {res : Bool} (hm : m56 k a0 a1 = some res) {z w : World} {I : Hp} {r : List Asn} (hr0 : Rd c_api_Ways I r u0 a0) (hr1 : Rd c_api_Ways I r u1 a1) (H : St z I w (r)) :
    Calls Try.prog 56 #[u0, u1] w (Rt fun v w' => v = (.bool res) ∧ St z I w' (r)) := by
  unfold m56 at hm
  refine enter (args := [u0, u1]) Try.func56 rfl Try.ntmps56 rfl fun a hE => ?_
  refine wp_seq ?_
  refine wp_region_lit ?_
  refine s1 hE rfl (d_assign hE rfl) fun a hE => ?_
  refine wpList_nil ?_
  refine wp_seq ?_
  refine wp_seq ?_
  refine wp_region_lit ?_
  refine s1 hE rfl (d_move hE rfl) fun a hE => ?_
  refine s1 hE rfl (d_lenS Try.underlying87 hE rfl H hr0) fun a hE => ?_
  refine s1 hE rfl (d_move hE rfl) fun a hE => ?_
  refine s1 hE rfl (d_lenS Try.underlying87 hE rfl H hr1) fun a hE => ?_
  refine s1 hE rfl (d_neq hE rfl rfl) fun a hE => ?_
  refine wpList_nil ?_
  by_cases c1299 : (a0.length : Int) = (a1.length : Int)
  · rw [if_pos c1299] at hm
    refine cF hE rfl (not_f (decide_eq_true c1299)) ?_
    refine wp_skip ?_
    refine wp_seq ?_
    refine wp_seq ?_
    refine wp_region_lit ?_
    refine s1 hE rfl (d_assign hE rfl) fun a hE => ?_
    refine wpList_nil ?_
    obtain ⟨s2129, hj2129, hq2129⟩ := bnd hm
    refine cut2 (fun a w => ∃ s_ : Unit, s2129 = .go s_ ∧ Env a 97 [] ∧ St z I w (r)) ?_ ?_
    · refine wp_block ?_
      refine loopI (fun k a w => ∃ y1714 : Int, m56_l0 a0 a1 k y1714 = some s2129 ∧ Env a 97 [(0, u0), (1, u1), (5, (.int .i64 y1714))] ∧ St z I w (r)) ?_ k _ _ ?_
      · rintro k a w ⟨y1714, hm, hE, H⟩
        cases k with
        | zero => rw [m56_l0] at hm; cases hm
        | succ k =>
          rw [m56_l0] at hm
          refine wp_seq ?_
          refine wp_seq ?_
          refine wp_region_lit ?_
          refine s1 hE rfl (d_move hE rfl) fun a hE => ?_
          refine s1 hE rfl (d_move hE rfl) fun a hE => ?_
          refine s1 hE rfl (d_lenS Try.underlying87 hE rfl H hr0) fun a hE => ?_
          refine s1 hE rfl (d_lss hE rfl rfl) fun a hE => ?_
          refine wpList_nil ?_
          by_cases c2131 : y1714 < (a0.length : Int)
          · rw [if_pos c2131] at hm
            refine cT hE rfl (decide_eq_true c2131) ?_
            refine wp_skip ?_
            refine wp_seq ?_
            refine wp_block ?_
            refine wp_seq ?_
            refine wp_seq ?_
            obtain ⟨s2362, hj2362, hm⟩ := bnd hm
            refine cut2 (fun a w => Env a 97 [(0, u0), (1, u1), (5, (.int .i64 y1714)), (69, (.bool s2362))] ∧ St z I w (r)) ?_ ?_
            · have hm := hj2362
              obtain ⟨x2363, hx2364, hm⟩ := bnd hm
              obtain ⟨x2365, hx2366, hm⟩ := bnd hm
              by_cases c2367 : x2363.To = x2365.To
              · rw [if_pos c2367] at hm
                obtain ⟨x2368, hx2369, hm⟩ := bnd hm
                obtain ⟨x2370, hx2371, hm⟩ := bnd hm
                by_cases c2372 : x2368.Cost = x2370.Cost
                · rw [if_pos c2372] at hm
                  obtain ⟨x2373, hx2374, hm⟩ := bnd hm
                  obtain ⟨x2375, hx2376, hm⟩ := bnd hm
                  by_cases c2377 : x2373.Many = x2375.Many
                  · rw [if_pos c2377] at hm
                    obtain ⟨x2378, hx2379, hm⟩ := bnd hm
                    obtain ⟨x2381, hx2382, hm⟩ := bnd hm
                    refine Dr.region (γ := Value × Value) (pre := [[], [], [0, 1], [0, 1, 2], [0, 1, 2, 3], [], [], [5, 6], [5, 6, 7], [5, 6, 7, 8], [0, 1, 2, 3, 4, 5, 6, 7, 8, 9], [0, 1, 2, 3, 4, 5, 6, 7, 8, 9, 10], [0, 1, 2, 3, 4, 5, 6, 7, 8, 9, 10, 11], [0, 1, 2, 3, 4, 5, 6, 7, 8, 9, 10, 11], [0, 1, 2, 3, 4, 5, 6, 7, 8, 9, 10, 11, 12, 13], [0, 1, 2, 3, 4, 5, 6, 7, 8, 9, 10, 11, 12, 13, 14], [0, 1, 2, 3, 4, 5, 6, 7, 8, 9, 10, 11, 12, 13, 14, 15], [0, 1, 2, 3, 4, 5, 6, 7, 8, 9, 10, 11], [0, 1, 2, 3, 4, 5, 6, 7, 8, 9, 10, 11], [0, 1, 2, 3, 4, 5, 6, 7, 8, 9, 10, 11, 17, 18], [0, 1, 2, 3, 4, 5, 6, 7, 8, 9, 10, 11, 17, 18, 19], [0, 1, 2, 3, 4, 5, 6, 7, 8, 9, 10, 11, 17, 18, 19, 20], [0, 1, 2, 3, 4, 5, 6, 7, 8, 9, 10, 11, 12, 13, 14, 15, 16, 17, 18, 19, 20, 21], [0, 1, 2, 3, 4, 5, 6, 7, 8, 9, 10, 11, 12, 13, 14, 15, 16, 17, 18, 19, 20, 21, 22], [0, 1, 2, 3, 4, 5, 6, 7, 8, 9, 10, 11, 12, 13, 14, 15, 16, 17, 18, 19, 20, 21, 22, 23], [0, 1, 2, 3, 4, 5, 6, 7, 8, 9, 10, 11, 12, 13, 14, 15, 16, 17, 18, 19, 20, 21, 22, 23, 24], [0, 1, 2, 3, 4, 5, 6, 7, 8, 9, 10, 11, 12, 13, 14, 15, 16, 17, 18, 19, 20, 21, 22, 23, 24], [0, 1, 2, 3, 4, 5, 6, 7, 8, 9, 10, 11, 12, 13, 14, 15, 16, 17, 18, 19, 20, 21, 22, 23, 24, 25, 26], [0, 1, 2, 3, 4, 5, 6, 7, 8, 9, 10, 11, 12, 13, 14, 15, 16, 17, 18, 19, 20, 21, 22, 23, 24, 25, 26, 27], [0, 1, 2, 3, 4, 5, 6, 7, 8, 9, 10, 11, 12, 13, 14, 15, 16, 17, 18, 19, 20, 21, 22, 23, 24, 25, 26, 27, 28], [0, 1, 2, 3, 4, 5, 6, 7, 8, 9, 10, 11, 12, 13, 14, 15, 16, 17, 18, 19, 20, 21, 22, 23, 24], [0, 1, 2, 3, 4, 5, 6, 7, 8, 9, 10, 11, 12, 13, 14, 15, 16, 17, 18, 19, 20, 21, 22, 23, 24], [0, 1, 2, 3, 4, 5, 6, 7, 8, 9, 10, 11, 12, 13, 14, 15, 16, 17, 18, 19, 20, 21, 22, 23, 24, 30, 31], [0, 1, 2, 3, 4, 5, 6, 7, 8, 9, 10, 11, 12, 13, 14, 15, 16, 17, 18, 19, 20, 21, 22, 23, 24, 30, 31, 32], [0, 1, 2, 3, 4, 5, 6, 7, 8, 9, 10, 11, 12, 13, 14, 15, 16, 17, 18, 19, 20, 21, 22, 23, 24, 30, 31, 32, 33], [0, 1, 2, 3, 4, 5, 6, 7, 8, 9, 10, 11, 12, 13, 14, 15, 16, 17, 18, 19, 20, 21, 22, 23, 24, 25, 26, 27, 28, 29, 30, 31, 32, 33, 34], [0, 1, 2, 3, 4, 5, 6, 7, 8, 9, 10, 11, 12, 13, 14, 15, 16, 17, 18, 19, 20, 21, 22, 23, 24, 25, 26, 27, 28, 29, 30, 31, 32, 33, 34, 35], [0, 1, 2, 3, 4, 5, 6, 7, 8, 9, 10, 11, 12, 13, 14, 15, 16, 17, 18, 19, 20, 21, 22, 23, 24, 25, 26, 27, 28, 29, 30, 31, 32, 33, 34, 35, 36], [0, 1, 2, 3, 4, 5, 6, 7, 8, 9, 10, 11, 12, 13, 14, 15, 16, 17, 18, 19, 20, 21, 22, 23, 24, 25, 26, 27, 28, 29, 30, 31, 32, 33, 34, 35, 36, 37], [0, 1, 2, 3, 4, 5, 6, 7, 8, 9, 10, 11, 12, 13, 14, 15, 16, 17, 18, 19, 20, 21, 22, 23, 24, 25, 26, 27, 28, 29, 30, 31, 32, 33, 34, 35, 36, 37], [0, 1, 2, 3, 4, 5, 6, 7, 8, 9, 10, 11, 12, 13, 14, 15, 16, 17, 18, 19, 20, 21, 22, 23, 24, 25, 26, 27, 28, 29, 30, 31, 32, 33, 34, 35, 36, 37, 38, 39], [0, 1, 2, 3, 4, 5, 6, 7, 8, 9, 10, 11, 12, 13, 14, 15, 16, 17, 18, 19, 20, 21, 22, 23, 24, 25, 26, 27, 28, 29, 30, 31, 32, 33, 34, 35, 36, 37, 38, 39, 40], [0, 1, 2, 3, 4, 5, 6, 7, 8, 9, 10, 11, 12, 13, 14, 15, 16, 17, 18, 19, 20, 21, 22, 23, 24, 25, 26, 27, 28, 29, 30, 31, 32, 33, 34, 35, 36, 37, 38, 39, 40, 41], [0, 1, 2, 3, 4, 5, 6, 7, 8, 9, 10, 11, 12, 13, 14, 15, 16, 17, 18, 19, 20, 21, 22, 23, 24, 25, 26, 27, 28, 29, 30, 31, 32, 33, 34, 35, 36, 37, 38, 39, 40, 41, 42], [0, 1, 2, 3, 4, 5, 6, 7, 8, 9, 10, 11, 12, 13, 14, 15, 16, 17, 18, 19, 20, 21, 22, 23, 24, 25, 26, 27, 28, 29, 30, 31, 32, 33, 34, 35, 36, 37], [0, 1, 2, 3, 4, 5, 6, 7, 8, 9, 10, 11, 12, 13, 14, 15, 16, 17, 18, 19, 20, 21, 22, 23, 24, 25, 26, 27, 28, 29, 30, 31, 32, 33, 34, 35, 36, 37], [0, 1, 2, 3, 4, 5, 6, 7, 8, 9, 10, 11, 12, 13, 14, 15, 16, 17, 18, 19, 20, 21, 22, 23, 24, 25, 26, 27, 28, 29, 30, 31, 32, 33, 34, 35, 36, 37, 44, 45], [0, 1, 2, 3, 4, 5, 6, 7, 8, 9, 10, 11, 12, 13, 14, 15, 16, 17, 18, 19, 20, 21, 22, 23, 24, 25, 26, 27, 28, 29, 30, 31, 32, 33, 34, 35, 36, 37, 44, 45, 46], [0, 1, 2, 3, 4, 5, 6, 7, 8, 9, 10, 11, 12, 13, 14, 15, 16, 17, 18, 19, 20, 21, 22, 23, 24, 25, 26, 27, 28, 29, 30, 31, 32, 33, 34, 35, 36, 37, 44, 45, 46, 47], [0, 1, 2, 3, 4, 5, 6, 7, 8, 9, 10, 11, 12, 13, 14, 15, 16, 17, 18, 19, 20, 21, 22, 23, 24, 25, 26, 27, 28, 29, 30, 31, 32, 33, 34, 35, 36, 37, 44, 45, 46, 47, 48], [0, 1, 2, 3, 4, 5, 6, 7, 8, 9, 10, 11, 12, 13, 14, 15, 16, 17, 18, 19, 20, 21, 22, 23, 24, 25, 26, 27, 28, 29, 30, 31, 32, 33, 34, 35, 36, 37, 38, 39, 40, 41, 42, 43, 44, 45, 46, 47, 48, 49], [0, 1, 2, 3, 4, 5, 6, 7, 8, 9, 10, 11, 12, 13, 14, 15, 16, 17, 18, 19, 20, 21, 22, 23, 24, 25, 26, 27, 28, 29, 30, 31, 32, 33, 34, 35, 36, 37, 38, 39, 40, 41, 42, 43, 44, 45, 46, 47, 48, 49, 50]]) (val := [some u0, some (.int .i64 y1714), some (.pointer (some (ad (sb u0) (so u0 + (Int.toNat y1714) * c_api_Ways.n)))), some (.pointer (some (ad (sb u0) (so u0 + (Int.toNat y1714) * c_api_Ways.n + 0)))), some (.int .i64 x2363.To), some u1, some (.int .i64 y1714), some (.pointer (some (ad (sb u1) (so u1 + (Int.toNat y1714) * c_api_Ways.n)))), some (.pointer (some (ad (sb u1) (so u1 + (Int.toNat y1714) * c_api_Ways.n + 0)))), some (.int .i64 x2365.To), some (.bool (!(decide (x2363.To = x2365.To)))), some (.bool (!(decide (x2363.To = x2365.To)))), some u0, some (.int .i64 y1714), some (.pointer (some (ad (sb u0) (so u0 + (Int.toNat y1714) * c_api_Ways.n)))), some (.pointer (some (ad (sb u0) (so u0 + (Int.toNat y1714) * c_api_Ways.n + 1)))), some (.int .u64 x2368.Cost), some u1, some (.int .i64 y1714), some (.pointer (some (ad (sb u1) (so u1 + (Int.toNat y1714) * c_api_Ways.n)))), some (.pointer (some (ad (sb u1) (so u1 + (Int.toNat y1714) * c_api_Ways.n + 1)))), some (.int .u64 x2370.Cost), some (.bool (!(decide (x2368.Cost = x2370.Cost)))), some (.bool (!(decide (x2368.Cost = x2370.Cost)))), some (.bool (!(decide (x2368.Cost = x2370.Cost)))), some u0, some (.int .i64 y1714), some (.pointer (some (ad (sb u0) (so u0 + (Int.toNat y1714) * c_api_Ways.n)))), some (.pointer (some (ad (sb u0) (so u0 + (Int.toNat y1714) * c_api_Ways.n + 3)))), some (.int .u64 x2373.Many), some u1, some (.int .i64 y1714), some (.pointer (some (ad (sb u1) (so u1 + (Int.toNat y1714) * c_api_Ways.n)))), some (.pointer (some (ad (sb u1) (so u1 + (Int.toNat y1714) * c_api_Ways.n + 3)))), some (.int .u64 x2375.Many), some (.bool (!(decide (x2373.Many = x2375.Many)))), some (.bool (!(decide (x2373.Many = x2375.Many)))), some (.bool (!(decide (x2373.Many = x2375.Many)))), some u0, some (.int .i64 y1714), some (.pointer (some (ad (sb u0) (so u0 + (Int.toNat y1714) * c_api_Ways.n)))), some (.pointer (some (ad (sb u0) (so u0 + (Int.toNat y1714) * c_api_Ways.n + 2)))), none, none, some u1, some (.int .i64 y1714), some (.pointer (some (ad (sb u1) (so u1 + (Int.toNat y1714) * c_api_Ways.n)))), some (.pointer (some (ad (sb u1) (so u1 + (Int.toNat y1714) * c_api_Ways.n + 2)))), none, none, none, none]) (eff := [42, 43, 48, 49, 50, 51]) (mask := [[], [42], [48], [42, 43], [42, 48], [48, 49], [42, 43, 48], [42, 48, 49], [42, 43, 48, 49], [42, 43, 48, 49, 50], [42, 43, 48, 49, 50, 51]]) (keys := [[], [60], [66], [61, 60], [66, 60], [67, 66], [66, 61, 60], [67, 66, 60], [67, 66, 61, 60], [68, 67, 66, 61, 60], [69, 68, 67, 66, 61, 60]]) (src := [[.base 0], [.base 5], [.op 0, .op 1], [.op 2], [.op 3], [.base 1], [.base 5], [.op 5, .op 6], [.op 7], [.op 8], [.op 4, .op 9], [.op 10], [.base 0, .op 11], [.base 5, .op 11], [.op 11, .op 12, .op 13], [.op 11, .op 14], [.op 11, .op 15], [.base 1, .op 11], [.base 5, .op 11], [.op 11, .op 17, .op 18], [.op 11, .op 19], [.op 11, .op 20], [.op 11, .op 16, .op 21], [.op 11, .op 22], [.op 23], [.base 0, .op 24], [.base 5, .op 24], [.op 24, .op 25, .op 26], [.op 24, .op 27], [.op 24, .op 28], [.base 1, .op 24], [.base 5, .op 24], [.op 24, .op 30, .op 31], [.op 24, .op 32], [.op 24, .op 33], [.op 24, .op 29, .op 34], [.op 24, .op 35], [.op 36], [.base 0, .op 37], [.base 5, .op 37], [.op 37, .op 38, .op 39], [.op 37, .op 40], [.op 37, .op 41], [.op 37], [.base 1, .op 37], [.base 5, .op 37], [.op 37, .op 44, .op 45], [.op 37, .op 46], [.op 37, .op 47], [.op 37], [.op 37], [.op 37]]) (z := z) (ef := fun p g => ([[], [(60, g.1)], [(66, g.2)], [(61, (.int .i64 (x2378.Via.length : Int))), (60, g.1)], [(66, g.2), (60, g.1)], [(67, (.int .i64 (x2381.Via.length : Int))), (66, g.2)], [(66, g.2), (61, (.int .i64 (x2378.Via.length : Int))), (60, g.1)], [(67, (.int .i64 (x2381.Via.length : Int))), (66, g.2), (60, g.1)], [(67, (.int .i64 (x2381.Via.length : Int))), (66, g.2), (61, (.int .i64 (x2378.Via.length : Int))), (60, g.1)], [(68, (.bool (!(decide ((x2378.Via.length : Int) = (x2381.Via.length : Int)))))), (67, (.int .i64 (x2381.Via.length : Int))), (66, g.2), (61, (.int .i64 (x2378.Via.length : Int))), (60, g.1)], [(69, (.bool (!(decide ((x2378.Via.length : Int) = (x2381.Via.length : Int)))))), (68, (.bool (!(decide ((x2378.Via.length : Int) = (x2381.Via.length : Int)))))), (67, (.int .i64 (x2381.Via.length : Int))), (66, g.2), (61, (.int .i64 (x2378.Via.length : Int))), (60, g.1)]] : List (List (Nat × Value))).getD p []) (hi := fun _ _ => I) (rs := fun p g => ([r, ImR (cInt .i64) g.1 x2378.Via :: r, ImR (cInt .i64) g.2 x2381.Via :: r, ImR (cInt .i64) g.1 x2378.Via :: r, ImR (cInt .i64) g.2 x2381.Via :: ImR (cInt .i64) g.1 x2378.Via :: r, ImR (cInt .i64) g.2 x2381.Via :: r, ImR (cInt .i64) g.2 x2381.Via :: ImR (cInt .i64) g.1 x2378.Via :: r, ImR (cInt .i64) g.2 x2381.Via :: ImR (cInt .i64) g.1 x2378.Via :: r, ImR (cInt .i64) g.2 x2381.Via :: ImR (cInt .i64) g.1 x2378.Via :: r, ImR (cInt .i64) g.2 x2381.Via :: ImR (cInt .i64) g.1 x2378.Via :: r, ImR (cInt .i64) g.2 x2381.Via :: ImR (cInt .i64) g.1 x2378.Via :: r] : List (List Asn)).getD p []) [(0, 0), (1, 0), (2, 0), (3, 0), (4, 0), (5, 0), (6, 0), (7, 0), (8, 0), (9, 0), (10, 0), (11, 0), (12, 0), (13, 0), (14, 0), (15, 0), (16, 0), (17, 0), (18, 0), (19, 0), (20, 0), (21, 0), (22, 0), (23, 0), (24, 0), (25, 0), (26, 0), (27, 0), (28, 0), (29, 0), (30, 0), (31, 0), (32, 0), (33, 0), (34, 0), (35, 0), (36, 0), (37, 0), (38, 0), (39, 0), (40, 0), (41, 0), (44, 0), (45, 0), (46, 0), (47, 0), (44, 1), (45, 1), (46, 1), (47, 1), (38, 2), (39, 2), (40, 2), (41, 2), (44, 3), (45, 3), (46, 3), (47, 3), (38, 5), (39, 5), (40, 5), (41, 5)] [(0, 42, 1), (0, 48, 2), (1, 43, 3), (1, 48, 4), (2, 42, 4), (2, 49, 5), (3, 48, 6), (4, 43, 6), (4, 49, 7), (5, 42, 7), (6, 49, 8), (7, 43, 8), (8, 50, 9), (9, 51, 10)] [0, 1, 2, 3, 4, 5, 6, 7, 8, 9, 10, 11, 12, 13, 14, 15, 16, 17, 18, 19, 20, 21, 22, 23, 24, 25, 26, 27, 28, 29, 30, 31, 32, 33, 34, 35, 36, 37, 38, 39, 40, 41, 44, 45, 46, 47] 10 mo hE (undef, undef) rfl H (by kernel_rfl) (by kernel_rfl) (fun p g => by rcases p with _ | _ | _ | _ | _ | _ | _ | _ | _ | _ | _ | p <;> rfl) ?_ ?_ (by kernel_rfl) (by kernel_rfl) ?_
                    · exact ⟨by intro a w g hE H; obtain ⟨v2380, v2383⟩ := g; exact Dr.is H rfl (Dr.run rfl (d_move hE rfl)),
    by intro a w g hE H; obtain ⟨v2380, v2383⟩ := g; exact Dr.is H rfl (Dr.run rfl (d_move hE rfl)),
    by intro a w g hE H; obtain ⟨v2380, v2383⟩ := g; exact Dr.is H rfl (Dr.run rfl (d_indexS sl87 hE rfl rfl H hr0 hx2364)),
    by intro a w g hE H; obtain ⟨v2380, v2383⟩ := g; exact Dr.is H rfl (Dr.run rfl (d_fieldAddr fld94_0 hE rfl)),
    by intro a w g hE H; obtain ⟨v2380, v2383⟩ := g; exact Dr.is H rfl (Dr.run rfl (d_loadSf (j := 0) sc3 hE rfl H hr0 hx2364 (fun _ _ e => by obtain ⟨_, rfl, _⟩ := e; rfl))),
    by intro a w g hE H; obtain ⟨v2380, v2383⟩ := g; exact Dr.is H rfl (Dr.run rfl (d_move hE rfl)),
    by intro a w g hE H; obtain ⟨v2380, v2383⟩ := g; exact Dr.is H rfl (Dr.run rfl (d_move hE rfl)),
    by intro a w g hE H; obtain ⟨v2380, v2383⟩ := g; exact Dr.is H rfl (Dr.run rfl (d_indexS sl87 hE rfl rfl H hr1 hx2366)),
    by intro a w g hE H; obtain ⟨v2380, v2383⟩ := g; exact Dr.is H rfl (Dr.run rfl (d_fieldAddr fld94_0 hE rfl)),
    by intro a w g hE H; obtain ⟨v2380, v2383⟩ := g; exact Dr.is H rfl (Dr.run rfl (d_loadSf (j := 0) sc3 hE rfl H hr1 hx2366 (fun _ _ e => by obtain ⟨_, rfl, _⟩ := e; rfl))),
    by intro a w g hE H; obtain ⟨v2380, v2383⟩ := g; exact Dr.is H rfl (Dr.run rfl (d_neq hE rfl rfl)),
    by intro a w g hE H; obtain ⟨v2380, v2383⟩ := g; exact Dr.is H rfl (Dr.run rfl (d_move hE rfl)),
    by intro a w g hE H; obtain ⟨v2380, v2383⟩ := g; exact Dr.is H rfl (Dr.rG rfl hE rfl rfl (not_f (decide_eq_true c2367)) (d_move hE rfl)),
    by intro a w g hE H; obtain ⟨v2380, v2383⟩ := g; exact Dr.is H rfl (Dr.rG rfl hE rfl rfl (not_f (decide_eq_true c2367)) (d_move hE rfl)),
    by intro a w g hE H; obtain ⟨v2380, v2383⟩ := g; exact Dr.is H rfl (Dr.rG rfl hE rfl rfl (not_f (decide_eq_true c2367)) (d_indexS sl87 hE rfl rfl H hr0 hx2369)),
    by intro a w g hE H; obtain ⟨v2380, v2383⟩ := g; exact Dr.is H rfl (Dr.rG rfl hE rfl rfl (not_f (decide_eq_true c2367)) (d_fieldAddr fld94_1 hE rfl)),
    by intro a w g hE H; obtain ⟨v2380, v2383⟩ := g; exact Dr.is H rfl (Dr.rG rfl hE rfl rfl (not_f (decide_eq_true c2367)) (d_loadSf (j := 1) sc61 hE rfl H hr0 hx2369 (fun _ _ e => by obtain ⟨_, rfl, _⟩ := e; rfl))),
    by intro a w g hE H; obtain ⟨v2380, v2383⟩ := g; exact Dr.is H rfl (Dr.rG rfl hE rfl rfl (not_f (decide_eq_true c2367)) (d_move hE rfl)),
    by intro a w g hE H; obtain ⟨v2380, v2383⟩ := g; exact Dr.is H rfl (Dr.rG rfl hE rfl rfl (not_f (decide_eq_true c2367)) (d_move hE rfl)),
    by intro a w g hE H; obtain ⟨v2380, v2383⟩ := g; exact Dr.is H rfl (Dr.rG rfl hE rfl rfl (not_f (decide_eq_true c2367)) (d_indexS sl87 hE rfl rfl H hr1 hx2371)),
    by intro a w g hE H; obtain ⟨v2380, v2383⟩ := g; exact Dr.is H rfl (Dr.rG rfl hE rfl rfl (not_f (decide_eq_true c2367)) (d_fieldAddr fld94_1 hE rfl)),
    by intro a w g hE H; obtain ⟨v2380, v2383⟩ := g; exact Dr.is H rfl (Dr.rG rfl hE rfl rfl (not_f (decide_eq_true c2367)) (d_loadSf (j := 1) sc61 hE rfl H hr1 hx2371 (fun _ _ e => by obtain ⟨_, rfl, _⟩ := e; rfl))),
    by intro a w g hE H; obtain ⟨v2380, v2383⟩ := g; exact Dr.is H rfl (Dr.rG rfl hE rfl rfl (not_f (decide_eq_true c2367)) (d_neq hE rfl rfl)),
    by intro a w g hE H; obtain ⟨v2380, v2383⟩ := g; exact Dr.is H rfl (Dr.run rfl (d_pF hE rfl (not_f (decide_eq_true c2367)) rfl)),
    by intro a w g hE H; obtain ⟨v2380, v2383⟩ := g; exact Dr.is H rfl (Dr.run rfl (d_move hE rfl)),
    by intro a w g hE H; obtain ⟨v2380, v2383⟩ := g; exact Dr.is H rfl (Dr.rG rfl hE rfl rfl (not_f (decide_eq_true c2372)) (d_move hE rfl)),
    by intro a w g hE H; obtain ⟨v2380, v2383⟩ := g; exact Dr.is H rfl (Dr.rG rfl hE rfl rfl (not_f (decide_eq_true c2372)) (d_move hE rfl)),
    by intro a w g hE H; obtain ⟨v2380, v2383⟩ := g; exact Dr.is H rfl (Dr.rG rfl hE rfl rfl (not_f (decide_eq_true c2372)) (d_indexS sl87 hE rfl rfl H hr0 hx2374)),
    by intro a w g hE H; obtain ⟨v2380, v2383⟩ := g; exact Dr.is H rfl (Dr.rG rfl hE rfl rfl (not_f (decide_eq_true c2372)) (d_fieldAddr fld94_3 hE rfl)),
    by intro a w g hE H; obtain ⟨v2380, v2383⟩ := g; exact Dr.is H rfl (Dr.rG rfl hE rfl rfl (not_f (decide_eq_true c2372)) (d_loadSf (j := 3) sc61 hE rfl H hr0 hx2374 (fun _ _ e => by obtain ⟨_, rfl, _⟩ := e; rfl))),
    by intro a w g hE H; obtain ⟨v2380, v2383⟩ := g; exact Dr.is H rfl (Dr.rG rfl hE rfl rfl (not_f (decide_eq_true c2372)) (d_move hE rfl)),
    by intro a w g hE H; obtain ⟨v2380, v2383⟩ := g; exact Dr.is H rfl (Dr.rG rfl hE rfl rfl (not_f (decide_eq_true c2372)) (d_move hE rfl)),
    by intro a w g hE H; obtain ⟨v2380, v2383⟩ := g; exact Dr.is H rfl (Dr.rG rfl hE rfl rfl (not_f (decide_eq_true c2372)) (d_indexS sl87 hE rfl rfl H hr1 hx2376)),
    by intro a w g hE H; obtain ⟨v2380, v2383⟩ := g; exact Dr.is H rfl (Dr.rG rfl hE rfl rfl (not_f (decide_eq_true c2372)) (d_fieldAddr fld94_3 hE rfl)),
    by intro a w g hE H; obtain ⟨v2380, v2383⟩ := g; exact Dr.is H rfl (Dr.rG rfl hE rfl rfl (not_f (decide_eq_true c2372)) (d_loadSf (j := 3) sc61 hE rfl H hr1 hx2376 (fun _ _ e => by obtain ⟨_, rfl, _⟩ := e; rfl))),
    by intro a w g hE H; obtain ⟨v2380, v2383⟩ := g; exact Dr.is H rfl (Dr.rG rfl hE rfl rfl (not_f (decide_eq_true c2372)) (d_neq hE rfl rfl)),
    by intro a w g hE H; obtain ⟨v2380, v2383⟩ := g; exact Dr.is H rfl (Dr.run rfl (d_pF hE rfl (not_f (decide_eq_true c2372)) rfl)),
    by intro a w g hE H; obtain ⟨v2380, v2383⟩ := g; exact Dr.is H rfl (Dr.run rfl (d_move hE rfl)),
    by intro a w g hE H; obtain ⟨v2380, v2383⟩ := g; exact Dr.is H rfl (Dr.rG rfl hE rfl rfl (not_f (decide_eq_true c2377)) (d_move hE rfl)),
    by intro a w g hE H; obtain ⟨v2380, v2383⟩ := g; exact Dr.is H rfl (Dr.rG rfl hE rfl rfl (not_f (decide_eq_true c2377)) (d_move hE rfl)),
    by intro a w g hE H; obtain ⟨v2380, v2383⟩ := g; exact Dr.is H rfl (Dr.rG rfl hE rfl rfl (not_f (decide_eq_true c2377)) (d_indexS sl87 hE rfl rfl H hr0 hx2379)),
    by intro a w g hE H; obtain ⟨v2380, v2383⟩ := g; exact Dr.is H rfl (Dr.rG rfl hE rfl rfl (not_f (decide_eq_true c2377)) (d_fieldAddr fld94_2 hE rfl)),
    by intro a w g hE H; obtain ⟨v2380, v2383⟩ := g; exact Dr.is H rfl (Dr.rG rfl hE rfl rfl (not_f (decide_eq_true c2377)) (d_move hE rfl)),
    by intro a w g hE H; obtain ⟨v2380, v2383⟩ := g; exact Dr.is H rfl (Dr.rG rfl hE rfl rfl (not_f (decide_eq_true c2377)) (d_move hE rfl)),
    by intro a w g hE H; obtain ⟨v2380, v2383⟩ := g; exact Dr.is H rfl (Dr.rG rfl hE rfl rfl (not_f (decide_eq_true c2377)) (d_indexS sl87 hE rfl rfl H hr1 hx2382)),
    by intro a w g hE H; obtain ⟨v2380, v2383⟩ := g; exact Dr.is H rfl (Dr.rG rfl hE rfl rfl (not_f (decide_eq_true c2377)) (d_fieldAddr fld94_2 hE rfl)),
    by intro a w g hE H; obtain ⟨v2380, v2383⟩ := g; exact Dr.is H rfl (Dr.rG rfl hE rfl rfl (not_f (decide_eq_true c2377)) (d_move hE rfl)),
    by intro a w g hE H; obtain ⟨v2380, v2383⟩ := g; exact Dr.is H rfl (Dr.rG rfl hE rfl rfl (not_f (decide_eq_true c2377)) (d_move hE rfl)),
    by intro a w g hE H; obtain ⟨v2380, v2383⟩ := g; exact Dr.is H rfl (Dr.rG rfl hE rfl rfl (not_f (decide_eq_true c2377)) (d_indexS sl87 hE rfl rfl H (Rd.cons hr1) hx2382)),
    by intro a w g hE H; obtain ⟨v2380, v2383⟩ := g; exact Dr.is H rfl (Dr.rG rfl hE rfl rfl (not_f (decide_eq_true c2377)) (d_fieldAddr fld94_2 hE rfl)),
    by intro a w g hE H; obtain ⟨v2380, v2383⟩ := g; exact Dr.is H rfl (Dr.rG rfl hE rfl rfl (not_f (decide_eq_true c2377)) (d_move hE rfl)),
    by intro a w g hE H; obtain ⟨v2380, v2383⟩ := g; exact Dr.is H rfl (Dr.rG rfl hE rfl rfl (not_f (decide_eq_true c2377)) (d_move hE rfl)),
    by intro a w g hE H; obtain ⟨v2380, v2383⟩ := g; exact Dr.is H rfl (Dr.rG rfl hE rfl rfl (not_f (decide_eq_true c2377)) (d_indexS sl87 hE rfl rfl H (Rd.cons hr0) hx2379)),
    by intro a w g hE H; obtain ⟨v2380, v2383⟩ := g; exact Dr.is H rfl (Dr.rG rfl hE rfl rfl (not_f (decide_eq_true c2377)) (d_fieldAddr fld94_2 hE rfl)),
    by intro a w g hE H; obtain ⟨v2380, v2383⟩ := g; exact Dr.is H rfl (Dr.rG rfl hE rfl rfl (not_f (decide_eq_true c2377)) (d_move hE rfl)),
    by intro a w g hE H; obtain ⟨v2380, v2383⟩ := g; exact Dr.is H rfl (Dr.rG rfl hE rfl rfl (not_f (decide_eq_true c2377)) (d_move hE rfl)),
    by intro a w g hE H; obtain ⟨v2380, v2383⟩ := g; exact Dr.is H rfl (Dr.rG rfl hE rfl rfl (not_f (decide_eq_true c2377)) (d_indexS sl87 hE rfl rfl H (Rd.cons hr1) hx2382)),
    by intro a w g hE H; obtain ⟨v2380, v2383⟩ := g; exact Dr.is H rfl (Dr.rG rfl hE rfl rfl (not_f (decide_eq_true c2377)) (d_fieldAddr fld94_2 hE rfl)),
    by intro a w g hE H; obtain ⟨v2380, v2383⟩ := g; exact Dr.is H rfl (Dr.rG rfl hE rfl rfl (not_f (decide_eq_true c2377)) (d_move hE rfl)),
    by intro a w g hE H; obtain ⟨v2380, v2383⟩ := g; exact Dr.is H rfl (Dr.rG rfl hE rfl rfl (not_f (decide_eq_true c2377)) (d_move hE rfl)),
    by intro a w g hE H; obtain ⟨v2380, v2383⟩ := g; exact Dr.is H rfl (Dr.rG rfl hE rfl rfl (not_f (decide_eq_true c2377)) (d_indexS sl87 hE rfl rfl H (Rd.cons hr0) hx2379)),
    by intro a w g hE H; obtain ⟨v2380, v2383⟩ := g; exact Dr.is H rfl (Dr.rG rfl hE rfl rfl (not_f (decide_eq_true c2377)) (d_fieldAddr fld94_2 hE rfl)),
    trivial⟩
                    · exact ⟨by intro a w g hE hF H; obtain ⟨v2380, v2383⟩ := g; refine (Dr.rG rfl hE rfl rfl (not_f (decide_eq_true c2377)) (d_loadSfR (c := c_api_Ways) (j := 2) (Q := fun V => ImR (cInt .i64) V x2378.Via) sc51 hE rfl H hr0 hx2379 (fun _ _ e => by obtain ⟨V0, rfl, h0⟩ := e; exact ⟨_, rfl, h0⟩))).mono fun v w hR => ?_; obtain ⟨v2380, rfl⟩ : ∃ x, x = v := ⟨v, rfl⟩; have H : St z I w (ImR (cInt .i64) v2380 x2378.Via :: r) := hR; exact ⟨(v2380, v2383), H, Dr.lkSub ⟨rfl, trivial⟩⟩,
    by intro a w g hE hF H; obtain ⟨v2380, v2383⟩ := g; refine (Dr.rG rfl hE rfl rfl (not_f (decide_eq_true c2377)) (d_loadSfR (c := c_api_Ways) (j := 2) (Q := fun V => ImR (cInt .i64) V x2381.Via) sc51 hE rfl H hr1 hx2382 (fun _ _ e => by obtain ⟨V0, rfl, h0⟩ := e; exact ⟨_, rfl, h0⟩))).mono fun v w hR => ?_; obtain ⟨v2383, rfl⟩ : ∃ x, x = v := ⟨v, rfl⟩; have H : St z I w (ImR (cInt .i64) v2383 x2381.Via :: r) := hR; exact ⟨(v2380, v2383), H, Dr.lkSub ⟨rfl, trivial⟩⟩,
    by intro a w g hE hF H; obtain ⟨v2380, v2383⟩ := g; have hE := Dr.env_both hE hF; refine (Dr.rG rfl hE rfl rfl (not_f (decide_eq_true c2377)) (d_lenS Try.underlying51 hE rfl H (Rd.im 0 rfl))).mono fun v w' hR => ?_; obtain ⟨hv_, rfl⟩ := hR; have hv_ := hv_.symm; subst hv_; exact ⟨(v2380, v2383), H, Dr.lkSub ⟨rfl, rfl, trivial⟩⟩,
    by intro a w g hE hF H; obtain ⟨v2380, v2383⟩ := g; refine (Dr.rG rfl hE rfl rfl (not_f (decide_eq_true c2377)) (d_loadSfR (c := c_api_Ways) (j := 2) (Q := fun V => ImR (cInt .i64) V x2381.Via) sc51 hE rfl H (Rd.cons hr1) hx2382 (fun _ _ e => by obtain ⟨V0, rfl, h0⟩ := e; exact ⟨_, rfl, h0⟩))).mono fun v w hR => ?_; obtain ⟨v2383, rfl⟩ : ∃ x, x = v := ⟨v, rfl⟩; have H : St z I w (ImR (cInt .i64) v2383 x2381.Via :: ImR (cInt .i64) v2380 x2378.Via :: r) := hR; exact ⟨(v2380, v2383), H, Dr.lkSub ⟨rfl, rfl, trivial⟩⟩,
    by intro a w g hE hF H; obtain ⟨v2380, v2383⟩ := g; refine (Dr.rG rfl hE rfl rfl (not_f (decide_eq_true c2377)) (d_loadSfR (c := c_api_Ways) (j := 2) (Q := fun V => ImR (cInt .i64) V x2378.Via) sc51 hE rfl H (Rd.cons hr0) hx2379 (fun _ _ e => by obtain ⟨V0, rfl, h0⟩ := e; exact ⟨_, rfl, h0⟩))).mono fun v w hR => ?_; obtain ⟨v2380, rfl⟩ : ∃ x, x = v := ⟨v, rfl⟩; have H : St z I w (ImR (cInt .i64) v2380 x2378.Via :: ImR (cInt .i64) v2383 x2381.Via :: r) := hR; have H := St.get H 1 rfl; exact ⟨(v2380, v2383), H, Dr.lkSub ⟨rfl, rfl, trivial⟩⟩,
    by intro a w g hE hF H; obtain ⟨v2380, v2383⟩ := g; have hE := Dr.env_both hE hF; refine (Dr.rG rfl hE rfl rfl (not_f (decide_eq_true c2377)) (d_lenS Try.underlying51 hE rfl H (Rd.im 0 rfl))).mono fun v w' hR => ?_; obtain ⟨hv_, rfl⟩ := hR; have hv_ := hv_.symm; subst hv_; exact ⟨(v2380, v2383), H, Dr.lkSub ⟨rfl, rfl, trivial⟩⟩,
    by intro a w g hE hF H; obtain ⟨v2380, v2383⟩ := g; refine (Dr.rG rfl hE rfl rfl (not_f (decide_eq_true c2377)) (d_loadSfR (c := c_api_Ways) (j := 2) (Q := fun V => ImR (cInt .i64) V x2381.Via) sc51 hE rfl H (Rd.cons hr1) hx2382 (fun _ _ e => by obtain ⟨V0, rfl, h0⟩ := e; exact ⟨_, rfl, h0⟩))).mono fun v w hR => ?_; obtain ⟨v2383, rfl⟩ : ∃ x, x = v := ⟨v, rfl⟩; have H : St z I w (ImR (cInt .i64) v2383 x2381.Via :: ImR (cInt .i64) v2380 x2378.Via :: r) := hR; exact ⟨(v2380, v2383), H, Dr.lkSub ⟨rfl, rfl, rfl, trivial⟩⟩,
    by intro a w g hE hF H; obtain ⟨v2380, v2383⟩ := g; have hE := Dr.env_both hE hF; refine (Dr.rG rfl hE rfl rfl (not_f (decide_eq_true c2377)) (d_lenS Try.underlying51 hE rfl H (Rd.im 1 rfl))).mono fun v w' hR => ?_; obtain ⟨hv_, rfl⟩ := hR; have hv_ := hv_.symm; subst hv_; exact ⟨(v2380, v2383), H, Dr.lkSub ⟨rfl, rfl, rfl, trivial⟩⟩,
    by intro a w g hE hF H; obtain ⟨v2380, v2383⟩ := g; have hE := Dr.env_both hE hF; refine (Dr.rG rfl hE rfl rfl (not_f (decide_eq_true c2377)) (d_lenS Try.underlying51 hE rfl H (Rd.im 0 rfl))).mono fun v w' hR => ?_; obtain ⟨hv_, rfl⟩ := hR; have hv_ := hv_.symm; subst hv_; exact ⟨(v2380, v2383), H, Dr.lkSub ⟨rfl, rfl, rfl, trivial⟩⟩,
    by intro a w g hE hF H; obtain ⟨v2380, v2383⟩ := g; refine (Dr.rG rfl hE rfl rfl (not_f (decide_eq_true c2377)) (d_loadSfR (c := c_api_Ways) (j := 2) (Q := fun V => ImR (cInt .i64) V x2378.Via) sc51 hE rfl H (Rd.cons hr0) hx2379 (fun _ _ e => by obtain ⟨V0, rfl, h0⟩ := e; exact ⟨_, rfl, h0⟩))).mono fun v w hR => ?_; obtain ⟨v2380, rfl⟩ : ∃ x, x = v := ⟨v, rfl⟩; have H : St z I w (ImR (cInt .i64) v2380 x2378.Via :: ImR (cInt .i64) v2383 x2381.Via :: r) := hR; have H := St.get H 1 rfl; exact ⟨(v2380, v2383), H, Dr.lkSub ⟨rfl, rfl, rfl, trivial⟩⟩,
    by intro a w g hE hF H; obtain ⟨v2380, v2383⟩ := g; have hE := Dr.env_both hE hF; refine (Dr.rG rfl hE rfl rfl (not_f (decide_eq_true c2377)) (d_lenS Try.underlying51 hE rfl H (Rd.im 0 rfl))).mono fun v w' hR => ?_; obtain ⟨hv_, rfl⟩ := hR; have hv_ := hv_.symm; subst hv_; exact ⟨(v2380, v2383), H, Dr.lkSub ⟨rfl, rfl, rfl, rfl, trivial⟩⟩,
    by intro a w g hE hF H; obtain ⟨v2380, v2383⟩ := g; have hE := Dr.env_both hE hF; refine (Dr.rG rfl hE rfl rfl (not_f (decide_eq_true c2377)) (d_lenS Try.underlying51 hE rfl H (Rd.im 1 rfl))).mono fun v w' hR => ?_; obtain ⟨hv_, rfl⟩ := hR; have hv_ := hv_.symm; subst hv_; exact ⟨(v2380, v2383), H, Dr.lkSub ⟨rfl, rfl, rfl, rfl, trivial⟩⟩,
    by intro a w g hE hF H; obtain ⟨v2380, v2383⟩ := g; have hE := Dr.env_both hE hF; refine (Dr.rG rfl hE rfl rfl (not_f (decide_eq_true c2377)) (d_neq hE rfl rfl)).mono fun v w' hR => ?_; obtain ⟨hv_, rfl⟩ := hR; have hv_ := hv_.symm; subst hv_; exact ⟨(v2380, v2383), H, Dr.lkSub ⟨rfl, rfl, rfl, rfl, rfl, trivial⟩⟩,
    by intro a w g hE hF H; obtain ⟨v2380, v2383⟩ := g; have hE := Dr.env_both hE hF; refine (Dr.run rfl (d_pF hE rfl (not_f (decide_eq_true c2377)) rfl)).mono fun v w' hR => ?_; obtain ⟨hv_, rfl⟩ := hR; have hv_ := hv_.symm; subst hv_; exact ⟨(v2380, v2383), H, Dr.lkSub ⟨rfl, rfl, rfl, rfl, rfl, rfl, trivial⟩⟩,
    trivial⟩
                    · intro a w g hE H
                      obtain ⟨v2380, v2383⟩ := g
                      have H : St z I w (ImR (cInt .i64) v2383 x2381.Via :: ImR (cInt .i64) v2380 x2378.Via :: r) := H
                      cases hm
                      have H := St.del H 0
                      have H := St.del H 0
                      exact ⟨hE.sub ⟨rfl, rfl, rfl, rfl, trivial⟩, H⟩
                  · rw [if_neg c2377] at hm
                    refine Dr.region (γ := Unit) (pre := [[], [], [0, 1], [0, 1, 2], [0, 1, 2, 3], [], [], [5, 6], [5, 6, 7], [5, 6, 7, 8], [0, 1, 2, 3, 4, 5, 6, 7, 8, 9], [0, 1, 2, 3, 4, 5, 6, 7, 8, 9, 10], [0, 1, 2, 3, 4, 5, 6, 7, 8, 9, 10, 11], [0, 1, 2, 3, 4, 5, 6, 7, 8, 9, 10, 11], [0, 1, 2, 3, 4, 5, 6, 7, 8, 9, 10, 11, 12, 13], [0, 1, 2, 3, 4, 5, 6, 7, 8, 9, 10, 11, 12, 13, 14], [0, 1, 2, 3, 4, 5, 6, 7, 8, 9, 10, 11, 12, 13, 14, 15], [0, 1, 2, 3, 4, 5, 6, 7, 8, 9, 10, 11], [0, 1, 2, 3, 4, 5, 6, 7, 8, 9, 10, 11], [0, 1, 2, 3, 4, 5, 6, 7, 8, 9, 10, 11, 17, 18], [0, 1, 2, 3, 4, 5, 6, 7, 8, 9, 10, 11, 17, 18, 19], [0, 1, 2, 3, 4, 5, 6, 7, 8, 9, 10, 11, 17, 18, 19, 20], [0, 1, 2, 3, 4, 5, 6, 7, 8, 9, 10, 11, 12, 13, 14, 15, 16, 17, 18, 19, 20, 21], [0, 1, 2, 3, 4, 5, 6, 7, 8, 9, 10, 11, 12, 13, 14, 15, 16, 17, 18, 19, 20, 21, 22], [0, 1, 2, 3, 4, 5, 6, 7, 8, 9, 10, 11, 12, 13, 14, 15, 16, 17, 18, 19, 20, 21, 22, 23], [0, 1, 2, 3, 4, 5, 6, 7, 8, 9, 10, 11, 12, 13, 14, 15, 16, 17, 18, 19, 20, 21, 22, 23, 24], [0, 1, 2, 3, 4, 5, 6, 7, 8, 9, 10, 11, 12, 13, 14, 15, 16, 17, 18, 19, 20, 21, 22, 23, 24], [0, 1, 2, 3, 4, 5, 6, 7, 8, 9, 10, 11, 12, 13, 14, 15, 16, 17, 18, 19, 20, 21, 22, 23, 24, 25, 26], [0, 1, 2, 3, 4, 5, 6, 7, 8, 9, 10, 11, 12, 13, 14, 15, 16, 17, 18, 19, 20, 21, 22, 23, 24, 25, 26, 27], [0, 1, 2, 3, 4, 5, 6, 7, 8, 9, 10, 11, 12, 13, 14, 15, 16, 17, 18, 19, 20, 21, 22, 23, 24, 25, 26, 27, 28], [0, 1, 2, 3, 4, 5, 6, 7, 8, 9, 10, 11, 12, 13, 14, 15, 16, 17, 18, 19, 20, 21, 22, 23, 24], [0, 1, 2, 3, 4, 5, 6, 7, 8, 9, 10, 11, 12, 13, 14, 15, 16, 17, 18, 19, 20, 21, 22, 23, 24], [0, 1, 2, 3, 4, 5, 6, 7, 8, 9, 10, 11, 12, 13, 14, 15, 16, 17, 18, 19, 20, 21, 22, 23, 24, 30, 31], [0, 1, 2, 3, 4, 5, 6, 7, 8, 9, 10, 11, 12, 13, 14, 15, 16, 17, 18, 19, 20, 21, 22, 23, 24, 30, 31, 32], [0, 1, 2, 3, 4, 5, 6, 7, 8, 9, 10, 11, 12, 13, 14, 15, 16, 17, 18, 19, 20, 21, 22, 23, 24, 30, 31, 32, 33], [0, 1, 2, 3, 4, 5, 6, 7, 8, 9, 10, 11, 12, 13, 14, 15, 16, 17, 18, 19, 20, 21, 22, 23, 24, 25, 26, 27, 28, 29, 30, 31, 32, 33, 34], [0, 1, 2, 3, 4, 5, 6, 7, 8, 9, 10, 11, 12, 13, 14, 15, 16, 17, 18, 19, 20, 21, 22, 23, 24, 25, 26, 27, 28, 29, 30, 31, 32, 33, 34, 35], [0, 1, 2, 3, 4, 5, 6, 7, 8, 9, 10, 11, 12, 13, 14, 15, 16, 17, 18, 19, 20, 21, 22, 23, 24, 25, 26, 27, 28, 29, 30, 31, 32, 33, 34, 35, 36], [0, 1, 2, 3, 4, 5, 6, 7, 8, 9, 10, 11, 12, 13, 14, 15, 16, 17, 18, 19, 20, 21, 22, 23, 24, 25, 26, 27, 28, 29, 30, 31, 32, 33, 34, 35, 36, 37], [0, 1, 2, 3, 4, 5, 6, 7, 8, 9, 10, 11, 12, 13, 14, 15, 16, 17, 18, 19, 20, 21, 22, 23, 24, 25, 26, 27, 28, 29, 30, 31, 32, 33, 34, 35, 36, 37], [0, 1, 2, 3, 4, 5, 6, 7, 8, 9, 10, 11, 12, 13, 14, 15, 16, 17, 18, 19, 20, 21, 22, 23, 24, 25, 26, 27, 28, 29, 30, 31, 32, 33, 34, 35, 36, 37, 38, 39], [0, 1, 2, 3, 4, 5, 6, 7, 8, 9, 10, 11, 12, 13, 14, 15, 16, 17, 18, 19, 20, 21, 22, 23, 24, 25, 26, 27, 28, 29, 30, 31, 32, 33, 34, 35, 36, 37, 38, 39, 40], [0, 1, 2, 3, 4, 5, 6, 7, 8, 9, 10, 11, 12, 13, 14, 15, 16, 17, 18, 19, 20, 21, 22, 23, 24, 25, 26, 27, 28, 29, 30, 31, 32, 33, 34, 35, 36, 37, 38, 39, 40, 41], [0, 1, 2, 3, 4, 5, 6, 7, 8, 9, 10, 11, 12, 13, 14, 15, 16, 17, 18, 19, 20, 21, 22, 23, 24, 25, 26, 27, 28, 29, 30, 31, 32, 33, 34, 35, 36, 37, 38, 39, 40, 41, 42], [0, 1, 2, 3, 4, 5, 6, 7, 8, 9, 10, 11, 12, 13, 14, 15, 16, 17, 18, 19, 20, 21, 22, 23, 24, 25, 26, 27, 28, 29, 30, 31, 32, 33, 34, 35, 36, 37], [0, 1, 2, 3, 4, 5, 6, 7, 8, 9, 10, 11, 12, 13, 14, 15, 16, 17, 18, 19, 20, 21, 22, 23, 24, 25, 26, 27, 28, 29, 30, 31, 32, 33, 34, 35, 36, 37], [0, 1, 2, 3, 4, 5, 6, 7, 8, 9, 10, 11, 12, 13, 14, 15, 16, 17, 18, 19, 20, 21, 22, 23, 24, 25, 26, 27, 28, 29, 30, 31, 32, 33, 34, 35, 36, 37, 44, 45], [0, 1, 2, 3, 4, 5, 6, 7, 8, 9, 10, 11, 12, 13, 14, 15, 16, 17, 18, 19, 20, 21, 22, 23, 24, 25, 26, 27, 28, 29, 30, 31, 32, 33, 34, 35, 36, 37, 44, 45, 46], [0, 1, 2, 3, 4, 5, 6, 7, 8, 9, 10, 11, 12, 13, 14, 15, 16, 17, 18, 19, 20, 21, 22, 23, 24, 25, 26, 27, 28, 29, 30, 31, 32, 33, 34, 35, 36, 37, 44, 45, 46, 47], [0, 1, 2, 3, 4, 5, 6, 7, 8, 9, 10, 11, 12, 13, 14, 15, 16, 17, 18, 19, 20, 21, 22, 23, 24, 25, 26, 27, 28, 29, 30, 31, 32, 33, 34, 35, 36, 37, 44, 45, 46, 47, 48], [0, 1, 2, 3, 4, 5, 6, 7, 8, 9, 10, 11, 12, 13, 14, 15, 16, 17, 18, 19, 20, 21, 22, 23, 24, 25, 26, 27, 28, 29, 30, 31, 32, 33, 34, 35, 36, 37, 38, 39, 40, 41, 42, 43, 44, 45, 46, 47, 48, 49], [0, 1, 2, 3, 4, 5, 6, 7, 8, 9, 10, 11, 12, 13, 14, 15, 16, 17, 18, 19, 20, 21, 22, 23, 24, 25, 26, 27, 28, 29, 30, 31, 32, 33, 34, 35, 36, 37, 38, 39, 40, 41, 42, 43, 44, 45, 46, 47, 48, 49, 50]]) (val := [some u0, some (.int .i64 y1714), some (.pointer (some (ad (sb u0) (so u0 + (Int.toNat y1714) * c_api_Ways.n)))), some (.pointer (some (ad (sb u0) (so u0 + (Int.toNat y1714) * c_api_Ways.n + 0)))), some (.int .i64 x2363.To), some u1, some (.int .i64 y1714), some (.pointer (some (ad (sb u1) (so u1 + (Int.toNat y1714) * c_api_Ways.n)))), some (.pointer (some (ad (sb u1) (so u1 + (Int.toNat y1714) * c_api_Ways.n + 0)))), some (.int .i64 x2365.To), some (.bool (!(decide (x2363.To = x2365.To)))), some (.bool (!(decide (x2363.To = x2365.To)))), some u0, some (.int .i64 y1714), some (.pointer (some (ad (sb u0) (so u0 + (Int.toNat y1714) * c_api_Ways.n)))), some (.pointer (some (ad (sb u0) (so u0 + (Int.toNat y1714) * c_api_Ways.n + 1)))), some (.int .u64 x2368.Cost), some u1, some (.int .i64 y1714), some (.pointer (some (ad (sb u1) (so u1 + (Int.toNat y1714) * c_api_Ways.n)))), some (.pointer (some (ad (sb u1) (so u1 + (Int.toNat y1714) * c_api_Ways.n + 1)))), some (.int .u64 x2370.Cost), some (.bool (!(decide (x2368.Cost = x2370.Cost)))), some (.bool (!(decide (x2368.Cost = x2370.Cost)))), some (.bool (!(decide (x2368.Cost = x2370.Cost)))), some u0, some (.int .i64 y1714), some (.pointer (some (ad (sb u0) (so u0 + (Int.toNat y1714) * c_api_Ways.n)))), some (.pointer (some (ad (sb u0) (so u0 + (Int.toNat y1714) * c_api_Ways.n + 3)))), some (.int .u64 x2373.Many), some u1, some (.int .i64 y1714), some (.pointer (some (ad (sb u1) (so u1 + (Int.toNat y1714) * c_api_Ways.n)))), some (.pointer (some (ad (sb u1) (so u1 + (Int.toNat y1714) * c_api_Ways.n + 3)))), some (.int .u64 x2375.Many), some (.bool (!(decide (x2373.Many = x2375.Many)))), some (.bool (!(decide (x2373.Many = x2375.Many)))), some (.bool (!(decide (x2373.Many = x2375.Many)))), some undef, some undef, some undef, some undef, some undef, some undef, some undef, some undef, some undef, some undef, some undef, some undef, some undef, some (.bool true)]) (eff := []) (mask := [[]]) (keys := [[]]) (src := [[.base 0], [.base 5], [.op 0, .op 1], [.op 2], [.op 3], [.base 1], [.base 5], [.op 5, .op 6], [.op 7], [.op 8], [.op 4, .op 9], [.op 10], [.base 0, .op 11], [.base 5, .op 11], [.op 11, .op 12, .op 13], [.op 11, .op 14], [.op 11, .op 15], [.base 1, .op 11], [.base 5, .op 11], [.op 11, .op 17, .op 18], [.op 11, .op 19], [.op 11, .op 20], [.op 11, .op 16, .op 21], [.op 11, .op 22], [.op 23], [.base 0, .op 24], [.base 5, .op 24], [.op 24, .op 25, .op 26], [.op 24, .op 27], [.op 24, .op 28], [.base 1, .op 24], [.base 5, .op 24], [.op 24, .op 30, .op 31], [.op 24, .op 32], [.op 24, .op 33], [.op 24, .op 29, .op 34], [.op 24, .op 35], [.op 36], [.base 0, .op 37], [.base 5, .op 37], [.op 37, .op 38, .op 39], [.op 37, .op 40], [.op 37, .op 41], [.op 37, .op 42], [.base 1, .op 37], [.base 5, .op 37], [.op 37, .op 44, .op 45], [.op 37, .op 46], [.op 37, .op 47], [.op 37, .op 48], [.op 37, .op 43, .op 49], [.op 37, .op 50]]) (z := z) (ef := fun p g => ([[]] : List (List (Nat × Value))).getD p []) (hi := fun _ _ => I) (rs := fun p g => ([r] : List (List Asn)).getD p []) [(0, 0), (1, 0), (2, 0), (3, 0), (4, 0), (5, 0), (6, 0), (7, 0), (8, 0), (9, 0), (10, 0), (11, 0), (12, 0), (13, 0), (14, 0), (15, 0), (16, 0), (17, 0), (18, 0), (19, 0), (20, 0), (21, 0), (22, 0), (23, 0), (24, 0), (25, 0), (26, 0), (27, 0), (28, 0), (29, 0), (30, 0), (31, 0), (32, 0), (33, 0), (34, 0), (35, 0), (36, 0), (37, 0), (38, 0), (39, 0), (40, 0), (41, 0), (42, 0), (43, 0), (44, 0), (45, 0), (46, 0), (47, 0), (48, 0), (49, 0), (50, 0), (51, 0)] [] [0, 1, 2, 3, 4, 5, 6, 7, 8, 9, 10, 11, 12, 13, 14, 15, 16, 17, 18, 19, 20, 21, 22, 23, 24, 25, 26, 27, 28, 29, 30, 31, 32, 33, 34, 35, 36, 37, 38, 39, 40, 41, 42, 43, 44, 45, 46, 47, 48, 49, 50, 51] 0 mo hE () rfl H (by kernel_rfl) (by kernel_rfl) (fun p g => by cases p <;> rfl) ?_ ?_ (by kernel_rfl) (by kernel_rfl) ?_
                    · exact ⟨by intro a w g hE H; exact Dr.is H rfl (Dr.run rfl (d_move hE rfl)),
    by intro a w g hE H; exact Dr.is H rfl (Dr.run rfl (d_move hE rfl)),
    by intro a w g hE H; exact Dr.is H rfl (Dr.run rfl (d_indexS sl87 hE rfl rfl H hr0 hx2364)),
    by intro a w g hE H; exact Dr.is H rfl (Dr.run rfl (d_fieldAddr fld94_0 hE rfl)),
    by intro a w g hE H; exact Dr.is H rfl (Dr.run rfl (d_loadSf (j := 0) sc3 hE rfl H hr0 hx2364 (fun _ _ e => by obtain ⟨_, rfl, _⟩ := e; rfl))),
    by intro a w g hE H; exact Dr.is H rfl (Dr.run rfl (d_move hE rfl)),
    by intro a w g hE H; exact Dr.is H rfl (Dr.run rfl (d_move hE rfl)),
    by intro a w g hE H; exact Dr.is H rfl (Dr.run rfl (d_indexS sl87 hE rfl rfl H hr1 hx2366)),
    by intro a w g hE H; exact Dr.is H rfl (Dr.run rfl (d_fieldAddr fld94_0 hE rfl)),
    by intro a w g hE H; exact Dr.is H rfl (Dr.run rfl (d_loadSf (j := 0) sc3 hE rfl H hr1 hx2366 (fun _ _ e => by obtain ⟨_, rfl, _⟩ := e; rfl))),
    by intro a w g hE H; exact Dr.is H rfl (Dr.run rfl (d_neq hE rfl rfl)),
    by intro a w g hE H; exact Dr.is H rfl (Dr.run rfl (d_move hE rfl)),
    by intro a w g hE H; exact Dr.is H rfl (Dr.rG rfl hE rfl rfl (not_f (decide_eq_true c2367)) (d_move hE rfl)),
    by intro a w g hE H; exact Dr.is H rfl (Dr.rG rfl hE rfl rfl (not_f (decide_eq_true c2367)) (d_move hE rfl)),
    by intro a w g hE H; exact Dr.is H rfl (Dr.rG rfl hE rfl rfl (not_f (decide_eq_true c2367)) (d_indexS sl87 hE rfl rfl H hr0 hx2369)),
    by intro a w g hE H; exact Dr.is H rfl (Dr.rG rfl hE rfl rfl (not_f (decide_eq_true c2367)) (d_fieldAddr fld94_1 hE rfl)),
    by intro a w g hE H; exact Dr.is H rfl (Dr.rG rfl hE rfl rfl (not_f (decide_eq_true c2367)) (d_loadSf (j := 1) sc61 hE rfl H hr0 hx2369 (fun _ _ e => by obtain ⟨_, rfl, _⟩ := e; rfl))),
    by intro a w g hE H; exact Dr.is H rfl (Dr.rG rfl hE rfl rfl (not_f (decide_eq_true c2367)) (d_move hE rfl)),
    by intro a w g hE H; exact Dr.is H rfl (Dr.rG rfl hE rfl rfl (not_f (decide_eq_true c2367)) (d_move hE rfl)),
    by intro a w g hE H; exact Dr.is H rfl (Dr.rG rfl hE rfl rfl (not_f (decide_eq_true c2367)) (d_indexS sl87 hE rfl rfl H hr1 hx2371)),
    by intro a w g hE H; exact Dr.is H rfl (Dr.rG rfl hE rfl rfl (not_f (decide_eq_true c2367)) (d_fieldAddr fld94_1 hE rfl)),
    by intro a w g hE H; exact Dr.is H rfl (Dr.rG rfl hE rfl rfl (not_f (decide_eq_true c2367)) (d_loadSf (j := 1) sc61 hE rfl H hr1 hx2371 (fun _ _ e => by obtain ⟨_, rfl, _⟩ := e; rfl))),
    by intro a w g hE H; exact Dr.is H rfl (Dr.rG rfl hE rfl rfl (not_f (decide_eq_true c2367)) (d_neq hE rfl rfl)),
    by intro a w g hE H; exact Dr.is H rfl (Dr.run rfl (d_pF hE rfl (not_f (decide_eq_true c2367)) rfl)),
    by intro a w g hE H; exact Dr.is H rfl (Dr.run rfl (d_move hE rfl)),
    by intro a w g hE H; exact Dr.is H rfl (Dr.rG rfl hE rfl rfl (not_f (decide_eq_true c2372)) (d_move hE rfl)),
    by intro a w g hE H; exact Dr.is H rfl (Dr.rG rfl hE rfl rfl (not_f (decide_eq_true c2372)) (d_move hE rfl)),
    by intro a w g hE H; exact Dr.is H rfl (Dr.rG rfl hE rfl rfl (not_f (decide_eq_true c2372)) (d_indexS sl87 hE rfl rfl H hr0 hx2374)),
    by intro a w g hE H; exact Dr.is H rfl (Dr.rG rfl hE rfl rfl (not_f (decide_eq_true c2372)) (d_fieldAddr fld94_3 hE rfl)),
    by intro a w g hE H; exact Dr.is H rfl (Dr.rG rfl hE rfl rfl (not_f (decide_eq_true c2372)) (d_loadSf (j := 3) sc61 hE rfl H hr0 hx2374 (fun _ _ e => by obtain ⟨_, rfl, _⟩ := e; rfl))),
    by intro a w g hE H; exact Dr.is H rfl (Dr.rG rfl hE rfl rfl (not_f (decide_eq_true c2372)) (d_move hE rfl)),
    by intro a w g hE H; exact Dr.is H rfl (Dr.rG rfl hE rfl rfl (not_f (decide_eq_true c2372)) (d_move hE rfl)),
    by intro a w g hE H; exact Dr.is H rfl (Dr.rG rfl hE rfl rfl (not_f (decide_eq_true c2372)) (d_indexS sl87 hE rfl rfl H hr1 hx2376)),
    by intro a w g hE H; exact Dr.is H rfl (Dr.rG rfl hE rfl rfl (not_f (decide_eq_true c2372)) (d_fieldAddr fld94_3 hE rfl)),
    by intro a w g hE H; exact Dr.is H rfl (Dr.rG rfl hE rfl rfl (not_f (decide_eq_true c2372)) (d_loadSf (j := 3) sc61 hE rfl H hr1 hx2376 (fun _ _ e => by obtain ⟨_, rfl, _⟩ := e; rfl))),
    by intro a w g hE H; exact Dr.is H rfl (Dr.rG rfl hE rfl rfl (not_f (decide_eq_true c2372)) (d_neq hE rfl rfl)),
    by intro a w g hE H; exact Dr.is H rfl (Dr.run rfl (d_pF hE rfl (not_f (decide_eq_true c2372)) rfl)),
    by intro a w g hE H; exact Dr.is H rfl (Dr.run rfl (d_move hE rfl)),
    by intro a w g hE H; exact Dr.is H rfl (Dr.pG rfl hE rfl rfl (not_t (decide_eq_false c2377)) ⟨rfl, rfl⟩),
    by intro a w g hE H; exact Dr.is H rfl (Dr.pG rfl hE rfl rfl (not_t (decide_eq_false c2377)) ⟨rfl, rfl⟩),
    by intro a w g hE H; exact Dr.is H rfl (Dr.pG rfl hE rfl rfl (not_t (decide_eq_false c2377)) ⟨rfl, rfl⟩),
    by intro a w g hE H; exact Dr.is H rfl (Dr.pG rfl hE rfl rfl (not_t (decide_eq_false c2377)) ⟨rfl, rfl⟩),
    by intro a w g hE H; exact Dr.is H rfl (Dr.pG rfl hE rfl rfl (not_t (decide_eq_false c2377)) ⟨rfl, rfl⟩),
    by intro a w g hE H; exact Dr.is H rfl (Dr.pG rfl hE rfl rfl (not_t (decide_eq_false c2377)) ⟨rfl, rfl⟩),
    by intro a w g hE H; exact Dr.is H rfl (Dr.pG rfl hE rfl rfl (not_t (decide_eq_false c2377)) ⟨rfl, rfl⟩),
    by intro a w g hE H; exact Dr.is H rfl (Dr.pG rfl hE rfl rfl (not_t (decide_eq_false c2377)) ⟨rfl, rfl⟩),
    by intro a w g hE H; exact Dr.is H rfl (Dr.pG rfl hE rfl rfl (not_t (decide_eq_false c2377)) ⟨rfl, rfl⟩),
    by intro a w g hE H; exact Dr.is H rfl (Dr.pG rfl hE rfl rfl (not_t (decide_eq_false c2377)) ⟨rfl, rfl⟩),
    by intro a w g hE H; exact Dr.is H rfl (Dr.pG rfl hE rfl rfl (not_t (decide_eq_false c2377)) ⟨rfl, rfl⟩),
    by intro a w g hE H; exact Dr.is H rfl (Dr.pG rfl hE rfl rfl (not_t (decide_eq_false c2377)) ⟨rfl, rfl⟩),
    by intro a w g hE H; exact Dr.is H rfl (Dr.pG rfl hE rfl rfl (not_t (decide_eq_false c2377)) ⟨rfl, rfl⟩),
    by intro a w g hE H; exact Dr.is H rfl (Dr.run rfl (d_pT hE rfl (not_t (decide_eq_false c2377)) rfl)),
    trivial⟩
                    · trivial
                    · intro a w g hE H
                      have H : St z I w (r) := H
                      cases hm
                      exact ⟨hE.sub ⟨rfl, rfl, rfl, rfl, trivial⟩, H⟩
                · rw [if_neg c2372] at hm
                  refine Dr.region (γ := Unit) (pre := [[], [], [0, 1], [0, 1, 2], [0, 1, 2, 3], [], [], [5, 6], [5, 6, 7], [5, 6, 7, 8], [0, 1, 2, 3, 4, 5, 6, 7, 8, 9], [0, 1, 2, 3, 4, 5, 6, 7, 8, 9, 10], [0, 1, 2, 3, 4, 5, 6, 7, 8, 9, 10, 11], [0, 1, 2, 3, 4, 5, 6, 7, 8, 9, 10, 11], [0, 1, 2, 3, 4, 5, 6, 7, 8, 9, 10, 11, 12, 13], [0, 1, 2, 3, 4, 5, 6, 7, 8, 9, 10, 11, 12, 13, 14], [0, 1, 2, 3, 4, 5, 6, 7, 8, 9, 10, 11, 12, 13, 14, 15], [0, 1, 2, 3, 4, 5, 6, 7, 8, 9, 10, 11], [0, 1, 2, 3, 4, 5, 6, 7, 8, 9, 10, 11], [0, 1, 2, 3, 4, 5, 6, 7, 8, 9, 10, 11, 17, 18], [0, 1, 2, 3, 4, 5, 6, 7, 8, 9, 10, 11, 17, 18, 19], [0, 1, 2, 3, 4, 5, 6, 7, 8, 9, 10, 11, 17, 18, 19, 20], [0, 1, 2, 3, 4, 5, 6, 7, 8, 9, 10, 11, 12, 13, 14, 15, 16, 17, 18, 19, 20, 21], [0, 1, 2, 3, 4, 5, 6, 7, 8, 9, 10, 11, 12, 13, 14, 15, 16, 17, 18, 19, 20, 21, 22], [0, 1, 2, 3, 4, 5, 6, 7, 8, 9, 10, 11, 12, 13, 14, 15, 16, 17, 18, 19, 20, 21, 22, 23], [0, 1, 2, 3, 4, 5, 6, 7, 8, 9, 10, 11, 12, 13, 14, 15, 16, 17, 18, 19, 20, 21, 22, 23, 24], [0, 1, 2, 3, 4, 5, 6, 7, 8, 9, 10, 11, 12, 13, 14, 15, 16, 17, 18, 19, 20, 21, 22, 23, 24], [0, 1, 2, 3, 4, 5, 6, 7, 8, 9, 10, 11, 12, 13, 14, 15, 16, 17, 18, 19, 20, 21, 22, 23, 24, 25, 26], [0, 1, 2, 3, 4, 5, 6, 7, 8, 9, 10, 11, 12, 13, 14, 15, 16, 17, 18, 19, 20, 21, 22, 23, 24, 25, 26, 27], [0, 1, 2, 3, 4, 5, 6, 7, 8, 9, 10, 11, 12, 13, 14, 15, 16, 17, 18, 19, 20, 21, 22, 23, 24, 25, 26, 27, 28], [0, 1, 2, 3, 4, 5, 6, 7, 8, 9, 10, 11, 12, 13, 14, 15, 16, 17, 18, 19, 20, 21, 22, 23, 24], [0, 1, 2, 3, 4, 5, 6, 7, 8, 9, 10, 11, 12, 13, 14, 15, 16, 17, 18, 19, 20, 21, 22, 23, 24], [0, 1, 2, 3, 4, 5, 6, 7, 8, 9, 10, 11, 12, 13, 14, 15, 16, 17, 18, 19, 20, 21, 22, 23, 24, 30, 31], [0, 1, 2, 3, 4, 5, 6, 7, 8, 9, 10, 11, 12, 13, 14, 15, 16, 17, 18, 19, 20, 21, 22, 23, 24, 30, 31, 32], [0, 1, 2, 3, 4, 5, 6, 7, 8, 9, 10, 11, 12, 13, 14, 15, 16, 17, 18, 19, 20, 21, 22, 23, 24, 30, 31, 32, 33], [0, 1, 2, 3, 4, 5, 6, 7, 8, 9, 10, 11, 12, 13, 14, 15, 16, 17, 18, 19, 20, 21, 22, 23, 24, 25, 26, 27, 28, 29, 30, 31, 32, 33, 34], [0, 1, 2, 3, 4, 5, 6, 7, 8, 9, 10, 11, 12, 13, 14, 15, 16, 17, 18, 19, 20, 21, 22, 23, 24, 25, 26, 27, 28, 29, 30, 31, 32, 33, 34, 35], [0, 1, 2, 3, 4, 5, 6, 7, 8, 9, 10, 11, 12, 13, 14, 15, 16, 17, 18, 19, 20, 21, 22, 23, 24, 25, 26, 27, 28, 29, 30, 31, 32, 33, 34, 35, 36], [0, 1, 2, 3, 4, 5, 6, 7, 8, 9, 10, 11, 12, 13, 14, 15, 16, 17, 18, 19, 20, 21, 22, 23, 24, 25, 26, 27, 28, 29, 30, 31, 32, 33, 34, 35, 36, 37], [0, 1, 2, 3, 4, 5, 6, 7, 8, 9, 10, 11, 12, 13, 14, 15, 16, 17, 18, 19, 20, 21, 22, 23, 24, 25, 26, 27, 28, 29, 30, 31, 32, 33, 34, 35, 36, 37], [0, 1, 2, 3, 4, 5, 6, 7, 8, 9, 10, 11, 12, 13, 14, 15, 16, 17, 18, 19, 20, 21, 22, 23, 24, 25, 26, 27, 28, 29, 30, 31, 32, 33, 34, 35, 36, 37, 38, 39], [0, 1, 2, 3, 4, 5, 6, 7, 8, 9, 10, 11, 12, 13, 14, 15, 16, 17, 18, 19, 20, 21, 22, 23, 24, 25, 26, 27, 28, 29, 30, 31, 32, 33, 34, 35, 36, 37, 38, 39, 40], [0, 1, 2, 3, 4, 5, 6, 7, 8, 9, 10, 11, 12, 13, 14, 15, 16, 17, 18, 19, 20, 21, 22, 23, 24, 25, 26, 27, 28, 29, 30, 31, 32, 33, 34, 35, 36, 37, 38, 39, 40, 41], [0, 1, 2, 3, 4, 5, 6, 7, 8, 9, 10, 11, 12, 13, 14, 15, 16, 17, 18, 19, 20, 21, 22, 23, 24, 25, 26, 27, 28, 29, 30, 31, 32, 33, 34, 35, 36, 37, 38, 39, 40, 41, 42], [0, 1, 2, 3, 4, 5, 6, 7, 8, 9, 10, 11, 12, 13, 14, 15, 16, 17, 18, 19, 20, 21, 22, 23, 24, 25, 26, 27, 28, 29, 30, 31, 32, 33, 34, 35, 36, 37], [0, 1, 2, 3, 4, 5, 6, 7, 8, 9, 10, 11, 12, 13, 14, 15, 16, 17, 18, 19, 20, 21, 22, 23, 24, 25, 26, 27, 28, 29, 30, 31, 32, 33, 34, 35, 36, 37], [0, 1, 2, 3, 4, 5, 6, 7, 8, 9, 10, 11, 12, 13, 14, 15, 16, 17, 18, 19, 20, 21, 22, 23, 24, 25, 26, 27, 28, 29, 30, 31, 32, 33, 34, 35, 36, 37, 44, 45], [0, 1, 2, 3, 4, 5, 6, 7, 8, 9, 10, 11, 12, 13, 14, 15, 16, 17, 18, 19, 20, 21, 22, 23, 24, 25, 26, 27, 28, 29, 30, 31, 32, 33, 34, 35, 36, 37, 44, 45, 46], [0, 1, 2, 3, 4, 5, 6, 7, 8, 9, 10, 11, 12, 13, 14, 15, 16, 17, 18, 19, 20, 21, 22, 23, 24, 25, 26, 27, 28, 29, 30, 31, 32, 33, 34, 35, 36, 37, 44, 45, 46, 47], [0, 1, 2, 3, 4, 5, 6, 7, 8, 9, 10, 11, 12, 13, 14, 15, 16, 17, 18, 19, 20, 21, 22, 23, 24, 25, 26, 27, 28, 29, 30, 31, 32, 33, 34, 35, 36, 37, 44, 45, 46, 47, 48], [0, 1, 2, 3, 4, 5, 6, 7, 8, 9, 10, 11, 12, 13, 14, 15, 16, 17, 18, 19, 20, 21, 22, 23, 24, 25, 26, 27, 28, 29, 30, 31, 32, 33, 34, 35, 36, 37, 38, 39, 40, 41, 42, 43, 44, 45, 46, 47, 48, 49], [0, 1, 2, 3, 4, 5, 6, 7, 8, 9, 10, 11, 12, 13, 14, 15, 16, 17, 18, 19, 20, 21, 22, 23, 24, 25, 26, 27, 28, 29, 30, 31, 32, 33, 34, 35, 36, 37, 38, 39, 40, 41, 42, 43, 44, 45, 46, 47, 48, 49, 50]]) (val := [some u0, some (.int .i64 y1714), some (.pointer (some (ad (sb u0) (so u0 + (Int.toNat y1714) * c_api_Ways.n)))), some (.pointer (some (ad (sb u0) (so u0 + (Int.toNat y1714) * c_api_Ways.n + 0)))), some (.int .i64 x2363.To), some u1, some (.int .i64 y1714), some (.pointer (some (ad (sb u1) (so u1 + (Int.toNat y1714) * c_api_Ways.n)))), some (.pointer (some (ad (sb u1) (so u1 + (Int.toNat y1714) * c_api_Ways.n + 0)))), some (.int .i64 x2365.To), some (.bool (!(decide (x2363.To = x2365.To)))), some (.bool (!(decide (x2363.To = x2365.To)))), some u0, some (.int .i64 y1714), some (.pointer (some (ad (sb u0) (so u0 + (Int.toNat y1714) * c_api_Ways.n)))), some (.pointer (some (ad (sb u0) (so u0 + (Int.toNat y1714) * c_api_Ways.n + 1)))), some (.int .u64 x2368.Cost), some u1, some (.int .i64 y1714), some (.pointer (some (ad (sb u1) (so u1 + (Int.toNat y1714) * c_api_Ways.n)))), some (.pointer (some (ad (sb u1) (so u1 + (Int.toNat y1714) * c_api_Ways.n + 1)))), some (.int .u64 x2370.Cost), some (.bool (!(decide (x2368.Cost = x2370.Cost)))), some (.bool (!(decide (x2368.Cost = x2370.Cost)))), some (.bool (!(decide (x2368.Cost = x2370.Cost)))), some undef, some undef, some undef, some undef, some undef, some undef, some undef, some undef, some undef, some undef, some undef, some (.bool true), some (.bool true), some undef, some undef, some undef, some undef, some undef, some undef, some undef, some undef, some undef, some undef, some undef, some undef, some undef, some (.bool true)]) (eff := []) (mask := [[]]) (keys := [[]]) (src := [[.base 0], [.base 5], [.op 0, .op 1], [.op 2], [.op 3], [.base 1], [.base 5], [.op 5, .op 6], [.op 7], [.op 8], [.op 4, .op 9], [.op 10], [.base 0, .op 11], [.base 5, .op 11], [.op 11, .op 12, .op 13], [.op 11, .op 14], [.op 11, .op 15], [.base 1, .op 11], [.base 5, .op 11], [.op 11, .op 17, .op 18], [.op 11, .op 19], [.op 11, .op 20], [.op 11, .op 16, .op 21], [.op 11, .op 22], [.op 23], [.base 0, .op 24], [.base 5, .op 24], [.op 24, .op 25, .op 26], [.op 24, .op 27], [.op 24, .op 28], [.base 1, .op 24], [.base 5, .op 24], [.op 24, .op 30, .op 31], [.op 24, .op 32], [.op 24, .op 33], [.op 24, .op 29, .op 34], [.op 24, .op 35], [.op 36], [.base 0, .op 37], [.base 5, .op 37], [.op 37, .op 38, .op 39], [.op 37, .op 40], [.op 37, .op 41], [.op 37, .op 42], [.base 1, .op 37], [.base 5, .op 37], [.op 37, .op 44, .op 45], [.op 37, .op 46], [.op 37, .op 47], [.op 37, .op 48], [.op 37, .op 43, .op 49], [.op 37, .op 50]]) (z := z) (ef := fun p g => ([[]] : List (List (Nat × Value))).getD p []) (hi := fun _ _ => I) (rs := fun p g => ([r] : List (List Asn)).getD p []) [(0, 0), (1, 0), (2, 0), (3, 0), (4, 0), (5, 0), (6, 0), (7, 0), (8, 0), (9, 0), (10, 0), (11, 0), (12, 0), (13, 0), (14, 0), (15, 0), (16, 0), (17, 0), (18, 0), (19, 0), (20, 0), (21, 0), (22, 0), (23, 0), (24, 0), (25, 0), (26, 0), (27, 0), (28, 0), (29, 0), (30, 0), (31, 0), (32, 0), (33, 0), (34, 0), (35, 0), (36, 0), (37, 0), (38, 0), (39, 0), (40, 0), (41, 0), (42, 0), (43, 0), (44, 0), (45, 0), (46, 0), (47, 0), (48, 0), (49, 0), (50, 0), (51, 0)] [] [0, 1, 2, 3, 4, 5, 6, 7, 8, 9, 10, 11, 12, 13, 14, 15, 16, 17, 18, 19, 20, 21, 22, 23, 24, 25, 26, 27, 28, 29, 30, 31, 32, 33, 34, 35, 36, 37, 38, 39, 40, 41, 42, 43, 44, 45, 46, 47, 48, 49, 50, 51] 0 mo hE () rfl H (by kernel_rfl) (by kernel_rfl) (fun p g => by cases p <;> rfl) ?_ ?_ (by kernel_rfl) (by kernel_rfl) ?_
                  · exact ⟨by intro a w g hE H; exact Dr.is H rfl (Dr.run rfl (d_move hE rfl)),
    by intro a w g hE H; exact Dr.is H rfl (Dr.run rfl (d_move hE rfl)),
    by intro a w g hE H; exact Dr.is H rfl (Dr.run rfl (d_indexS sl87 hE rfl rfl H hr0 hx2364)),
    by intro a w g hE H; exact Dr.is H rfl (Dr.run rfl (d_fieldAddr fld94_0 hE rfl)),
    by intro a w g hE H; exact Dr.is H rfl (Dr.run rfl (d_loadSf (j := 0) sc3 hE rfl H hr0 hx2364 (fun _ _ e => by obtain ⟨_, rfl, _⟩ := e; rfl))),
    by intro a w g hE H; exact Dr.is H rfl (Dr.run rfl (d_move hE rfl)),
    by intro a w g hE H; exact Dr.is H rfl (Dr.run rfl (d_move hE rfl)),
    by intro a w g hE H; exact Dr.is H rfl (Dr.run rfl (d_indexS sl87 hE rfl rfl H hr1 hx2366)),
    by intro a w g hE H; exact Dr.is H rfl (Dr.run rfl (d_fieldAddr fld94_0 hE rfl)),
    by intro a w g hE H; exact Dr.is H rfl (Dr.run rfl (d_loadSf (j := 0) sc3 hE rfl H hr1 hx2366 (fun _ _ e => by obtain ⟨_, rfl, _⟩ := e; rfl))),
    by intro a w g hE H; exact Dr.is H rfl (Dr.run rfl (d_neq hE rfl rfl)),
    by intro a w g hE H; exact Dr.is H rfl (Dr.run rfl (d_move hE rfl)),
    by intro a w g hE H; exact Dr.is H rfl (Dr.rG rfl hE rfl rfl (not_f (decide_eq_true c2367)) (d_move hE rfl)),
    by intro a w g hE H; exact Dr.is H rfl (Dr.rG rfl hE rfl rfl (not_f (decide_eq_true c2367)) (d_move hE rfl)),
    by intro a w g hE H; exact Dr.is H rfl (Dr.rG rfl hE rfl rfl (not_f (decide_eq_true c2367)) (d_indexS sl87 hE rfl rfl H hr0 hx2369)),
    by intro a w g hE H; exact Dr.is H rfl (Dr.rG rfl hE rfl rfl (not_f (decide_eq_true c2367)) (d_fieldAddr fld94_1 hE rfl)),
    by intro a w g hE H; exact Dr.is H rfl (Dr.rG rfl hE rfl rfl (not_f (decide_eq_true c2367)) (d_loadSf (j := 1) sc61 hE rfl H hr0 hx2369 (fun _ _ e => by obtain ⟨_, rfl, _⟩ := e; rfl))),
    by intro a w g hE H; exact Dr.is H rfl (Dr.rG rfl hE rfl rfl (not_f (decide_eq_true c2367)) (d_move hE rfl)),
    by intro a w g hE H; exact Dr.is H rfl (Dr.rG rfl hE rfl rfl (not_f (decide_eq_true c2367)) (d_move hE rfl)),
    by intro a w g hE H; exact Dr.is H rfl (Dr.rG rfl hE rfl rfl (not_f (decide_eq_true c2367)) (d_indexS sl87 hE rfl rfl H hr1 hx2371)),
    by intro a w g hE H; exact Dr.is H rfl (Dr.rG rfl hE rfl rfl (not_f (decide_eq_true c2367)) (d_fieldAddr fld94_1 hE rfl)),
    by intro a w g hE H; exact Dr.is H rfl (Dr.rG rfl hE rfl rfl (not_f (decide_eq_true c2367)) (d_loadSf (j := 1) sc61 hE rfl H hr1 hx2371 (fun _ _ e => by obtain ⟨_, rfl, _⟩ := e; rfl))),
    by intro a w g hE H; exact Dr.is H rfl (Dr.rG rfl hE rfl rfl (not_f (decide_eq_true c2367)) (d_neq hE rfl rfl)),
    by intro a w g hE H; exact Dr.is H rfl (Dr.run rfl (d_pF hE rfl (not_f (decide_eq_true c2367)) rfl)),
    by intro a w g hE H; exact Dr.is H rfl (Dr.run rfl (d_move hE rfl)),
    by intro a w g hE H; exact Dr.is H rfl (Dr.pG rfl hE rfl rfl (not_t (decide_eq_false c2372)) ⟨rfl, rfl⟩),
    by intro a w g hE H; exact Dr.is H rfl (Dr.pG rfl hE rfl rfl (not_t (decide_eq_false c2372)) ⟨rfl, rfl⟩),
    by intro a w g hE H; exact Dr.is H rfl (Dr.pG rfl hE rfl rfl (not_t (decide_eq_false c2372)) ⟨rfl, rfl⟩),
    by intro a w g hE H; exact Dr.is H rfl (Dr.pG rfl hE rfl rfl (not_t (decide_eq_false c2372)) ⟨rfl, rfl⟩),
    by intro a w g hE H; exact Dr.is H rfl (Dr.pG rfl hE rfl rfl (not_t (decide_eq_false c2372)) ⟨rfl, rfl⟩),
    by intro a w g hE H; exact Dr.is H rfl (Dr.pG rfl hE rfl rfl (not_t (decide_eq_false c2372)) ⟨rfl, rfl⟩),
    by intro a w g hE H; exact Dr.is H rfl (Dr.pG rfl hE rfl rfl (not_t (decide_eq_false c2372)) ⟨rfl, rfl⟩),
    by intro a w g hE H; exact Dr.is H rfl (Dr.pG rfl hE rfl rfl (not_t (decide_eq_false c2372)) ⟨rfl, rfl⟩),
    by intro a w g hE H; exact Dr.is H rfl (Dr.pG rfl hE rfl rfl (not_t (decide_eq_false c2372)) ⟨rfl, rfl⟩),
    by intro a w g hE H; exact Dr.is H rfl (Dr.pG rfl hE rfl rfl (not_t (decide_eq_false c2372)) ⟨rfl, rfl⟩),
    by intro a w g hE H; exact Dr.is H rfl (Dr.pG rfl hE rfl rfl (not_t (decide_eq_false c2372)) ⟨rfl, rfl⟩),
    by intro a w g hE H; exact Dr.is H rfl (Dr.run rfl (d_pT hE rfl (not_t (decide_eq_false c2372)) rfl)),
    by intro a w g hE H; exact Dr.is H rfl (Dr.run rfl (d_move hE rfl)),
    by intro a w g hE H; exact Dr.is H rfl (Dr.pG rfl hE rfl rfl rfl ⟨rfl, rfl⟩),
    by intro a w g hE H; exact Dr.is H rfl (Dr.pG rfl hE rfl rfl rfl ⟨rfl, rfl⟩),
    by intro a w g hE H; exact Dr.is H rfl (Dr.pG rfl hE rfl rfl rfl ⟨rfl, rfl⟩),
    by intro a w g hE H; exact Dr.is H rfl (Dr.pG rfl hE rfl rfl rfl ⟨rfl, rfl⟩),
    by intro a w g hE H; exact Dr.is H rfl (Dr.pG rfl hE rfl rfl rfl ⟨rfl, rfl⟩),
    by intro a w g hE H; exact Dr.is H rfl (Dr.pG rfl hE rfl rfl rfl ⟨rfl, rfl⟩),
    by intro a w g hE H; exact Dr.is H rfl (Dr.pG rfl hE rfl rfl rfl ⟨rfl, rfl⟩),
    by intro a w g hE H; exact Dr.is H rfl (Dr.pG rfl hE rfl rfl rfl ⟨rfl, rfl⟩),
    by intro a w g hE H; exact Dr.is H rfl (Dr.pG rfl hE rfl rfl rfl ⟨rfl, rfl⟩),
    by intro a w g hE H; exact Dr.is H rfl (Dr.pG rfl hE rfl rfl rfl ⟨rfl, rfl⟩),
    by intro a w g hE H; exact Dr.is H rfl (Dr.pG rfl hE rfl rfl rfl ⟨rfl, rfl⟩),
    by intro a w g hE H; exact Dr.is H rfl (Dr.pG rfl hE rfl rfl rfl ⟨rfl, rfl⟩),
    by intro a w g hE H; exact Dr.is H rfl (Dr.pG rfl hE rfl rfl rfl ⟨rfl, rfl⟩),
    by intro a w g hE H; exact Dr.is H rfl (Dr.run rfl (d_pT hE rfl rfl rfl)),
    trivial⟩
                  · trivial
                  · intro a w g hE H
                    have H : St z I w (r) := H
                    cases hm
                    exact ⟨hE.sub ⟨rfl, rfl, rfl, rfl, trivial⟩, H⟩
              · rw [if_neg c2367] at hm
                refine Dr.region (γ := Unit) (pre := [[], [], [0, 1], [0, 1, 2], [0, 1, 2, 3], [], [], [5, 6], [5, 6, 7], [5, 6, 7, 8], [0, 1, 2, 3, 4, 5, 6, 7, 8, 9], [0, 1, 2, 3, 4, 5, 6, 7, 8, 9, 10], [0, 1, 2, 3, 4, 5, 6, 7, 8, 9, 10, 11], [0, 1, 2, 3, 4, 5, 6, 7, 8, 9, 10, 11], [0, 1, 2, 3, 4, 5, 6, 7, 8, 9, 10, 11, 12, 13], [0, 1, 2, 3, 4, 5, 6, 7, 8, 9, 10, 11, 12, 13, 14], [0, 1, 2, 3, 4, 5, 6, 7, 8, 9, 10, 11, 12, 13, 14, 15], [0, 1, 2, 3, 4, 5, 6, 7, 8, 9, 10, 11], [0, 1, 2, 3, 4, 5, 6, 7, 8, 9, 10, 11], [0, 1, 2, 3, 4, 5, 6, 7, 8, 9, 10, 11, 17, 18], [0, 1, 2, 3, 4, 5, 6, 7, 8, 9, 10, 11, 17, 18, 19], [0, 1, 2, 3, 4, 5, 6, 7, 8, 9, 10, 11, 17, 18, 19, 20], [0, 1, 2, 3, 4, 5, 6, 7, 8, 9, 10, 11, 12, 13, 14, 15, 16, 17, 18, 19, 20, 21], [0, 1, 2, 3, 4, 5, 6, 7, 8, 9, 10, 11, 12, 13, 14, 15, 16, 17, 18, 19, 20, 21, 22], [0, 1, 2, 3, 4, 5, 6, 7, 8, 9, 10, 11, 12, 13, 14, 15, 16, 17, 18, 19, 20, 21, 22, 23], [0, 1, 2, 3, 4, 5, 6, 7, 8, 9, 10, 11, 12, 13, 14, 15, 16, 17, 18, 19, 20, 21, 22, 23, 24], [0, 1, 2, 3, 4, 5, 6, 7, 8, 9, 10, 11, 12, 13, 14, 15, 16, 17, 18, 19, 20, 21, 22, 23, 24], [0, 1, 2, 3, 4, 5, 6, 7, 8, 9, 10, 11, 12, 13, 14, 15, 16, 17, 18, 19, 20, 21, 22, 23, 24, 25, 26], [0, 1, 2, 3, 4, 5, 6, 7, 8, 9, 10, 11, 12, 13, 14, 15, 16, 17, 18, 19, 20, 21, 22, 23, 24, 25, 26, 27], [0, 1, 2, 3, 4, 5, 6, 7, 8, 9, 10, 11, 12, 13, 14, 15, 16, 17, 18, 19, 20, 21, 22, 23, 24, 25, 26, 27, 28], [0, 1, 2, 3, 4, 5, 6, 7, 8, 9, 10, 11, 12, 13, 14, 15, 16, 17, 18, 19, 20, 21, 22, 23, 24], [0, 1, 2, 3, 4, 5, 6, 7, 8, 9, 10, 11, 12, 13, 14, 15, 16, 17, 18, 19, 20, 21, 22, 23, 24], [0, 1, 2, 3, 4, 5, 6, 7, 8, 9, 10, 11, 12, 13, 14, 15, 16, 17, 18, 19, 20, 21, 22, 23, 24, 30, 31], [0, 1, 2, 3, 4, 5, 6, 7, 8, 9, 10, 11, 12, 13, 14, 15, 16, 17, 18, 19, 20, 21, 22, 23, 24, 30, 31, 32], [0, 1, 2, 3, 4, 5, 6, 7, 8, 9, 10, 11, 12, 13, 14, 15, 16, 17, 18, 19, 20, 21, 22, 23, 24, 30, 31, 32, 33], [0, 1, 2, 3, 4, 5, 6, 7, 8, 9, 10, 11, 12, 13, 14, 15, 16, 17, 18, 19, 20, 21, 22, 23, 24, 25, 26, 27, 28, 29, 30, 31, 32, 33, 34], [0, 1, 2, 3, 4, 5, 6, 7, 8, 9, 10, 11, 12, 13, 14, 15, 16, 17, 18, 19, 20, 21, 22, 23, 24, 25, 26, 27, 28, 29, 30, 31, 32, 33, 34, 35], [0, 1, 2, 3, 4, 5, 6, 7, 8, 9, 10, 11, 12, 13, 14, 15, 16, 17, 18, 19, 20, 21, 22, 23, 24, 25, 26, 27, 28, 29, 30, 31, 32, 33, 34, 35, 36], [0, 1, 2, 3, 4, 5, 6, 7, 8, 9, 10, 11, 12, 13, 14, 15, 16, 17, 18, 19, 20, 21, 22, 23, 24, 25, 26, 27, 28, 29, 30, 31, 32, 33, 34, 35, 36, 37], [0, 1, 2, 3, 4, 5, 6, 7, 8, 9, 10, 11, 12, 13, 14, 15, 16, 17, 18, 19, 20, 21, 22, 23, 24, 25, 26, 27, 28, 29, 30, 31, 32, 33, 34, 35, 36, 37], [0, 1, 2, 3, 4, 5, 6, 7, 8, 9, 10, 11, 12, 13, 14, 15, 16, 17, 18, 19, 20, 21, 22, 23, 24, 25, 26, 27, 28, 29, 30, 31, 32, 33, 34, 35, 36, 37, 38, 39], [0, 1, 2, 3, 4, 5, 6, 7, 8, 9, 10, 11, 12, 13, 14, 15, 16, 17, 18, 19, 20, 21, 22, 23, 24, 25, 26, 27, 28, 29, 30, 31, 32, 33, 34, 35, 36, 37, 38, 39, 40], [0, 1, 2, 3, 4, 5, 6, 7, 8, 9, 10, 11, 12, 13, 14, 15, 16, 17, 18, 19, 20, 21, 22, 23, 24, 25, 26, 27, 28, 29, 30, 31, 32, 33, 34, 35, 36, 37, 38, 39, 40, 41], [0, 1, 2, 3, 4, 5, 6, 7, 8, 9, 10, 11, 12, 13, 14, 15, 16, 17, 18, 19, 20, 21, 22, 23, 24, 25, 26, 27, 28, 29, 30, 31, 32, 33, 34, 35, 36, 37, 38, 39, 40, 41, 42], [0, 1, 2, 3, 4, 5, 6, 7, 8, 9, 10, 11, 12, 13, 14, 15, 16, 17, 18, 19, 20, 21, 22, 23, 24, 25, 26, 27, 28, 29, 30, 31, 32, 33, 34, 35, 36, 37], [0, 1, 2, 3, 4, 5, 6, 7, 8, 9, 10, 11, 12, 13, 14, 15, 16, 17, 18, 19, 20, 21, 22, 23, 24, 25, 26, 27, 28, 29, 30, 31, 32, 33, 34, 35, 36, 37], [0, 1, 2, 3, 4, 5, 6, 7, 8, 9, 10, 11, 12, 13, 14, 15, 16, 17, 18, 19, 20, 21, 22, 23, 24, 25, 26, 27, 28, 29, 30, 31, 32, 33, 34, 35, 36, 37, 44, 45], [0, 1, 2, 3, 4, 5, 6, 7, 8, 9, 10, 11, 12, 13, 14, 15, 16, 17, 18, 19, 20, 21, 22, 23, 24, 25, 26, 27, 28, 29, 30, 31, 32, 33, 34, 35, 36, 37, 44, 45, 46], [0, 1, 2, 3, 4, 5, 6, 7, 8, 9, 10, 11, 12, 13, 14, 15, 16, 17, 18, 19, 20, 21, 22, 23, 24, 25, 26, 27, 28, 29, 30, 31, 32, 33, 34, 35, 36, 37, 44, 45, 46, 47], [0, 1, 2, 3, 4, 5, 6, 7, 8, 9, 10, 11, 12, 13, 14, 15, 16, 17, 18, 19, 20, 21, 22, 23, 24, 25, 26, 27, 28, 29, 30, 31, 32, 33, 34, 35, 36, 37, 44, 45, 46, 47, 48], [0, 1, 2, 3, 4, 5, 6, 7, 8, 9, 10, 11, 12, 13, 14, 15, 16, 17, 18, 19, 20, 21, 22, 23, 24, 25, 26, 27, 28, 29, 30, 31, 32, 33, 34, 35, 36, 37, 38, 39, 40, 41, 42, 43, 44, 45, 46, 47, 48, 49], [0, 1, 2, 3, 4, 5, 6, 7, 8, 9, 10, 11, 12, 13, 14, 15, 16, 17, 18, 19, 20, 21, 22, 23, 24, 25, 26, 27, 28, 29, 30, 31, 32, 33, 34, 35, 36, 37, 38, 39, 40, 41, 42, 43, 44, 45, 46, 47, 48, 49, 50]]) (val := [some u0, some (.int .i64 y1714), some (.pointer (some (ad (sb u0) (so u0 + (Int.toNat y1714) * c_api_Ways.n)))), some (.pointer (some (ad (sb u0) (so u0 + (Int.toNat y1714) * c_api_Ways.n + 0)))), some (.int .i64 x2363.To), some u1, some (.int .i64 y1714), some (.pointer (some (ad (sb u1) (so u1 + (Int.toNat y1714) * c_api_Ways.n)))), some (.pointer (some (ad (sb u1) (so u1 + (Int.toNat y1714) * c_api_Ways.n + 0)))), some (.int .i64 x2365.To), some (.bool (!(decide (x2363.To = x2365.To)))), some (.bool (!(decide (x2363.To = x2365.To)))), some undef, some undef, some undef, some undef, some undef, some undef, some undef, some undef, some undef, some undef, some undef, some (.bool true), some (.bool true), some undef, some undef, some undef, some undef, some undef, some undef, some undef, some undef, some undef, some undef, some undef, some (.bool true), some (.bool true), some undef, some undef, some undef, some undef, some undef, some undef, some undef, some undef, some undef, some undef, some undef, some undef, some undef, some (.bool true)]) (eff := []) (mask := [[]]) (keys := [[]]) (src := [[.base 0], [.base 5], [.op 0, .op 1], [.op 2], [.op 3], [.base 1], [.base 5], [.op 5, .op 6], [.op 7], [.op 8], [.op 4, .op 9], [.op 10], [.base 0, .op 11], [.base 5, .op 11], [.op 11, .op 12, .op 13], [.op 11, .op 14], [.op 11, .op 15], [.base 1, .op 11], [.base 5, .op 11], [.op 11, .op 17, .op 18], [.op 11, .op 19], [.op 11, .op 20], [.op 11, .op 16, .op 21], [.op 11, .op 22], [.op 23], [.base 0, .op 24], [.base 5, .op 24], [.op 24, .op 25, .op 26], [.op 24, .op 27], [.op 24, .op 28], [.base 1, .op 24], [.base 5, .op 24], [.op 24, .op 30, .op 31], [.op 24, .op 32], [.op 24, .op 33], [.op 24, .op 29, .op 34], [.op 24, .op 35], [.op 36], [.base 0, .op 37], [.base 5, .op 37], [.op 37, .op 38, .op 39], [.op 37, .op 40], [.op 37, .op 41], [.op 37, .op 42], [.base 1, .op 37], [.base 5, .op 37], [.op 37, .op 44, .op 45], [.op 37, .op 46], [.op 37, .op 47], [.op 37, .op 48], [.op 37, .op 43, .op 49], [.op 37, .op 50]]) (z := z) (ef := fun p g => ([[]] : List (List (Nat × Value))).getD p []) (hi := fun _ _ => I) (rs := fun p g => ([r] : List (List Asn)).getD p []) [(0, 0), (1, 0), (2, 0), (3, 0), (4, 0), (5, 0), (6, 0), (7, 0), (8, 0), (9, 0), (10, 0), (11, 0), (12, 0), (13, 0), (14, 0), (15, 0), (16, 0), (17, 0), (18, 0), (19, 0), (20, 0), (21, 0), (22, 0), (23, 0), (24, 0), (25, 0), (26, 0), (27, 0), (28, 0), (29, 0), (30, 0), (31, 0), (32, 0), (33, 0), (34, 0), (35, 0), (36, 0), (37, 0), (38, 0), (39, 0), (40, 0), (41, 0), (42, 0), (43, 0), (44, 0), (45, 0), (46, 0), (47, 0), (48, 0), (49, 0), (50, 0), (51, 0)] [] [0, 1, 2, 3, 4, 5, 6, 7, 8, 9, 10, 11, 12, 13, 14, 15, 16, 17, 18, 19, 20, 21, 22, 23, 24, 25, 26, 27, 28, 29, 30, 31, 32, 33, 34, 35, 36, 37, 38, 39, 40, 41, 42, 43, 44, 45, 46, 47, 48, 49, 50, 51] 0 mo hE () rfl H (by kernel_rfl) (by kernel_rfl) (fun p g => by cases p <;> rfl) ?_ ?_ (by kernel_rfl) (by kernel_rfl) ?_
                · exact ⟨by intro a w g hE H; exact Dr.is H rfl (Dr.run rfl (d_move hE rfl)),
    by intro a w g hE H; exact Dr.is H rfl (Dr.run rfl (d_move hE rfl)),
    by intro a w g hE H; exact Dr.is H rfl (Dr.run rfl (d_indexS sl87 hE rfl rfl H hr0 hx2364)),
    by intro a w g hE H; exact Dr.is H rfl (Dr.run rfl (d_fieldAddr fld94_0 hE rfl)),
    by intro a w g hE H; exact Dr.is H rfl (Dr.run rfl (d_loadSf (j := 0) sc3 hE rfl H hr0 hx2364 (fun _ _ e => by obtain ⟨_, rfl, _⟩ := e; rfl))),
    by intro a w g hE H; exact Dr.is H rfl (Dr.run rfl (d_move hE rfl)),
    by intro a w g hE H; exact Dr.is H rfl (Dr.run rfl (d_move hE rfl)),
    by intro a w g hE H; exact Dr.is H rfl (Dr.run rfl (d_indexS sl87 hE rfl rfl H hr1 hx2366)),
    by intro a w g hE H; exact Dr.is H rfl (Dr.run rfl (d_fieldAddr fld94_0 hE rfl)),
    by intro a w g hE H; exact Dr.is H rfl (Dr.run rfl (d_loadSf (j := 0) sc3 hE rfl H hr1 hx2366 (fun _ _ e => by obtain ⟨_, rfl, _⟩ := e; rfl))),
    by intro a w g hE H; exact Dr.is H rfl (Dr.run rfl (d_neq hE rfl rfl)),
    by intro a w g hE H; exact Dr.is H rfl (Dr.run rfl (d_move hE rfl)),
    by intro a w g hE H; exact Dr.is H rfl (Dr.pG rfl hE rfl rfl (not_t (decide_eq_false c2367)) ⟨rfl, rfl⟩),
    by intro a w g hE H; exact Dr.is H rfl (Dr.pG rfl hE rfl rfl (not_t (decide_eq_false c2367)) ⟨rfl, rfl⟩),
    by intro a w g hE H; exact Dr.is H rfl (Dr.pG rfl hE rfl rfl (not_t (decide_eq_false c2367)) ⟨rfl, rfl⟩),
    by intro a w g hE H; exact Dr.is H rfl (Dr.pG rfl hE rfl rfl (not_t (decide_eq_false c2367)) ⟨rfl, rfl⟩),
    by intro a w g hE H; exact Dr.is H rfl (Dr.pG rfl hE rfl rfl (not_t (decide_eq_false c2367)) ⟨rfl, rfl⟩),
    by intro a w g hE H; exact Dr.is H rfl (Dr.pG rfl hE rfl rfl (not_t (decide_eq_false c2367)) ⟨rfl, rfl⟩),
    by intro a w g hE H; exact Dr.is H rfl (Dr.pG rfl hE rfl rfl (not_t (decide_eq_false c2367)) ⟨rfl, rfl⟩),
    by intro a w g hE H; exact Dr.is H rfl (Dr.pG rfl hE rfl rfl (not_t (decide_eq_false c2367)) ⟨rfl, rfl⟩),
    by intro a w g hE H; exact Dr.is H rfl (Dr.pG rfl hE rfl rfl (not_t (decide_eq_false c2367)) ⟨rfl, rfl⟩),
    by intro a w g hE H; exact Dr.is H rfl (Dr.pG rfl hE rfl rfl (not_t (decide_eq_false c2367)) ⟨rfl, rfl⟩),
    by intro a w g hE H; exact Dr.is H rfl (Dr.pG rfl hE rfl rfl (not_t (decide_eq_false c2367)) ⟨rfl, rfl⟩),
    by intro a w g hE H; exact Dr.is H rfl (Dr.run rfl (d_pT hE rfl (not_t (decide_eq_false c2367)) rfl)),
    by intro a w g hE H; exact Dr.is H rfl (Dr.run rfl (d_move hE rfl)),
    by intro a w g hE H; exact Dr.is H rfl (Dr.pG rfl hE rfl rfl rfl ⟨rfl, rfl⟩),
    by intro a w g hE H; exact Dr.is H rfl (Dr.pG rfl hE rfl rfl rfl ⟨rfl, rfl⟩),
    by intro a w g hE H; exact Dr.is H rfl (Dr.pG rfl hE rfl rfl rfl ⟨rfl, rfl⟩),
    by intro a w g hE H; exact Dr.is H rfl (Dr.pG rfl hE rfl rfl rfl ⟨rfl, rfl⟩),
    by intro a w g hE H; exact Dr.is H rfl (Dr.pG rfl hE rfl rfl rfl ⟨rfl, rfl⟩),
    by intro a w g hE H; exact Dr.is H rfl (Dr.pG rfl hE rfl rfl rfl ⟨rfl, rfl⟩),
    by intro a w g hE H; exact Dr.is H rfl (Dr.pG rfl hE rfl rfl rfl ⟨rfl, rfl⟩),
    by intro a w g hE H; exact Dr.is H rfl (Dr.pG rfl hE rfl rfl rfl ⟨rfl, rfl⟩),
    by intro a w g hE H; exact Dr.is H rfl (Dr.pG rfl hE rfl rfl rfl ⟨rfl, rfl⟩),
    by intro a w g hE H; exact Dr.is H rfl (Dr.pG rfl hE rfl rfl rfl ⟨rfl, rfl⟩),
    by intro a w g hE H; exact Dr.is H rfl (Dr.pG rfl hE rfl rfl rfl ⟨rfl, rfl⟩),
    by intro a w g hE H; exact Dr.is H rfl (Dr.run rfl (d_pT hE rfl rfl rfl)),
    by intro a w g hE H; exact Dr.is H rfl (Dr.run rfl (d_move hE rfl)),
    by intro a w g hE H; exact Dr.is H rfl (Dr.pG rfl hE rfl rfl rfl ⟨rfl, rfl⟩),
    by intro a w g hE H; exact Dr.is H rfl (Dr.pG rfl hE rfl rfl rfl ⟨rfl, rfl⟩),
    by intro a w g hE H; exact Dr.is H rfl (Dr.pG rfl hE rfl rfl rfl ⟨rfl, rfl⟩),
    by intro a w g hE H; exact Dr.is H rfl (Dr.pG rfl hE rfl rfl rfl ⟨rfl, rfl⟩),
    by intro a w g hE H; exact Dr.is H rfl (Dr.pG rfl hE rfl rfl rfl ⟨rfl, rfl⟩),
    by intro a w g hE H; exact Dr.is H rfl (Dr.pG rfl hE rfl rfl rfl ⟨rfl, rfl⟩),
    by intro a w g hE H; exact Dr.is H rfl (Dr.pG rfl hE rfl rfl rfl ⟨rfl, rfl⟩),
    by intro a w g hE H; exact Dr.is H rfl (Dr.pG rfl hE rfl rfl rfl ⟨rfl, rfl⟩),
    by intro a w g hE H; exact Dr.is H rfl (Dr.pG rfl hE rfl rfl rfl ⟨rfl, rfl⟩),
    by intro a w g hE H; exact Dr.is H rfl (Dr.pG rfl hE rfl rfl rfl ⟨rfl, rfl⟩),
    by intro a w g hE H; exact Dr.is H rfl (Dr.pG rfl hE rfl rfl rfl ⟨rfl, rfl⟩),
    by intro a w g hE H; exact Dr.is H rfl (Dr.pG rfl hE rfl rfl rfl ⟨rfl, rfl⟩),
    by intro a w g hE H; exact Dr.is H rfl (Dr.pG rfl hE rfl rfl rfl ⟨rfl, rfl⟩),
    by intro a w g hE H; exact Dr.is H rfl (Dr.run rfl (d_pT hE rfl rfl rfl)),
    trivial⟩
                · trivial
                · intro a w g hE H
                  have H : St z I w (r) := H
                  cases hm
                  exact ⟨hE.sub ⟨rfl, rfl, rfl, rfl, trivial⟩, H⟩
            · rintro a w ⟨hE, H⟩
              by_cases c2385 : s2362 = true
              · rw [if_pos c2385] at hm
                refine cT hE rfl c2385 ?_
                refine wp_seq ?_
                refine wp_region_lit ?_
                refine s1 hE rfl (d_assign hE rfl) fun a hE => ?_
                refine wpList_nil ?_
                refine wp_ret ?_
                cases hm
                have hm := hq2129
                simp only [Out.on] at hm
                cases hm
                exact ret1 rfl hE rfl ⟨_, rfl, rfl, H⟩
              · rw [if_neg c2385] at hm
                refine cF hE rfl (b_f c2385) ?_
                refine wp_skip ?_
                refine wp_seq ?_
                refine wp_region_lit ?_
                refine s1 hE rfl (d_assign hE rfl) fun a hE => ?_
                refine wpList_nil ?_
                obtain ⟨s2491, hj2491, hq2491⟩ := bnd hm
                refine cut2 (fun a w => ∃ s_ : Unit, s2491 = .go s_ ∧ Env a 97 [(0, u0), (1, u1), (5, (.int .i64 y1714))] ∧ St z I w (r)) ?_ ?_
                · refine wp_block ?_
                  refine loopI (fun k a w => ∃ y2438 : Int, m56_l1 a0 a1 y1714 k y2438 = some s2491 ∧ Env a 97 [(0, u0), (1, u1), (5, (.int .i64 y1714)), (6, (.int .i64 y2438))] ∧ St z I w (r)) ?_ k _ _ ?_
                  · rintro k a w ⟨y2438, hm, hE, H⟩
                    cases k with
                    | zero => rw [m56_l1] at hm; cases hm
                    | succ k =>
                      rw [m56_l1] at hm
                      refine wp_seq ?_
                      refine wp_seq ?_
                      refine wp_region_lit ?_
                      refine s1 hE rfl (d_move hE rfl) fun a hE => ?_
                      refine s1 hE rfl (d_move hE rfl) fun a hE => ?_
                      refine s1 hE rfl (d_move hE rfl) fun a hE => ?_
                      obtain ⟨x2495, hx2496, hm⟩ := bnd hm
                      refine s1 hE rfl (d_indexS sl87 hE rfl rfl H hr0 hx2496) fun a hE => ?_
                      refine s1 hE rfl (d_fieldAddr fld94_2 hE rfl) fun a hE => ?_
                      refine s2 hE rfl (d_loadSfR (c := c_api_Ways) (j := 2) (Q := fun V => ImR (cInt .i64) V x2495.Via) sc51 hE rfl H hr0 hx2496 (fun _ _ e => by obtain ⟨V0, rfl, h0⟩ := e; exact ⟨_, rfl, h0⟩)) fun a v w hR hE => ?_
                      obtain ⟨v2497, rfl⟩ : ∃ x, x = v := ⟨v, rfl⟩
                      have H : St z I w (ImR (cInt .i64) v2497 x2495.Via :: r) := hR
                      refine s1 hE rfl (d_lenS Try.underlying51 hE rfl H (Rd.im 0 rfl)) fun a hE => ?_
                      refine s1 hE rfl (d_lss hE rfl rfl) fun a hE => ?_
                      refine wpList_nil ?_
                      by_cases c2499 : y2438 < (x2495.Via.length : Int)
                      · rw [if_pos c2499] at hm
                        refine cT hE rfl (decide_eq_true c2499) ?_
                        refine wp_skip ?_
                        refine wp_seq ?_
                        refine wp_block ?_
                        refine wp_seq ?_
                        obtain ⟨x2532, hx2533, hm⟩ := bnd hm
                        obtain ⟨x2535, hx2536, hm⟩ := bnd hm
                        obtain ⟨x2537, hx2538, hm⟩ := bnd hm
                        obtain ⟨x2540, hx2541, hm⟩ := bnd hm
                        refine Dr.region (γ := Value × Value) (pre := [[], [], [0, 1], [0, 1, 2], [0, 1, 2, 3], [], [0, 1, 2, 3, 4, 5], [0, 1, 2, 3, 4, 5, 6], [], [], [8, 9], [8, 9, 10], [8, 9, 10, 11], [], [8, 9, 10, 11, 12, 13], [8, 9, 10, 11, 12, 13, 14], [0, 1, 2, 3, 4, 5, 6, 7, 8, 9, 10, 11, 12, 13, 14, 15]]) (val := [some u0, some (.int .i64 y1714), some (.pointer (some (ad (sb u0) (so u0 + (Int.toNat y1714) * c_api_Ways.n)))), some (.pointer (some (ad (sb u0) (so u0 + (Int.toNat y1714) * c_api_Ways.n + 2)))), none, some (.int .i64 y2438), none, none, some u1, some (.int .i64 y1714), some (.pointer (some (ad (sb u1) (so u1 + (Int.toNat y1714) * c_api_Ways.n)))), some (.pointer (some (ad (sb u1) (so u1 + (Int.toNat y1714) * c_api_Ways.n + 2)))), none, some (.int .i64 y2438), none, none, none]) (eff := [4, 6, 7, 12, 14, 15, 16]) (mask := [[], [4], [12], [4, 6], [4, 12], [12, 14], [4, 6, 7], [4, 6, 12], [4, 12, 14], [12, 14, 15], [4, 6, 7, 12], [4, 6, 12, 14], [4, 12, 14, 15], [4, 6, 7, 12, 14], [4, 6, 12, 14, 15], [4, 6, 7, 12, 14, 15], [4, 6, 7, 12, 14, 15, 16]]) (keys := [[], [84], [92], [86, 84], [92, 84], [94, 92], [87, 86, 84], [92, 86, 84], [94, 92, 84], [95, 94, 92], [92, 87, 86, 84], [94, 92, 86, 84], [95, 94, 92, 84], [94, 92, 87, 86, 84], [95, 94, 92, 86, 84], [95, 94, 92, 87, 86, 84], [96, 95, 94, 92, 87, 86, 84]]) (src := [[.base 0], [.base 5], [.op 0, .op 1], [.op 2], [.op 3], [.base 6], [.op 5], [], [.base 1], [.base 5], [.op 8, .op 9], [.op 10], [.op 11], [.base 6], [.op 13], [], []]) (z := z) (ef := fun p g => ([[], [(84, g.1)], [(92, g.2)], [(86, (.pointer (some (ad (sb g.1) (so g.1 + (Int.toNat y2438) * (cInt .i64).n))))), (84, g.1)], [(92, g.2), (84, g.1)], [(94, (.pointer (some (ad (sb g.2) (so g.2 + (Int.toNat y2438) * (cInt .i64).n))))), (92, g.2)], [(87, (.int .i64 x2535)), (86, (.pointer (some (ad (sb g.1) (so g.1 + (Int.toNat y2438) * (cInt .i64).n))))), (84, g.1)], [(92, g.2), (86, (.pointer (some (ad (sb g.1) (so g.1 + (Int.toNat y2438) * (cInt .i64).n))))), (84, g.1)], [(94, (.pointer (some (ad (sb g.2) (so g.2 + (Int.toNat y2438) * (cInt .i64).n))))), (92, g.2), (84, g.1)], [(95, (.int .i64 x2540)), (94, (.pointer (some (ad (sb g.2) (so g.2 + (Int.toNat y2438) * (cInt .i64).n))))), (92, g.2)], [(92, g.2), (87, (.int .i64 x2535)), (86, (.pointer (some (ad (sb g.1) (so g.1 + (Int.toNat y2438) * (cInt .i64).n))))), (84, g.1)], [(94, (.pointer (some (ad (sb g.2) (so g.2 + (Int.toNat y2438) * (cInt .i64).n))))), (92, g.2), (86, (.pointer (some (ad (sb g.1) (so g.1 + (Int.toNat y2438) * (cInt .i64).n))))), (84, g.1)], [(95, (.int .i64 x2540)), (94, (.pointer (some (ad (sb g.2) (so g.2 + (Int.toNat y2438) * (cInt .i64).n))))), (92, g.2), (84, g.1)], [(94, (.pointer (some (ad (sb g.2) (so g.2 + (Int.toNat y2438) * (cInt .i64).n))))), (92, g.2), (87, (.int .i64 x2535)), (86, (.pointer (some (ad (sb g.1) (so g.1 + (Int.toNat y2438) * (cInt .i64).n))))), (84, g.1)], [(95, (.int .i64 x2540)), (94, (.pointer (some (ad (sb g.2) (so g.2 + (Int.toNat y2438) * (cInt .i64).n))))), (92, g.2), (86, (.pointer (some (ad (sb g.1) (so g.1 + (Int.toNat y2438) * (cInt .i64).n))))), (84, g.1)], [(95, (.int .i64 x2540)), (94, (.pointer (some (ad (sb g.2) (so g.2 + (Int.toNat y2438) * (cInt .i64).n))))), (92, g.2), (87, (.int .i64 x2535)), (86, (.pointer (some (ad (sb g.1) (so g.1 + (Int.toNat y2438) * (cInt .i64).n))))), (84, g.1)], [(96, (.bool (!(decide (x2535 = x2540))))), (95, (.int .i64 x2540)), (94, (.pointer (some (ad (sb g.2) (so g.2 + (Int.toNat y2438) * (cInt .i64).n))))), (92, g.2), (87, (.int .i64 x2535)), (86, (.pointer (some (ad (sb g.1) (so g.1 + (Int.toNat y2438) * (cInt .i64).n))))), (84, g.1)]] : List (List (Nat × Value))).getD p []) (hi := fun _ _ => I) (rs := fun p g => ([ImR (cInt .i64) v2497 x2495.Via :: r, ImR (cInt .i64) g.1 x2532.Via :: ImR (cInt .i64) v2497 x2495.Via :: r, ImR (cInt .i64) g.2 x2537.Via :: ImR (cInt .i64) v2497 x2495.Via :: r, ImR (cInt .i64) g.1 x2532.Via :: ImR (cInt .i64) v2497 x2495.Via :: r, ImR (cInt .i64) g.2 x2537.Via :: ImR (cInt .i64) g.1 x2532.Via :: ImR (cInt .i64) v2497 x2495.Via :: r, ImR (cInt .i64) g.2 x2537.Via :: ImR (cInt .i64) v2497 x2495.Via :: r, ImR (cInt .i64) g.1 x2532.Via :: ImR (cInt .i64) v2497 x2495.Via :: r, ImR (cInt .i64) g.2 x2537.Via :: ImR (cInt .i64) g.1 x2532.Via :: ImR (cInt .i64) v2497 x2495.Via :: r, ImR (cInt .i64) g.2 x2537.Via :: ImR (cInt .i64) g.1 x2532.Via :: ImR (cInt .i64) v2497 x2495.Via :: r, ImR (cInt .i64) g.2 x2537.Via :: ImR (cInt .i64) v2497 x2495.Via :: r, ImR (cInt .i64) g.2 x2537.Via :: ImR (cInt .i64) g.1 x2532.Via :: ImR (cInt .i64) v2497 x2495.Via :: r, ImR (cInt .i64) g.2 x2537.Via :: ImR (cInt .i64) g.1 x2532.Via :: ImR (cInt .i64) v2497 x2495.Via :: r, ImR (cInt .i64) g.2 x2537.Via :: ImR (cInt .i64) g.1 x2532.Via :: ImR (cInt .i64) v2497 x2495.Via :: r, ImR (cInt .i64) g.2 x2537.Via :: ImR (cInt .i64) g.1 x2532.Via :: ImR (cInt .i64) v2497 x2495.Via :: r, ImR (cInt .i64) g.2 x2537.Via :: ImR (cInt .i64) g.1 x2532.Via :: ImR (cInt .i64) v2497 x2495.Via :: r, ImR (cInt .i64) g.2 x2537.Via :: ImR (cInt .i64) g.1 x2532.Via :: ImR (cInt .i64) v2497 x2495.Via :: r, ImR (cInt .i64) g.2 x2537.Via :: ImR (cInt .i64) g.1 x2532.Via :: ImR (cInt .i64) v2497 x2495.Via :: r] : List (List Asn)).getD p []) [(0, 0), (1, 0), (2, 0), (3, 0), (5, 0), (8, 0), (9, 0), (10, 0), (11, 0), (13, 0), (5, 1), (8, 1), (9, 1), (10, 1), (11, 1), (13, 1), (0, 2), (1, 2), (2, 2), (3, 2), (5, 2), (13, 2), (8, 3), (9, 3), (10, 3), (11, 3), (13, 3), (5, 4), (13, 4), (0, 5), (1, 5), (2, 5), (3, 5), (5, 5), (8, 6), (9, 6), (10, 6), (11, 6), (13, 6), (13, 7), (5, 8), (0, 9), (1, 9), (2, 9), (3, 9), (5, 9), (13, 10), (5, 12)] [(0, 4, 1), (0, 12, 2), (1, 6, 3), (1, 12, 4), (2, 4, 4), (2, 14, 5), (3, 7, 6), (3, 12, 7), (4, 6, 7), (4, 14, 8), (5, 4, 8), (5, 15, 9), (6, 12, 10), (7, 7, 10), (7, 14, 11), (8, 6, 11), (8, 15, 12), (9, 4, 12), (10, 14, 13), (11, 7, 13), (11, 15, 14), (12, 6, 14), (13, 15, 15), (14, 7, 15), (15, 16, 16)] [0, 1, 2, 3, 5, 8, 9, 10, 11, 13] 16 mo hE (undef, undef) rfl H (by kernel_rfl) (by kernel_rfl) (fun p g => by rcases p with _ | _ | _ | _ | _ | _ | _ | _ | _ | _ | _ | _ | _ | _ | _ | _ | _ | p <;> rfl) ?_ ?_ (by kernel_rfl) (by kernel_rfl) ?_
                        · exact ⟨by intro a w g hE H; obtain ⟨v2534, v2539⟩ := g; exact Dr.is H rfl (Dr.run rfl (d_move hE rfl)),
    by intro a w g hE H; obtain ⟨v2534, v2539⟩ := g; exact Dr.is H rfl (Dr.run rfl (d_move hE rfl)),
    by intro a w g hE H; obtain ⟨v2534, v2539⟩ := g; exact Dr.is H rfl (Dr.run rfl (d_indexS sl87 hE rfl rfl H (Rd.cons hr0) hx2533)),
    by intro a w g hE H; obtain ⟨v2534, v2539⟩ := g; exact Dr.is H rfl (Dr.run rfl (d_fieldAddr fld94_2 hE rfl)),
    by intro a w g hE H; obtain ⟨v2534, v2539⟩ := g; exact Dr.is H rfl (Dr.run rfl (d_move hE rfl)),
    by intro a w g hE H; obtain ⟨v2534, v2539⟩ := g; exact Dr.is H rfl (Dr.run rfl (d_move hE rfl)),
    by intro a w g hE H; obtain ⟨v2534, v2539⟩ := g; exact Dr.is H rfl (Dr.run rfl (d_move hE rfl)),
    by intro a w g hE H; obtain ⟨v2534, v2539⟩ := g; exact Dr.is H rfl (Dr.run rfl (d_indexS sl87 hE rfl rfl H (Rd.cons hr1) hx2538)),
    by intro a w g hE H; obtain ⟨v2534, v2539⟩ := g; exact Dr.is H rfl (Dr.run rfl (d_fieldAddr fld94_2 hE rfl)),
    by intro a w g hE H; obtain ⟨v2534, v2539⟩ := g; exact Dr.is H rfl (Dr.run rfl (d_move hE rfl)),
    by intro a w g hE H; obtain ⟨v2534, v2539⟩ := g; exact Dr.is H rfl (Dr.run rfl (d_move hE rfl)),
    by intro a w g hE H; obtain ⟨v2534, v2539⟩ := g; exact Dr.is H rfl (Dr.run rfl (d_move hE rfl)),
    by intro a w g hE H; obtain ⟨v2534, v2539⟩ := g; exact Dr.is H rfl (Dr.run rfl (d_move hE rfl)),
    by intro a w g hE H; obtain ⟨v2534, v2539⟩ := g; exact Dr.is H rfl (Dr.run rfl (d_indexS sl87 hE rfl rfl H (Rd.cons (Rd.cons hr1)) hx2538)),
    by intro a w g hE H; obtain ⟨v2534, v2539⟩ := g; exact Dr.is H rfl (Dr.run rfl (d_fieldAddr fld94_2 hE rfl)),
    by intro a w g hE H; obtain ⟨v2534, v2539⟩ := g; exact Dr.is H rfl (Dr.run rfl (d_move hE rfl)),
    by intro a w g hE H; obtain ⟨v2534, v2539⟩ := g; exact Dr.is H rfl (Dr.run rfl (d_move hE rfl)),
    by intro a w g hE H; obtain ⟨v2534, v2539⟩ := g; exact Dr.is H rfl (Dr.run rfl (d_move hE rfl)),
    by intro a w g hE H; obtain ⟨v2534, v2539⟩ := g; exact Dr.is H rfl (Dr.run rfl (d_indexS sl87 hE rfl rfl H (Rd.cons (Rd.cons hr0)) hx2533)),
    by intro a w g hE H; obtain ⟨v2534, v2539⟩ := g; exact Dr.is H rfl (Dr.run rfl (d_fieldAddr fld94_2 hE rfl)),
    by intro a w g hE H; obtain ⟨v2534, v2539⟩ := g; exact Dr.is H rfl (Dr.run rfl (d_move hE rfl)),
    by intro a w g hE H; obtain ⟨v2534, v2539⟩ := g; exact Dr.is H rfl (Dr.run rfl (d_move hE rfl)),
    by intro a w g hE H; obtain ⟨v2534, v2539⟩ := g; exact Dr.is H rfl (Dr.run rfl (d_move hE rfl)),
    by intro a w g hE H; obtain ⟨v2534, v2539⟩ := g; exact Dr.is H rfl (Dr.run rfl (d_move hE rfl)),
    by intro a w g hE H; obtain ⟨v2534, v2539⟩ := g; exact Dr.is H rfl (Dr.run rfl (d_indexS sl87 hE rfl rfl H (Rd.cons (Rd.cons hr1)) hx2538)),
    by intro a w g hE H; obtain ⟨v2534, v2539⟩ := g; exact Dr.is H rfl (Dr.run rfl (d_fieldAddr fld94_2 hE rfl)),
    by intro a w g hE H; obtain ⟨v2534, v2539⟩ := g; exact Dr.is H rfl (Dr.run rfl (d_move hE rfl)),
    by intro a w g hE H; obtain ⟨v2534, v2539⟩ := g; exact Dr.is H rfl (Dr.run rfl (d_move hE rfl)),
    by intro a w g hE H; obtain ⟨v2534, v2539⟩ := g; exact Dr.is H rfl (Dr.run rfl (d_move hE rfl)),
    by intro a w g hE H; obtain ⟨v2534, v2539⟩ := g; exact Dr.is H rfl (Dr.run rfl (d_move hE rfl)),
    by intro a w g hE H; obtain ⟨v2534, v2539⟩ := g; exact Dr.is H rfl (Dr.run rfl (d_move hE rfl)),
    by intro a w g hE H; obtain ⟨v2534, v2539⟩ := g; exact Dr.is H rfl (Dr.run rfl (d_indexS sl87 hE rfl rfl H (Rd.cons (Rd.cons hr0)) hx2533)),
    by intro a w g hE H; obtain ⟨v2534, v2539⟩ := g; exact Dr.is H rfl (Dr.run rfl (d_fieldAddr fld94_2 hE rfl)),
    by intro a w g hE H; obtain ⟨v2534, v2539⟩ := g; exact Dr.is H rfl (Dr.run rfl (d_move hE rfl)),
    by intro a w g hE H; obtain ⟨v2534, v2539⟩ := g; exact Dr.is H rfl (Dr.run rfl (d_move hE rfl)),
    by intro a w g hE H; obtain ⟨v2534, v2539⟩ := g; exact Dr.is H rfl (Dr.run rfl (d_move hE rfl)),
    by intro a w g hE H; obtain ⟨v2534, v2539⟩ := g; exact Dr.is H rfl (Dr.run rfl (d_indexS sl87 hE rfl rfl H (Rd.cons (Rd.cons hr1)) hx2538)),
    by intro a w g hE H; obtain ⟨v2534, v2539⟩ := g; exact Dr.is H rfl (Dr.run rfl (d_fieldAddr fld94_2 hE rfl)),
    by intro a w g hE H; obtain ⟨v2534, v2539⟩ := g; exact Dr.is H rfl (Dr.run rfl (d_move hE rfl)),
    by intro a w g hE H; obtain ⟨v2534, v2539⟩ := g; exact Dr.is H rfl (Dr.run rfl (d_move hE rfl)),
    by intro a w g hE H; obtain ⟨v2534, v2539⟩ := g; exact Dr.is H rfl (Dr.run rfl (d_move hE rfl)),
    by intro a w g hE H; obtain ⟨v2534, v2539⟩ := g; exact Dr.is H rfl (Dr.run rfl (d_move hE rfl)),
    by intro a w g hE H; obtain ⟨v2534, v2539⟩ := g; exact Dr.is H rfl (Dr.run rfl (d_move hE rfl)),
    by intro a w g hE H; obtain ⟨v2534, v2539⟩ := g; exact Dr.is H rfl (Dr.run rfl (d_indexS sl87 hE rfl rfl H (Rd.cons (Rd.cons hr0)) hx2533)),
    by intro a w g hE H; obtain ⟨v2534, v2539⟩ := g; exact Dr.is H rfl (Dr.run rfl (d_fieldAddr fld94_2 hE rfl)),
    by intro a w g hE H; obtain ⟨v2534, v2539⟩ := g; exact Dr.is H rfl (Dr.run rfl (d_move hE rfl)),
    by intro a w g hE H; obtain ⟨v2534, v2539⟩ := g; exact Dr.is H rfl (Dr.run rfl (d_move hE rfl)),
    by intro a w g hE H; obtain ⟨v2534, v2539⟩ := g; exact Dr.is H rfl (Dr.run rfl (d_move hE rfl)),
    trivial⟩
                        · exact ⟨by intro a w g hE hF H; obtain ⟨v2534, v2539⟩ := g; refine (Dr.run rfl (d_loadSfR (c := c_api_Ways) (j := 2) (Q := fun V => ImR (cInt .i64) V x2532.Via) sc51 hE rfl H (Rd.cons hr0) hx2533 (fun _ _ e => by obtain ⟨V0, rfl, h0⟩ := e; exact ⟨_, rfl, h0⟩))).mono fun v w hR => ?_; obtain ⟨v2534, rfl⟩ : ∃ x, x = v := ⟨v, rfl⟩; have H : St z I w (ImR (cInt .i64) v2534 x2532.Via :: ImR (cInt .i64) v2497 x2495.Via :: r) := hR; exact ⟨(v2534, v2539), H, Dr.lkSub ⟨rfl, trivial⟩⟩,
    by intro a w g hE hF H; obtain ⟨v2534, v2539⟩ := g; refine (Dr.run rfl (d_loadSfR (c := c_api_Ways) (j := 2) (Q := fun V => ImR (cInt .i64) V x2537.Via) sc51 hE rfl H (Rd.cons hr1) hx2538 (fun _ _ e => by obtain ⟨V0, rfl, h0⟩ := e; exact ⟨_, rfl, h0⟩))).mono fun v w hR => ?_; obtain ⟨v2539, rfl⟩ : ∃ x, x = v := ⟨v, rfl⟩; have H : St z I w (ImR (cInt .i64) v2539 x2537.Via :: ImR (cInt .i64) v2497 x2495.Via :: r) := hR; exact ⟨(v2534, v2539), H, Dr.lkSub ⟨rfl, trivial⟩⟩,
    by intro a w g hE hF H; obtain ⟨v2534, v2539⟩ := g; have hE := Dr.env_both hE hF; refine (Dr.run rfl (d_indexS sl51 hE rfl rfl H (Rd.im 0 rfl) hx2536)).mono fun v w' hR => ?_; obtain ⟨hv_, rfl⟩ := hR; have hv_ := hv_.symm; subst hv_; exact ⟨(v2534, v2539), H, Dr.lkSub ⟨rfl, rfl, trivial⟩⟩,
    by intro a w g hE hF H; obtain ⟨v2534, v2539⟩ := g; refine (Dr.run rfl (d_loadSfR (c := c_api_Ways) (j := 2) (Q := fun V => ImR (cInt .i64) V x2537.Via) sc51 hE rfl H (Rd.cons (Rd.cons hr1)) hx2538 (fun _ _ e => by obtain ⟨V0, rfl, h0⟩ := e; exact ⟨_, rfl, h0⟩))).mono fun v w hR => ?_; obtain ⟨v2539, rfl⟩ : ∃ x, x = v := ⟨v, rfl⟩; have H : St z I w (ImR (cInt .i64) v2539 x2537.Via :: ImR (cInt .i64) v2534 x2532.Via :: ImR (cInt .i64) v2497 x2495.Via :: r) := hR; exact ⟨(v2534, v2539), H, Dr.lkSub ⟨rfl, rfl, trivial⟩⟩,
    by intro a w g hE hF H; obtain ⟨v2534, v2539⟩ := g; refine (Dr.run rfl (d_loadSfR (c := c_api_Ways) (j := 2) (Q := fun V => ImR (cInt .i64) V x2532.Via) sc51 hE rfl H (Rd.cons (Rd.cons hr0)) hx2533 (fun _ _ e => by obtain ⟨V0, rfl, h0⟩ := e; exact ⟨_, rfl, h0⟩))).mono fun v w hR => ?_; obtain ⟨v2534, rfl⟩ : ∃ x, x = v := ⟨v, rfl⟩; have H : St z I w (ImR (cInt .i64) v2534 x2532.Via :: ImR (cInt .i64) v2539 x2537.Via :: ImR (cInt .i64) v2497 x2495.Via :: r) := hR; have H := St.get H 2 rfl; have H := St.get H 1 rfl; have H := St.get H 2 rfl; exact ⟨(v2534, v2539), H, Dr.lkSub ⟨rfl, rfl, trivial⟩⟩,
    by intro a w g hE hF H; obtain ⟨v2534, v2539⟩ := g; have hE := Dr.env_both hE hF; refine (Dr.run rfl (d_indexS sl51 hE rfl rfl H (Rd.im 0 rfl) hx2541)).mono fun v w' hR => ?_; obtain ⟨hv_, rfl⟩ := hR; have hv_ := hv_.symm; subst hv_; exact ⟨(v2534, v2539), H, Dr.lkSub ⟨rfl, rfl, trivial⟩⟩,
    by intro a w g hE hF H; obtain ⟨v2534, v2539⟩ := g; have hE := Dr.env_both hE hF; refine (Dr.run rfl (d_loadS1 sc3 hE rfl H (Rd.im 0 rfl) hx2536 (fun _ _ e => e))).mono fun v w' hR => ?_; obtain ⟨hv_, rfl⟩ := hR; have hv_ := hv_.symm; subst hv_; exact ⟨(v2534, v2539), H, Dr.lkSub ⟨rfl, rfl, rfl, trivial⟩⟩,
    by intro a w g hE hF H; obtain ⟨v2534, v2539⟩ := g; refine (Dr.run rfl (d_loadSfR (c := c_api_Ways) (j := 2) (Q := fun V => ImR (cInt .i64) V x2537.Via) sc51 hE rfl H (Rd.cons (Rd.cons hr1)) hx2538 (fun _ _ e => by obtain ⟨V0, rfl, h0⟩ := e; exact ⟨_, rfl, h0⟩))).mono fun v w hR => ?_; obtain ⟨v2539, rfl⟩ : ∃ x, x = v := ⟨v, rfl⟩; have H : St z I w (ImR (cInt .i64) v2539 x2537.Via :: ImR (cInt .i64) v2534 x2532.Via :: ImR (cInt .i64) v2497 x2495.Via :: r) := hR; exact ⟨(v2534, v2539), H, Dr.lkSub ⟨rfl, rfl, rfl, trivial⟩⟩,
    by intro a w g hE hF H; obtain ⟨v2534, v2539⟩ := g; have hE := Dr.env_both hE hF; refine (Dr.run rfl (d_indexS sl51 hE rfl rfl H (Rd.im 1 rfl) hx2536)).mono fun v w' hR => ?_; obtain ⟨hv_, rfl⟩ := hR; have hv_ := hv_.symm; subst hv_; exact ⟨(v2534, v2539), H, Dr.lkSub ⟨rfl, rfl, rfl, trivial⟩⟩,
    by intro a w g hE hF H; obtain ⟨v2534, v2539⟩ := g; have hE := Dr.env_both hE hF; refine (Dr.run rfl (d_indexS sl51 hE rfl rfl H (Rd.im 0 rfl) hx2541)).mono fun v w' hR => ?_; obtain ⟨hv_, rfl⟩ := hR; have hv_ := hv_.symm; subst hv_; exact ⟨(v2534, v2539), H, Dr.lkSub ⟨rfl, rfl, rfl, trivial⟩⟩,
    by intro a w g hE hF H; obtain ⟨v2534, v2539⟩ := g; refine (Dr.run rfl (d_loadSfR (c := c_api_Ways) (j := 2) (Q := fun V => ImR (cInt .i64) V x2532.Via) sc51 hE rfl H (Rd.cons (Rd.cons hr0)) hx2533 (fun _ _ e => by obtain ⟨V0, rfl, h0⟩ := e; exact ⟨_, rfl, h0⟩))).mono fun v w hR => ?_; obtain ⟨v2534, rfl⟩ : ∃ x, x = v := ⟨v, rfl⟩; have H : St z I w (ImR (cInt .i64) v2534 x2532.Via :: ImR (cInt .i64) v2539 x2537.Via :: ImR (cInt .i64) v2497 x2495.Via :: r) := hR; have H := St.get H 2 rfl; have H := St.get H 1 rfl; have H := St.get H 2 rfl; exact ⟨(v2534, v2539), H, Dr.lkSub ⟨rfl, rfl, rfl, trivial⟩⟩,
    by intro a w g hE hF H; obtain ⟨v2534, v2539⟩ := g; have hE := Dr.env_both hE hF; refine (Dr.run rfl (d_loadS1 sc3 hE rfl H (Rd.im 0 rfl) hx2541 (fun _ _ e => e))).mono fun v w' hR => ?_; obtain ⟨hv_, rfl⟩ := hR; have hv_ := hv_.symm; subst hv_; exact ⟨(v2534, v2539), H, Dr.lkSub ⟨rfl, rfl, rfl, trivial⟩⟩,
    by intro a w g hE hF H; obtain ⟨v2534, v2539⟩ := g; refine (Dr.run rfl (d_loadSfR (c := c_api_Ways) (j := 2) (Q := fun V => ImR (cInt .i64) V x2537.Via) sc51 hE rfl H (Rd.cons (Rd.cons hr1)) hx2538 (fun _ _ e => by obtain ⟨V0, rfl, h0⟩ := e; exact ⟨_, rfl, h0⟩))).mono fun v w hR => ?_; obtain ⟨v2539, rfl⟩ : ∃ x, x = v := ⟨v, rfl⟩; have H : St z I w (ImR (cInt .i64) v2539 x2537.Via :: ImR (cInt .i64) v2534 x2532.Via :: ImR (cInt .i64) v2497 x2495.Via :: r) := hR; exact ⟨(v2534, v2539), H, Dr.lkSub ⟨rfl, rfl, rfl, rfl, trivial⟩⟩,
    by intro a w g hE hF H; obtain ⟨v2534, v2539⟩ := g; have hE := Dr.env_both hE hF; refine (Dr.run rfl (d_loadS1 sc3 hE rfl H (Rd.im 1 rfl) hx2536 (fun _ _ e => e))).mono fun v w' hR => ?_; obtain ⟨hv_, rfl⟩ := hR; have hv_ := hv_.symm; subst hv_; exact ⟨(v2534, v2539), H, Dr.lkSub ⟨rfl, rfl, rfl, rfl, trivial⟩⟩,
    by intro a w g hE hF H; obtain ⟨v2534, v2539⟩ := g; have hE := Dr.env_both hE hF; refine (Dr.run rfl (d_indexS sl51 hE rfl rfl H (Rd.im 0 rfl) hx2541)).mono fun v w' hR => ?_; obtain ⟨hv_, rfl⟩ := hR; have hv_ := hv_.symm; subst hv_; exact ⟨(v2534, v2539), H, Dr.lkSub ⟨rfl, rfl, rfl, rfl, trivial⟩⟩,
    by intro a w g hE hF H; obtain ⟨v2534, v2539⟩ := g; have hE := Dr.env_both hE hF; refine (Dr.run rfl (d_indexS sl51 hE rfl rfl H (Rd.im 1 rfl) hx2536)).mono fun v w' hR => ?_; obtain ⟨hv_, rfl⟩ := hR; have hv_ := hv_.symm; subst hv_; exact ⟨(v2534, v2539), H, Dr.lkSub ⟨rfl, rfl, rfl, rfl, trivial⟩⟩,
    by intro a w g hE hF H; obtain ⟨v2534, v2539⟩ := g; have hE := Dr.env_both hE hF; refine (Dr.run rfl (d_loadS1 sc3 hE rfl H (Rd.im 0 rfl) hx2541 (fun _ _ e => e))).mono fun v w' hR => ?_; obtain ⟨hv_, rfl⟩ := hR; have hv_ := hv_.symm; subst hv_; exact ⟨(v2534, v2539), H, Dr.lkSub ⟨rfl, rfl, rfl, rfl, trivial⟩⟩,
    by intro a w g hE hF H; obtain ⟨v2534, v2539⟩ := g; refine (Dr.run rfl (d_loadSfR (c := c_api_Ways) (j := 2) (Q := fun V => ImR (cInt .i64) V x2532.Via) sc51 hE rfl H (Rd.cons (Rd.cons hr0)) hx2533 (fun _ _ e => by obtain ⟨V0, rfl, h0⟩ := e; exact ⟨_, rfl, h0⟩))).mono fun v w hR => ?_; obtain ⟨v2534, rfl⟩ : ∃ x, x = v := ⟨v, rfl⟩; have H : St z I w (ImR (cInt .i64) v2534 x2532.Via :: ImR (cInt .i64) v2539 x2537.Via :: ImR (cInt .i64) v2497 x2495.Via :: r) := hR; have H := St.get H 2 rfl; have H := St.get H 1 rfl; have H := St.get H 2 rfl; exact ⟨(v2534, v2539), H, Dr.lkSub ⟨rfl, rfl, rfl, rfl, trivial⟩⟩,
    by intro a w g hE hF H; obtain ⟨v2534, v2539⟩ := g; have hE := Dr.env_both hE hF; refine (Dr.run rfl (d_indexS sl51 hE rfl rfl H (Rd.im 0 rfl) hx2541)).mono fun v w' hR => ?_; obtain ⟨hv_, rfl⟩ := hR; have hv_ := hv_.symm; subst hv_; exact ⟨(v2534, v2539), H, Dr.lkSub ⟨rfl, rfl, rfl, rfl, rfl, trivial⟩⟩,
    by intro a w g hE hF H; obtain ⟨v2534, v2539⟩ := g; have hE := Dr.env_both hE hF; refine (Dr.run rfl (d_loadS1 sc3 hE rfl H (Rd.im 1 rfl) hx2536 (fun _ _ e => e))).mono fun v w' hR => ?_; obtain ⟨hv_, rfl⟩ := hR; have hv_ := hv_.symm; subst hv_; exact ⟨(v2534, v2539), H, Dr.lkSub ⟨rfl, rfl, rfl, rfl, rfl, trivial⟩⟩,
    by intro a w g hE hF H; obtain ⟨v2534, v2539⟩ := g; have hE := Dr.env_both hE hF; refine (Dr.run rfl (d_loadS1 sc3 hE rfl H (Rd.im 0 rfl) hx2541 (fun _ _ e => e))).mono fun v w' hR => ?_; obtain ⟨hv_, rfl⟩ := hR; have hv_ := hv_.symm; subst hv_; exact ⟨(v2534, v2539), H, Dr.lkSub ⟨rfl, rfl, rfl, rfl, rfl, trivial⟩⟩,
    by intro a w g hE hF H; obtain ⟨v2534, v2539⟩ := g; have hE := Dr.env_both hE hF; refine (Dr.run rfl (d_indexS sl51 hE rfl rfl H (Rd.im 1 rfl) hx2536)).mono fun v w' hR => ?_; obtain ⟨hv_, rfl⟩ := hR; have hv_ := hv_.symm; subst hv_; exact ⟨(v2534, v2539), H, Dr.lkSub ⟨rfl, rfl, rfl, rfl, rfl, trivial⟩⟩,
    by intro a w g hE hF H; obtain ⟨v2534, v2539⟩ := g; have hE := Dr.env_both hE hF; refine (Dr.run rfl (d_loadS1 sc3 hE rfl H (Rd.im 0 rfl) hx2541 (fun _ _ e => e))).mono fun v w' hR => ?_; obtain ⟨hv_, rfl⟩ := hR; have hv_ := hv_.symm; subst hv_; exact ⟨(v2534, v2539), H, Dr.lkSub ⟨rfl, rfl, rfl, rfl, rfl, rfl, trivial⟩⟩,
    by intro a w g hE hF H; obtain ⟨v2534, v2539⟩ := g; have hE := Dr.env_both hE hF; refine (Dr.run rfl (d_loadS1 sc3 hE rfl H (Rd.im 1 rfl) hx2536 (fun _ _ e => e))).mono fun v w' hR => ?_; obtain ⟨hv_, rfl⟩ := hR; have hv_ := hv_.symm; subst hv_; exact ⟨(v2534, v2539), H, Dr.lkSub ⟨rfl, rfl, rfl, rfl, rfl, rfl, trivial⟩⟩,
    by intro a w g hE hF H; obtain ⟨v2534, v2539⟩ := g; have hE := Dr.env_both hE hF; refine (Dr.run rfl (d_neq hE rfl rfl)).mono fun v w' hR => ?_; obtain ⟨hv_, rfl⟩ := hR; have hv_ := hv_.symm; subst hv_; exact ⟨(v2534, v2539), H, Dr.lkSub ⟨rfl, rfl, rfl, rfl, rfl, rfl, rfl, trivial⟩⟩,
    trivial⟩
                        · intro a w g hE H
                          obtain ⟨v2534, v2539⟩ := g
                          have H : St z I w (ImR (cInt .i64) v2539 x2537.Via :: ImR (cInt .i64) v2534 x2532.Via :: ImR (cInt .i64) v2497 x2495.Via :: r) := H
                          by_cases c2543 : x2535 = x2540
                          · rw [if_pos c2543] at hm
                            refine cF hE rfl (not_f (decide_eq_true c2543)) ?_
                            refine wp_skip ?_
                            refine wp_region_lit ?_
                            refine s1 hE rfl (d_move hE rfl) fun a hE => ?_
                            refine s1 hE rfl (d_add hE rfl rfl) fun a hE => ?_
                            refine s1 hE rfl (d_assign hE rfl) fun a hE => ?_
                            refine wpList_nil ?_
                            have H := St.del H 0
                            have H := St.del H 0
                            have H := St.del H 0
                            exact ⟨k, Nat.lt_succ_self k, IntKind.i64.wrap (y2438 + 1), hm, hE.sub ⟨rfl, rfl, rfl, rfl, trivial⟩, H⟩
                          · rw [if_neg c2543] at hm
                            refine cT hE rfl (not_t (decide_eq_false c2543)) ?_
                            refine wp_seq ?_
                            refine wp_region_lit ?_
                            refine s1 hE rfl (d_assign hE rfl) fun a hE => ?_
                            refine wpList_nil ?_
                            refine wp_ret ?_
                            cases hm
                            have hm := hq2491
                            simp only [Out.on] at hm
                            cases hm
                            have hm := hq2129
                            simp only [Out.on] at hm
                            cases hm
                            have H := St.del H 0
                            have H := St.del H 0
                            have H := St.del H 0
                            exact ret1 rfl hE rfl ⟨_, rfl, rfl, H⟩
                      · rw [if_neg c2499] at hm
                        refine cF hE rfl (decide_eq_false c2499) ?_
                        refine wp_exit ?_
                        cases hm
                        have H := St.del H 0
                        exact ⟨_, rfl, hE.sub ⟨rfl, rfl, rfl, trivial⟩, H⟩
                  · exact ⟨0, hj2491, hE.sub ⟨rfl, rfl, rfl, rfl, trivial⟩, H⟩
                · rintro a w ⟨s2491, rfl, hE, H⟩
                  have hm := hq2491
                  simp only [Out.on] at hm
                  refine wp_region_lit ?_
                  refine s1 hE rfl (d_move hE rfl) fun a hE => ?_
                  refine s1 hE rfl (d_add hE rfl rfl) fun a hE => ?_
                  refine s1 hE rfl (d_assign hE rfl) fun a hE => ?_
                  refine wpList_nil ?_
                  exact ⟨k, Nat.lt_succ_self k, IntKind.i64.wrap (y1714 + 1), hm, hE.sub ⟨rfl, rfl, rfl, trivial⟩, H⟩
          · rw [if_neg c2131] at hm
            refine cF hE rfl (decide_eq_false c2131) ?_
            refine wp_exit ?_
            cases hm
            exact ⟨_, rfl, hE.sub trivial, H⟩
      · exact ⟨0, hj2129, hE.sub ⟨rfl, rfl, rfl, trivial⟩, H⟩
    · rintro a w ⟨s2129, rfl, hE, H⟩
      have hm := hq2129
      simp only [Out.on] at hm
      refine wp_seq ?_
      refine wp_region_lit ?_
      refine s1 hE rfl (d_assign hE rfl) fun a hE => ?_
      refine wpList_nil ?_
      refine wp_ret ?_
      cases hm
      exact ret1 rfl hE rfl ⟨_, rfl, rfl, H⟩
  · rw [if_neg c1299] at hm
    refine cT hE rfl (not_t (decide_eq_false c1299)) ?_
    refine wp_seq ?_
    refine wp_region_lit ?_
    refine s1 hE rfl (d_assign hE rfl) fun a hE => ?_
    refine wpList_nil ?_
    refine wp_ret ?_
    cases hm
    exact ret1 rfl hE rfl ⟨_, rfl, rfl, H⟩
def m9 (k : Nat) (a0 : List S_api_Arc) (a1 : Int) : Option Bool := if 34 < (a0.length : Int) then (Option.bind (m54 k ) fun x139 => some x139) else (Option.bind (m55 k a0 a1) fun x144 => Option.bind (α := Bool) (Option.bind (m29 k a0) fun x154 => if x154 = true then (if a1 < 1 then (some true) else (some (decide (64 < a1)))) else (some true)) fun s153 => if s153 = true then (Option.bind (α := Bool) (if (x144.length : Int) = 0 then (Option.bind (m54 k ) fun x174 => some x174) else (some false)) fun s172 => some s172) else (Option.bind (m36 k a0) fun x179 => if 7 < (x179.length : Int) then (Option.bind (m54 k ) fun x190 => some x190) else (Option.bind (α := Bool) (Option.bind (m57 k a0 a1) fun x202 => Option.bind (m56 k x144 x202) fun x205 => if x205 = true then (Option.bind (m54 k ) fun x208 => some x208) else (some false)) fun s201 => some s201)))
set_option maxRecDepth 20000 in
set_option maxHeartbeats 4000000 in
theorem f9_ok (k : Nat) {u0 : Value} (a0 : List S_api_Arc) (a1 : Int) {res : Bool} (hm : m9 k a0 a1 = some res) {z w : World} {I : Hp} {r : List Asn} (hr0 : Rd c_api_Arc I r u0 a0) (hz : z.drawn = 0) (H : St z I w (r)) :
    Calls Try.prog 9 #[u0, (.int .i64 a1)] w (Rt fun v w' => v = (.bool res) ∧ St z I w' (r)) := by
  unfold m9 at hm
  refine enter (args := [u0, (.int .i64 a1)]) Try.func9 rfl Try.ntmps9 rfl fun a hE => ?_
  refine wp_seq ?_
  refine wp_region_lit ?_
  refine s1 hE rfl (d_assign hE rfl) fun a hE => ?_
  refine wpList_nil ?_
  refine wp_seq ?_
  refine wp_seq ?_
  refine wp_region_lit ?_
  refine s1 hE rfl (d_move hE rfl) fun a hE => ?_
  refine s1 hE rfl (d_lenS Try.underlying55 hE rfl H hr0) fun a hE => ?_
  refine s1 hE rfl (d_gtr hE rfl rfl) fun a hE => ?_
  refine wpList_nil ?_
  by_cases c136 : 34 < (a0.length : Int)
  · rw [if_pos c136] at hm
    refine cT hE rfl (decide_eq_true c136) ?_
    refine wp_seq ?_
    refine wp_region_lit ?_
    obtain ⟨x139, hc140, hm⟩ := bnd hm
    refine s2 hE rfl (d_call c54 hE rfl (f54_ok k  hc140 hz H)) fun a v w hR hE => ?_
    obtain ⟨hv_, H⟩ := hR
    have hv_ := hv_.symm
    subst hv_
    refine s1 hE rfl (d_assign hE rfl) fun a hE => ?_
    refine wpList_nil ?_
    refine wp_ret ?_
    cases hm
    exact ret1 rfl hE rfl ⟨_, rfl, rfl, H⟩
  · rw [if_neg c136] at hm
    refine cF hE rfl (decide_eq_false c136) ?_
    refine wp_skip ?_
    refine wp_seq ?_
    refine wp_region_lit ?_
    refine s1 hE rfl (d_move hE rfl) fun a hE => ?_
    refine s1 hE rfl (d_move hE rfl) fun a hE => ?_
    obtain ⟨x144, hc145, hm⟩ := bnd hm
    refine s2 hE rfl (d_call c55 hE rfl (f55_ok k a0 a1 hc145 hr0 hz H)) fun a v w hR hE => ?_
    obtain ⟨v146, hv_, H⟩ := hR
    have hv_ := hv_.symm
    subst hv_
    refine s1 hE rfl (d_assign hE rfl) fun a hE => ?_
    refine wpList_nil ?_
    refine wp_seq ?_
    refine wp_seq ?_
    obtain ⟨s153, hj153, hm⟩ := bnd hm
    refine cut2 (fun a w => Env a 43 [(0, u0), (1, (.int .i64 a1)), (5, v146), (23, (.bool s153))] ∧ St z I w (OwnSl c_api_Ways v146 x144 :: r)) ?_ ?_
    · have hm := hj153
      refine wp_region_lit ?_
      refine s1 hE rfl (d_move hE rfl) fun a hE => ?_
      obtain ⟨x154, hc155, hm⟩ := bnd hm
      refine s2 hE rfl (d_call c29 hE rfl (f29_ok k a0 hc155 (Rd.cons hr0) H)) fun a v w hR hE => ?_
      obtain ⟨hv_, H⟩ := hR
      have hv_ := hv_.symm
      subst hv_
      refine s1 hE rfl (d_not hE rfl) fun a hE => ?_
      refine s1 hE rfl (d_move hE rfl) fun a hE => ?_
      by_cases c156 : x154 = true
      · rw [if_pos c156] at hm
        refine gR hE rfl rfl (not_f c156) ?_
        refine s1 hE rfl (d_move hE rfl) fun a hE => ?_
        refine gR hE rfl rfl (not_f c156) ?_
        refine s1 hE rfl (d_lss hE rfl rfl) fun a hE => ?_
        refine s1 hE rfl (d_pF hE rfl (not_f c156) rfl) fun a hE => ?_
        refine s1 hE rfl (d_move hE rfl) fun a hE => ?_
        by_cases c157 : a1 < 1
        · rw [if_pos c157] at hm
          refine gP hE rfl rfl rfl (decide_eq_true c157) fun a hE => ?_
          refine gP hE rfl rfl rfl (decide_eq_true c157) fun a hE => ?_
          refine s1 hE rfl (d_pT hE rfl (decide_eq_true c157) rfl) fun a hE => ?_
          refine wpList_nil ?_
          cases hm
          exact ⟨hE.sub ⟨rfl, rfl, rfl, rfl, trivial⟩, H⟩
        · rw [if_neg c157] at hm
          refine gR hE rfl rfl (decide_eq_false c157) ?_
          refine s1 hE rfl (d_move hE rfl) fun a hE => ?_
          refine gR hE rfl rfl (decide_eq_false c157) ?_
          refine s1 hE rfl (d_gtr hE rfl rfl) fun a hE => ?_
          refine s1 hE rfl (d_pF hE rfl (decide_eq_false c157) rfl) fun a hE => ?_
          refine wpList_nil ?_
          cases hm
          exact ⟨hE.sub ⟨rfl, rfl, rfl, rfl, trivial⟩, H⟩
      · rw [if_neg c156] at hm
        refine gP hE rfl rfl rfl (not_t (b_f c156)) fun a hE => ?_
        refine gP hE rfl rfl rfl (not_t (b_f c156)) fun a hE => ?_
        refine s1 hE rfl (d_pT hE rfl (not_t (b_f c156)) rfl) fun a hE => ?_
        refine s1 hE rfl (d_move hE rfl) fun a hE => ?_
        refine gP hE rfl rfl rfl rfl fun a hE => ?_
        refine gP hE rfl rfl rfl rfl fun a hE => ?_
        refine s1 hE rfl (d_pT hE rfl rfl rfl) fun a hE => ?_
        refine wpList_nil ?_
        cases hm
        exact ⟨hE.sub ⟨rfl, rfl, rfl, rfl, trivial⟩, H⟩
    · rintro a w ⟨hE, H⟩
      by_cases c167 : s153 = true
      · rw [if_pos c167] at hm
        refine cT hE rfl c167 ?_
        refine wp_seq ?_
        obtain ⟨s172, hj172, hm⟩ := bnd hm
        refine cut2 (fun a w => Env a 43 [(4, (.bool s172))] ∧ St z I w (r)) ?_ ?_
        · have hm := hj172
          refine wp_region_lit ?_
          refine s1 hE rfl (d_move hE rfl) fun a hE => ?_
          refine s1 hE rfl (d_lenS Try.underlying87 hE rfl H (Rd.own 0 rfl)) fun a hE => ?_
          refine s1 hE rfl (d_eql hE rfl rfl) fun a hE => ?_
          refine s1 hE rfl (d_move hE rfl) fun a hE => ?_
          by_cases c173 : (x144.length : Int) = 0
          · rw [if_pos c173] at hm
            refine gR hE rfl rfl (decide_eq_true c173) ?_
            obtain ⟨x174, hc175, hm⟩ := bnd hm
            refine s2 hE rfl (d_call c54 hE rfl (f54_ok k  hc175 hz H)) fun a v w hR hE => ?_
            obtain ⟨hv_, H⟩ := hR
            have hv_ := hv_.symm
            subst hv_
            refine s1 hE rfl (d_pT hE rfl (decide_eq_true c173) rfl) fun a hE => ?_
            refine s1 hE rfl (d_assign hE rfl) fun a hE => ?_
            refine wpList_nil ?_
            cases hm
            have H := St.del H 0
            exact ⟨hE.sub ⟨rfl, trivial⟩, H⟩
          · rw [if_neg c173] at hm
            refine gP hE rfl rfl rfl (decide_eq_false c173) fun a hE => ?_
            refine s1 hE rfl (d_pF hE rfl (decide_eq_false c173) rfl) fun a hE => ?_
            refine s1 hE rfl (d_assign hE rfl) fun a hE => ?_
            refine wpList_nil ?_
            cases hm
            have H := St.del H 0
            exact ⟨hE.sub ⟨rfl, trivial⟩, H⟩
        · rintro a w ⟨hE, H⟩
          refine wp_ret ?_
          cases hm
          exact ret1 rfl hE rfl ⟨_, rfl, rfl, H⟩
      · rw [if_neg c167] at hm
        refine cF hE rfl (b_f c167) ?_
        refine wp_skip ?_
        refine wp_seq ?_
        refine wp_seq ?_
        refine wp_region_lit ?_
        refine s1 hE rfl (d_move hE rfl) fun a hE => ?_
        obtain ⟨x179, hc180, hm⟩ := bnd hm
        refine s2 hE rfl (d_call c36 hE rfl (f36_ok k a0 hc180 (Rd.cons hr0) H)) fun a v w hR hE => ?_
        obtain ⟨v181, hv_, H⟩ := hR
        have hv_ := hv_.symm
        subst hv_
        refine s1 hE rfl (d_lenS Try.underlying51 hE rfl H (Rd.own 0 rfl)) fun a hE => ?_
        refine s1 hE rfl (d_gtr hE rfl rfl) fun a hE => ?_
        refine wpList_nil ?_
        by_cases c187 : 7 < (x179.length : Int)
        · rw [if_pos c187] at hm
          refine cT hE rfl (decide_eq_true c187) ?_
          refine wp_seq ?_
          refine wp_region_lit ?_
          obtain ⟨x190, hc191, hm⟩ := bnd hm
          refine s2 hE rfl (d_call c54 hE rfl (f54_ok k  hc191 hz H)) fun a v w hR hE => ?_
          obtain ⟨hv_, H⟩ := hR
          have hv_ := hv_.symm
          subst hv_
          refine s1 hE rfl (d_assign hE rfl) fun a hE => ?_
          refine wpList_nil ?_
          refine wp_ret ?_
          cases hm
          have H := St.del H 0
          have H := St.del H 0
          exact ret1 rfl hE rfl ⟨_, rfl, rfl, H⟩
        · rw [if_neg c187] at hm
          refine cF hE rfl (decide_eq_false c187) ?_
          refine wp_skip ?_
          refine wp_seq ?_
          obtain ⟨s201, hj201, hm⟩ := bnd hm
          refine cut2 (fun a w => Env a 43 [(4, (.bool s201))] ∧ St z I w (r)) ?_ ?_
          · have hm := hj201
            refine wp_region_lit ?_
            refine s1 hE rfl (d_move hE rfl) fun a hE => ?_
            refine s1 hE rfl (d_move hE rfl) fun a hE => ?_
            refine s1 hE rfl (d_move hE rfl) fun a hE => ?_
            obtain ⟨x202, hc203, hm⟩ := bnd hm
            refine s2 hE rfl (d_call c57 hE rfl (f57_ok k a0 a1 hc203 (Rd.cons (Rd.cons hr0)) H)) fun a v w hR hE => ?_
            obtain ⟨v204, hv_, H⟩ := hR
            have hv_ := hv_.symm
            subst hv_
            obtain ⟨x205, hc206, hm⟩ := bnd hm
            refine s2 hE rfl (d_call c56 hE rfl (f56_ok k x144 x202 hc206 (Rd.own 2 rfl) (Rd.own 0 rfl) H)) fun a v w hR hE => ?_
            obtain ⟨hv_, H⟩ := hR
            have hv_ := hv_.symm
            subst hv_
            refine s1 hE rfl (d_move hE rfl) fun a hE => ?_
            by_cases c207 : x205 = true
            · rw [if_pos c207] at hm
              refine gR hE rfl rfl c207 ?_
              obtain ⟨x208, hc209, hm⟩ := bnd hm
              refine s2 hE rfl (d_call c54 hE rfl (f54_ok k  hc209 hz H)) fun a v w hR hE => ?_
              obtain ⟨hv_, H⟩ := hR
              have hv_ := hv_.symm
              subst hv_
              refine s1 hE rfl (d_pT hE rfl c207 rfl) fun a hE => ?_
              refine s1 hE rfl (d_assign hE rfl) fun a hE => ?_
              refine wpList_nil ?_
              cases hm
              have H := St.del H 0
              have H := St.del H 0
              have H := St.del H 0
              exact ⟨hE.sub ⟨rfl, trivial⟩, H⟩
            · rw [if_neg c207] at hm
              refine gP hE rfl rfl rfl (b_f c207) fun a hE => ?_
              refine s1 hE rfl (d_pF hE rfl (b_f c207) rfl) fun a hE => ?_
              refine s1 hE rfl (d_assign hE rfl) fun a hE => ?_
              refine wpList_nil ?_
              cases hm
              have H := St.del H 0
              have H := St.del H 0
              have H := St.del H 0
              exact ⟨hE.sub ⟨rfl, trivial⟩, H⟩
          · rintro a w ⟨hE, H⟩
            refine wp_ret ?_
            cases hm
            exact ret1 rfl hE rfl ⟨_, rfl, rfl, H⟩
end Go.Proofs.Ytbielnhpfbhkgaa
