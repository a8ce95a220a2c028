/- Functions and what their calls do, by program (gen.py). -/
import Derived.Test.YtbielnhpfbhkgaaB0
set_option linter.unusedVariables false
set_option linter.unusedSimpArgs false
namespace Go.Proofs.Ytbielnhpfbhkgaa
open Go Go.RowKit
def m89 (a0 : Int) (a1 : Int) : Option Int := Option.bind (m146 ) fun x68 => if (IntKind.u64.wrap (x68 - a1)) < a0 then (Option.bind (m146 ) fun x78 => some x78) else (some (IntKind.u64.wrap (a0 + a1)))
set_option maxRecDepth 20000 in
set_option maxHeartbeats 4000000 in
theorem f89_ok (a0 : Int) (a1 : Int) {res : Int} (hm : m89 a0 a1 = some res) {z w : World} {I : Hp} {r : List Asn}  (H : St z I w (r)) :
    Calls Try.prog 89 #[(.int .u64 a0), (.int .u64 a1)] w (Rt fun v w' => v = (.int .u64 res) ∧ St z I w' (r)) := by
  unfold m89 at hm
  refine enter (args := [(.int .u64 a0), (.int .u64 a1)]) Try.func89 rfl Try.ntmps89 rfl fun a hE => ?_
  refine wp_seq ?_
  refine wp_region_lit ?_
  refine s1 hE rfl (d_assign hE rfl) fun a hE => ?_
  refine wpList_nil ?_
  refine wp_seq ?_
  refine wp_seq ?_
  refine wp_region_lit ?_
  refine s1 hE rfl (d_move hE rfl) fun a hE => ?_
  obtain ⟨x68, hc69, hm⟩ := bnd hm
  refine s2 hE rfl (d_call c146 hE rfl (f146_ok  hc69  H)) fun a v w hR hE => ?_
  obtain ⟨hv_, H⟩ := hR
  have hv_ := hv_.symm
  subst hv_
  refine s1 hE rfl (d_move hE rfl) fun a hE => ?_
  refine s1 hE rfl (d_sub hE rfl rfl) fun a hE => ?_
  refine s1 hE rfl (d_gtr hE rfl rfl) fun a hE => ?_
  refine wpList_nil ?_
  by_cases c75 : (IntKind.u64.wrap (x68 - a1)) < a0
  · rw [if_pos c75] at hm
    refine cT hE rfl (decide_eq_true c75) ?_
    refine wp_seq ?_
    refine wp_region_lit ?_
    obtain ⟨x78, hc79, hm⟩ := bnd hm
    refine s2 hE rfl (d_call c146 hE rfl (f146_ok  hc79  H)) fun a v w hR hE => ?_
    obtain ⟨hv_, H⟩ := hR
    have hv_ := hv_.symm
    subst hv_
    refine s1 hE rfl (d_assign hE rfl) fun a hE => ?_
    refine wpList_nil ?_
    refine wp_ret ?_
    cases hm
    exact ret1 rfl hE rfl ⟨_, rfl, rfl, H⟩
  · rw [if_neg c75] at hm
    refine cF hE rfl (decide_eq_false c75) ?_
    refine wp_skip ?_
    refine wp_seq ?_
    refine wp_region_lit ?_
    refine s1 hE rfl (d_move hE rfl) fun a hE => ?_
    refine s1 hE rfl (d_move hE rfl) fun a hE => ?_
    refine s1 hE rfl (d_add hE rfl rfl) fun a hE => ?_
    refine s1 hE rfl (d_assign hE rfl) fun a hE => ?_
    refine wpList_nil ?_
    refine wp_ret ?_
    cases hm
    exact ret1 rfl hE rfl ⟨_, rfl, rfl, H⟩
def m39 (a0 : Int) (a1 : Int) : Option Int := if 4294967296 ≤ (IntKind.u64.wrap ((IntKind.u64.wrap ((IntKind.u64.wrap (Int.tdiv a0 4294967296)) + (IntKind.u64.wrap (Int.tdiv a1 4294967296)))) + (IntKind.u64.wrap (Int.tdiv (IntKind.u64.wrap ((Int.tmod a0 4294967296) + (Int.tmod a1 4294967296))) 4294967296)))) then (some 18446744073709551615) else (some (IntKind.u64.wrap ((IntKind.u64.wrap ((IntKind.u64.wrap ((IntKind.u64.wrap ((IntKind.u64.wrap (Int.tdiv a0 4294967296)) + (IntKind.u64.wrap (Int.tdiv a1 4294967296)))) + (IntKind.u64.wrap (Int.tdiv (IntKind.u64.wrap ((Int.tmod a0 4294967296) + (Int.tmod a1 4294967296))) 4294967296)))) * 4294967296)) + (Int.tmod (IntKind.u64.wrap ((Int.tmod a0 4294967296) + (Int.tmod a1 4294967296))) 4294967296))))
set_option maxRecDepth 20000 in
set_option maxHeartbeats 4000000 in
theorem f39_ok (a0 : Int) (a1 : Int) {res : Int} (hm : m39 a0 a1 = some res) {z w : World} {I : Hp} {r : List Asn}  (H : St z I w (r)) :
    Calls Try.prog 39 #[(.int .u64 a0), (.int .u64 a1)] w (Rt fun v w' => v = (.int .u64 res) ∧ St z I w' (r)) := by
  unfold m39 at hm
  refine enter (args := [(.int .u64 a0), (.int .u64 a1)]) Try.func39 rfl Try.ntmps39 rfl fun a hE => ?_
  refine wp_seq ?_
  refine wp_region_lit ?_
  refine s1 hE rfl (d_assign hE rfl) fun a hE => ?_
  refine wpList_nil ?_
  refine wp_seq ?_
  refine wp_region_lit ?_
  refine s1 hE rfl (d_move hE rfl) fun a hE => ?_
  refine s1 hE rfl (d_rem hE rfl rfl (by decide)) fun a hE => ?_
  refine s1 hE rfl (d_move hE rfl) fun a hE => ?_
  refine s1 hE rfl (d_rem hE rfl rfl (by decide)) fun a hE => ?_
  refine s1 hE rfl (d_add hE rfl rfl) fun a hE => ?_
  refine s1 hE rfl (d_assign hE rfl) fun a hE => ?_
  refine wpList_nil ?_
  refine wp_seq ?_
  refine wp_region_lit ?_
  refine s1 hE rfl (d_move hE rfl) fun a hE => ?_
  refine s1 hE rfl (d_quo hE rfl rfl (by decide)) fun a hE => ?_
  refine s1 hE rfl (d_move hE rfl) fun a hE => ?_
  refine s1 hE rfl (d_quo hE rfl rfl (by decide)) fun a hE => ?_
  refine s1 hE rfl (d_add hE rfl rfl) fun a hE => ?_
  refine s1 hE rfl (d_move hE rfl) fun a hE => ?_
  refine s1 hE rfl (d_quo hE rfl rfl (by decide)) fun a hE => ?_
  refine s1 hE rfl (d_add hE rfl rfl) fun a hE => ?_
  refine s1 hE rfl (d_assign hE rfl) fun a hE => ?_
  refine wpList_nil ?_
  refine wp_seq ?_
  refine wp_seq ?_
  refine wp_region_lit ?_
  refine s1 hE rfl (d_move hE rfl) fun a hE => ?_
  refine s1 hE rfl (d_geq hE rfl rfl) fun a hE => ?_
  refine wpList_nil ?_
  by_cases c55 : 4294967296 ≤ (IntKind.u64.wrap ((IntKind.u64.wrap ((IntKind.u64.wrap (Int.tdiv a0 4294967296)) + (IntKind.u64.wrap (Int.tdiv a1 4294967296)))) + (IntKind.u64.wrap (Int.tdiv (IntKind.u64.wrap ((Int.tmod a0 4294967296) + (Int.tmod a1 4294967296))) 4294967296))))
  · rw [if_pos c55] at hm
    refine cT hE rfl (decide_eq_true c55) ?_
    refine wp_seq ?_
    refine wp_region_lit ?_
    refine s1 hE rfl (d_assign hE rfl) fun a hE => ?_
    refine wpList_nil ?_
    refine wp_ret ?_
    cases hm
    exact ret1 rfl hE rfl ⟨_, rfl, rfl, H⟩
  · rw [if_neg c55] at hm
    refine cF hE rfl (decide_eq_false c55) ?_
    refine wp_skip ?_
    refine wp_seq ?_
    refine wp_region_lit ?_
    refine s1 hE rfl (d_move hE rfl) fun a hE => ?_
    refine s1 hE rfl (d_mul hE rfl rfl) fun a hE => ?_
    refine s1 hE rfl (d_move hE rfl) fun a hE => ?_
    refine s1 hE rfl (d_rem hE rfl rfl (by decide)) fun a hE => ?_
    refine s1 hE rfl (d_add hE rfl rfl) fun a hE => ?_
    refine s1 hE rfl (d_assign hE rfl) fun a hE => ?_
    refine wpList_nil ?_
    refine wp_ret ?_
    cases hm
    exact ret1 rfl hE rfl ⟨_, rfl, rfl, H⟩
end Go.Proofs.Ytbielnhpfbhkgaa
