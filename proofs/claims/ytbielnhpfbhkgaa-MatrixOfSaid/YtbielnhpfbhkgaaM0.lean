/- Functions and what their calls do, by program (gen.py). -/
import Derived.Test.YtbielnhpfbhkgaaR0
set_option linter.unusedVariables false
set_option linter.unusedSimpArgs false
namespace Go.Proofs.Ytbielnhpfbhkgaa
open Go Go.RowKit

theorem cv259_61 (x : Int) : ∀ w : World, (convert 259 61 (.int .u32 x)).run Try.prog w = .ok (.int .u64 (IntKind.u64.wrap x)) w := fun w => by kernel_rfl
theorem cv61_259 (x : Int) : ∀ w : World, (convert 61 259 (.int .u64 x)).run Try.prog w = .ok (.int .u32 (IntKind.u32.wrap x)) w := fun w => by kernel_rfl
theorem c225 : Callable Try.prog 225 := ⟨Try.f225, Try.func225, by kernel_rfl, by kernel_rfl⟩
theorem cv3_220 (x : Int) : ∀ w : World, (convert 3 220 (.int .i64 x)).run Try.prog w = .ok (.int .u64 (IntKind.u64.wrap x)) w := fun w => by kernel_rfl
theorem c184 : Callable Try.prog 184 := ⟨Try.f184, Try.func184, by kernel_rfl, by kernel_rfl⟩
theorem cv220_3 (x : Int) : ∀ w : World, (convert 220 3 (.int .u64 x)).run Try.prog w = .ok (.int .i64 (IntKind.i64.wrap x)) w := fun w => by kernel_rfl
theorem ez70 : EltZ Try.prog 70 61 [(.int .u64 0)] 8 := ⟨Try.underlying70, by kernel_rfl⟩
theorem sl70 : Slc Try.prog 70 61 1 := ⟨Try.underlying70, fun w => by kernel_rfl⟩
theorem c147 : Callable Try.prog 147 := ⟨Try.f147, Try.func147, by kernel_rfl, by kernel_rfl⟩
theorem c148 : Callable Try.prog 148 := ⟨Try.f148, Try.func148, by kernel_rfl, by kernel_rfl⟩
theorem ez65 : EltZ Try.prog 65 70 [nilS] 24 := ⟨Try.underlying65, by kernel_rfl⟩
theorem lit70_1 (x0 : Int)  : ∀ w : World, (Instr.buildSlice 70 1 (List.toArray [(0, (.int .u64 x0))])).run Try.prog w = .ok (.slice (some (ad w.heap.size 0)) 1 1) (w.alloc (.cells (List.toArray [(.int .u64 x0)]) 61)) := fun w => by kernel_rfl
theorem c145 : Callable Try.prog 145 := ⟨Try.f145, Try.func145, by kernel_rfl, by kernel_rfl⟩
theorem sl65 : Slc Try.prog 65 70 1 := ⟨Try.underlying65, fun w => by kernel_rfl⟩
theorem sz70 : ∀ w : World, (sizeOf 70).run Try.prog w = .ok 1 w := fun w => by kernel_rfl
theorem sc70 : Scal Try.prog 70 := fun w => ⟨by kernel_rfl, by kernel_rfl⟩
theorem c86 : Callable Try.prog 86 := ⟨Try.f86, Try.func86, by kernel_rfl, by kernel_rfl⟩
theorem c87 : Callable Try.prog 87 := ⟨Try.f87, Try.func87, by kernel_rfl, by kernel_rfl⟩
theorem c88 : Callable Try.prog 88 := ⟨Try.f88, Try.func88, by kernel_rfl, by kernel_rfl⟩
theorem c35 : Callable Try.prog 35 := ⟨Try.f35, Try.func35, by kernel_rfl, by kernel_rfl⟩
theorem c144 : Callable Try.prog 144 := ⟨Try.f144, Try.func144, by kernel_rfl, by kernel_rfl⟩
theorem c84 : Callable Try.prog 84 := ⟨Try.f84, Try.func84, by kernel_rfl, by kernel_rfl⟩
theorem c83 : Callable Try.prog 83 := ⟨Try.f83, Try.func83, by kernel_rfl, by kernel_rfl⟩
theorem c85 : Callable Try.prog 85 := ⟨Try.f85, Try.func85, by kernel_rfl, by kernel_rfl⟩
theorem c90 : Callable Try.prog 90 := ⟨Try.f90, Try.func90, by kernel_rfl, by kernel_rfl⟩
theorem c34 : Callable Try.prog 34 := ⟨Try.f34, Try.func34, by kernel_rfl, by kernel_rfl⟩
theorem c29 : Callable Try.prog 29 := ⟨Try.f29, Try.func29, by kernel_rfl, by kernel_rfl⟩
theorem c36 : Callable Try.prog 36 := ⟨Try.f36, Try.func36, by kernel_rfl, by kernel_rfl⟩
theorem c37 : Callable Try.prog 37 := ⟨Try.f37, Try.func37, by kernel_rfl, by kernel_rfl⟩
theorem c38 : Callable Try.prog 38 := ⟨Try.f38, Try.func38, by kernel_rfl, by kernel_rfl⟩
def m224 (a0 : Int) (a1 : Int) : Option (Int × Int) := some (IntKind.u32.wrap ((IntKind.u64.wrap ((IntKind.u64.wrap a0) * (IntKind.u64.wrap a1))) / 2 ^ 32), IntKind.u32.wrap (IntKind.u64.wrap ((IntKind.u64.wrap a0) * (IntKind.u64.wrap a1))))
set_option maxRecDepth 20000 in
set_option maxHeartbeats 4000000 in
theorem f224_ok (a0 : Int) (a1 : Int) {res : Int × Int} (hm : m224 a0 a1 = some res) {z w : World} {I : Hp} {r : List Asn}  (H : St z I w (r)) :
    Calls Try.prog 224 #[(.int .u32 a0), (.int .u32 a1)] w (Rt fun v w' => v = (.tuple #[(.int .u32 res.1), (.int .u32 res.2)]) ∧ St z I w' (r)) := by
  unfold m224 at hm
  refine enter (args := [(.int .u32 a0), (.int .u32 a1)]) Try.func224 rfl Try.ntmps224 rfl fun a hE => ?_
  refine wp_seq ?_
  refine wp_region_lit ?_
  refine s1 hE rfl (d_assign hE rfl) fun a hE => ?_
  refine s1 hE rfl (d_assign hE rfl) fun a hE => ?_
  refine wpList_nil ?_
  refine wp_seq ?_
  refine wp_region_lit ?_
  refine s1 hE rfl (d_move hE rfl) fun a hE => ?_
  refine s1 hE rfl (d_convert hE rfl (cv259_61 _)) fun a hE => ?_
  refine s1 hE rfl (d_move hE rfl) fun a hE => ?_
  refine s1 hE rfl (d_convert hE rfl (cv259_61 _)) fun a hE => ?_
  refine s1 hE rfl (d_mul hE rfl rfl) fun a hE => ?_
  refine s1 hE rfl (d_assign hE rfl) fun a hE => ?_
  refine wpList_nil ?_
  refine wp_seq ?_
  refine wp_region_lit ?_
  refine s1 hE rfl (d_move hE rfl) fun a hE => ?_
  refine s1 hE rfl (d_shr (n := 32) hE rfl rfl (by decide) (by decide)) fun a hE => ?_
  refine s1 hE rfl (d_convert hE rfl (cv61_259 _)) fun a hE => ?_
  refine s1 hE rfl (d_move hE rfl) fun a hE => ?_
  refine s1 hE rfl (d_convert hE rfl (cv61_259 _)) fun a hE => ?_
  refine s1 hE rfl (d_assign hE rfl) fun a hE => ?_
  refine s1 hE rfl (d_assign hE rfl) fun a hE => ?_
  refine wpList_nil ?_
  refine wp_ret ?_
  cases hm
  exact ret2 rfl hE rfl rfl ⟨_, rfl, rfl, H⟩
def m225 (a0 : Int) (a1 : Int) : Option (Int × Int) := some (IntKind.u64.wrap ((IntKind.u64.wrap ((IntKind.u64.wrap ((a0 / 2 ^ 32) * (a1 / 2 ^ 32))) + ((IntKind.u64.wrap ((IntKind.u64.wrap ((a0 / 2 ^ 32) * (andI .u64 a1 4294967295))) + ((IntKind.u64.wrap ((andI .u64 a0 4294967295) * (andI .u64 a1 4294967295))) / 2 ^ 32))) / 2 ^ 32))) + ((IntKind.u64.wrap ((andI .u64 (IntKind.u64.wrap ((IntKind.u64.wrap ((a0 / 2 ^ 32) * (andI .u64 a1 4294967295))) + ((IntKind.u64.wrap ((andI .u64 a0 4294967295) * (andI .u64 a1 4294967295))) / 2 ^ 32))) 4294967295) + (IntKind.u64.wrap ((andI .u64 a0 4294967295) * (a1 / 2 ^ 32))))) / 2 ^ 32)), IntKind.u64.wrap (a0 * a1))
set_option maxRecDepth 20000 in
set_option maxHeartbeats 4000000 in
theorem f225_ok (a0 : Int) (a1 : Int) {res : Int × Int} (hm : m225 a0 a1 = some res) {z w : World} {I : Hp} {r : List Asn}  (H : St z I w (r)) :
    Calls Try.prog 225 #[(.int .u64 a0), (.int .u64 a1)] w (Rt fun v w' => v = (.tuple #[(.int .u64 res.1), (.int .u64 res.2)]) ∧ St z I w' (r)) := by
  unfold m225 at hm
  refine enter (args := [(.int .u64 a0), (.int .u64 a1)]) Try.func225 rfl Try.ntmps225 rfl fun a hE => ?_
  refine wp_seq ?_
  refine wp_region_lit ?_
  refine s1 hE rfl (d_assign hE rfl) fun a hE => ?_
  refine s1 hE rfl (d_assign hE rfl) fun a hE => ?_
  refine wpList_nil ?_
  refine wp_seq ?_
  refine wp_region_lit ?_
  refine s1 hE rfl (d_move hE rfl) fun a hE => ?_
  refine s1 hE rfl (d_and hE rfl rfl) fun a hE => ?_
  refine s1 hE rfl (d_assign hE rfl) fun a hE => ?_
  refine wpList_nil ?_
  refine wp_seq ?_
  refine wp_region_lit ?_
  refine s1 hE rfl (d_move hE rfl) fun a hE => ?_
  refine s1 hE rfl (d_shr (n := 32) hE rfl rfl (by decide) (by decide)) fun a hE => ?_
  refine s1 hE rfl (d_assign hE rfl) fun a hE => ?_
  refine wpList_nil ?_
  refine wp_seq ?_
  refine wp_region_lit ?_
  refine s1 hE rfl (d_move hE rfl) fun a hE => ?_
  refine s1 hE rfl (d_and hE rfl rfl) fun a hE => ?_
  refine s1 hE rfl (d_assign hE rfl) fun a hE => ?_
  refine wpList_nil ?_
  refine wp_seq ?_
  refine wp_region_lit ?_
  refine s1 hE rfl (d_move hE rfl) fun a hE => ?_
  refine s1 hE rfl (d_shr (n := 32) hE rfl rfl (by decide) (by decide)) fun a hE => ?_
  refine s1 hE rfl (d_assign hE rfl) fun a hE => ?_
  refine wpList_nil ?_
  refine wp_seq ?_
  refine wp_region_lit ?_
  refine s1 hE rfl (d_move hE rfl) fun a hE => ?_
  refine s1 hE rfl (d_move hE rfl) fun a hE => ?_
  refine s1 hE rfl (d_mul hE rfl rfl) fun a hE => ?_
  refine s1 hE rfl (d_assign hE rfl) fun a hE => ?_
  refine wpList_nil ?_
  refine wp_seq ?_
  refine wp_region_lit ?_
  refine s1 hE rfl (d_move hE rfl) fun a hE => ?_
  refine s1 hE rfl (d_move hE rfl) fun a hE => ?_
  refine s1 hE rfl (d_mul hE rfl rfl) fun a hE => ?_
  refine s1 hE rfl (d_move hE rfl) fun a hE => ?_
  refine s1 hE rfl (d_shr (n := 32) hE rfl rfl (by decide) (by decide)) fun a hE => ?_
  refine s1 hE rfl (d_add hE rfl rfl) fun a hE => ?_
  refine s1 hE rfl (d_assign hE rfl) fun a hE => ?_
  refine wpList_nil ?_
  refine wp_seq ?_
  refine wp_region_lit ?_
  refine s1 hE rfl (d_move hE rfl) fun a hE => ?_
  refine s1 hE rfl (d_and hE rfl rfl) fun a hE => ?_
  refine s1 hE rfl (d_assign hE rfl) fun a hE => ?_
  refine wpList_nil ?_
  refine wp_seq ?_
  refine wp_region_lit ?_
  refine s1 hE rfl (d_move hE rfl) fun a hE => ?_
  refine s1 hE rfl (d_shr (n := 32) hE rfl rfl (by decide) (by decide)) fun a hE => ?_
  refine s1 hE rfl (d_assign hE rfl) fun a hE => ?_
  refine wpList_nil ?_
  refine wp_seq ?_
  refine wp_region_lit ?_
  refine s1 hE rfl (d_move hE rfl) fun a hE => ?_
  refine s1 hE rfl (d_move hE rfl) fun a hE => ?_
  refine s1 hE rfl (d_move hE rfl) fun a hE => ?_
  refine s1 hE rfl (d_mul hE rfl rfl) fun a hE => ?_
  refine s1 hE rfl (d_add hE rfl rfl) fun a hE => ?_
  refine s1 hE rfl (d_assign hE rfl) fun a hE => ?_
  refine wpList_nil ?_
  refine wp_seq ?_
  refine wp_region_lit ?_
  refine s1 hE rfl (d_move hE rfl) fun a hE => ?_
  refine s1 hE rfl (d_move hE rfl) fun a hE => ?_
  refine s1 hE rfl (d_mul hE rfl rfl) fun a hE => ?_
  refine s1 hE rfl (d_move hE rfl) fun a hE => ?_
  refine s1 hE rfl (d_add hE rfl rfl) fun a hE => ?_
  refine s1 hE rfl (d_move hE rfl) fun a hE => ?_
  refine s1 hE rfl (d_shr (n := 32) hE rfl rfl (by decide) (by decide)) fun a hE => ?_
  refine s1 hE rfl (d_add hE rfl rfl) fun a hE => ?_
  refine s1 hE rfl (d_assign hE rfl) fun a hE => ?_
  refine wpList_nil ?_
  refine wp_seq ?_
  refine wp_region_lit ?_
  refine s1 hE rfl (d_move hE rfl) fun a hE => ?_
  refine s1 hE rfl (d_move hE rfl) fun a hE => ?_
  refine s1 hE rfl (d_mul hE rfl rfl) fun a hE => ?_
  refine s1 hE rfl (d_assign hE rfl) fun a hE => ?_
  refine wpList_nil ?_
  refine wp_ret ?_
  cases hm
  exact ret2 rfl hE rfl rfl ⟨_, rfl, rfl, H⟩
def m184 (a0 : Int) (a1 : Int) : Option (Int × Int) := Option.bind (m225 a0 a1) fun x59 => some (x59.1, x59.2)
set_option maxRecDepth 20000 in
set_option maxHeartbeats 4000000 in
theorem f184_ok (a0 : Int) (a1 : Int) {res : Int × Int} (hm : m184 a0 a1 = some res) {z w : World} {I : Hp} {r : List Asn}  (H : St z I w (r)) :
    Calls Try.prog 184 #[(.int .u64 a0), (.int .u64 a1)] w (Rt fun v w' => v = (.tuple #[(.int .u64 res.1), (.int .u64 res.2)]) ∧ St z I w' (r)) := by
  unfold m184 at hm
  refine enter (args := [(.int .u64 a0), (.int .u64 a1)]) Try.func184 rfl Try.ntmps184 rfl fun a hE => ?_
  refine wp_seq ?_
  refine wp_region_lit ?_
  refine s1 hE rfl (d_assign hE rfl) fun a hE => ?_
  refine s1 hE rfl (d_assign hE rfl) fun a hE => ?_
  refine wpList_nil ?_
  refine wp_seq ?_
  refine cF hE rfl rfl ?_
  refine wp_skip ?_
  refine wp_seq ?_
  refine wp_region_lit ?_
  refine s1 hE rfl (d_move hE rfl) fun a hE => ?_
  refine s1 hE rfl (d_move hE rfl) fun a hE => ?_
  obtain ⟨x59, hc60, hm⟩ := bnd hm
  refine s2 hE rfl (d_call c225 hE rfl (f225_ok a0 a1 hc60  H)) fun a v w hR hE => ?_
  obtain ⟨hv_, H⟩ := hR
  have hv_ := hv_.symm
  subst hv_
  refine s1 hE rfl (d_move hE rfl) fun a hE => ?_
  refine s1 hE rfl (d_extract hE rfl rfl) fun a hE => ?_
  refine s1 hE rfl (d_extract hE rfl rfl) fun a hE => ?_
  refine s1 hE rfl (d_assign hE rfl) fun a hE => ?_
  refine s1 hE rfl (d_assign hE rfl) fun a hE => ?_
  refine wpList_nil ?_
  refine wp_seq ?_
  refine wp_region_lit ?_
  refine s1 hE rfl (d_move hE rfl) fun a hE => ?_
  refine s1 hE rfl (d_move hE rfl) fun a hE => ?_
  refine s1 hE rfl (d_assign hE rfl) fun a hE => ?_
  refine s1 hE rfl (d_assign hE rfl) fun a hE => ?_
  refine wpList_nil ?_
  refine wp_ret ?_
  cases hm
  exact ret2 rfl hE rfl rfl ⟨_, rfl, rfl, H⟩
def m145_l0  : Nat → (List Int) → Int → Option (List Int)
  | 0, _, _ => none
  | k + 1, l205, y206 => if y206 < (l205.length : Int) then (Option.bind (cutx l205 y206 (l205.length : Int)) fun l255 => Option.bind (cutx l205 0 y206) fun l257 => Option.bind (some (copyx l205 y206 (l205.length : Int) l257)) fun l259 => m145_l0 k l259 (IntKind.i64.wrap (y206 + ((min l257.length l255.length : Nat) : Int)))) else (some l205)
def m145 (k : Nat) (a0 : List Int) (a1 : Int) : Option (List Int) := if a1 < 0 then (none) else (Option.bind (m184 (IntKind.u64.wrap (a0.length : Int)) (IntKind.u64.wrap a1)) fun x161 => Option.bind (α := Bool) (if 0 < x161.1 then (some true) else (some (decide (9223372036854775807 < x161.2)))) fun s165 => if s165 = true then (none) else (Option.bind (mkl 35184372088832 (IntKind.i64.wrap x161.2) 0) fun l172 => Option.bind (some (copyx l172 0 (l172.length : Int) a0)) fun l177 => Option.bind (m145_l0  k l177 ((min a0.length l172.length : Nat) : Int)) fun s234 => some s234))
set_option maxRecDepth 20000 in
set_option maxHeartbeats 4000000 in
theorem f145_ok (k : Nat) {u0 : Value} (a0 : List Int) (a1 : Int) {res : (List Int)} (hm : m145 k a0 a1 = some res) {z w : World} {I : Hp} {r : List Asn} (hr0 : Rd (cInt .u64) I r u0 a0) (H : St z I w (r)) :
    Calls Try.prog 145 #[u0, (.int .i64 a1)] w (Rt fun v w' => ∃ v155 : Value, v = v155 ∧ St z I w' (OwnSl (cInt .u64) v155 res :: r)) := by
  unfold m145 at hm
  refine enter (args := [u0, (.int .i64 a1)]) Try.func145 rfl Try.ntmps145 rfl fun a hE => ?_
  refine wp_seq ?_
  refine wp_region_lit ?_
  refine s1 hE rfl (d_assign hE rfl) fun a hE => ?_
  refine wpList_nil ?_
  refine wp_seq ?_
  refine wp_seq ?_
  refine wp_region_lit ?_
  refine s1 hE rfl (d_move hE rfl) fun a hE => ?_
  refine s1 hE rfl (d_lss hE rfl rfl) fun a hE => ?_
  refine wpList_nil ?_
  by_cases c158 : a1 < 0
  · rw [if_pos c158] at hm
    refine cT hE rfl (decide_eq_true c158) ?_
    refine wp_region_lit ?_
    cases hm
  · rw [if_neg c158] at hm
    refine cF hE rfl (decide_eq_false c158) ?_
    refine wp_skip ?_
    refine wp_seq ?_
    refine wp_region_lit ?_
    refine s1 hE rfl (d_move hE rfl) fun a hE => ?_
    refine s1 hE rfl (d_lenS Try.underlying70 hE rfl H hr0) fun a hE => ?_
    refine s1 hE rfl (d_convert hE rfl (cv3_220 _)) fun a hE => ?_
    refine s1 hE rfl (d_move hE rfl) fun a hE => ?_
    refine s1 hE rfl (d_convert hE rfl (cv3_220 _)) fun a hE => ?_
    obtain ⟨x161, hc162, hm⟩ := bnd hm
    refine s2 hE rfl (d_call c184 hE rfl (f184_ok (IntKind.u64.wrap (a0.length : Int)) (IntKind.u64.wrap a1) hc162  H)) fun a v w hR hE => ?_
    obtain ⟨hv_, H⟩ := hR
    have hv_ := hv_.symm
    subst hv_
    refine s1 hE rfl (d_move hE rfl) fun a hE => ?_
    refine s1 hE rfl (d_extract hE rfl rfl) fun a hE => ?_
    refine s1 hE rfl (d_extract hE rfl rfl) fun a hE => ?_
    refine s1 hE rfl (d_assign hE rfl) fun a hE => ?_
    refine s1 hE rfl (d_assign hE rfl) fun a hE => ?_
    refine wpList_nil ?_
    refine wp_seq ?_
    refine wp_seq ?_
    obtain ⟨s165, hj165, hm⟩ := bnd hm
    refine cut2 (fun a w => Env a 48 [(0, u0), (6, (.int .u64 x161.2)), (26, (.bool s165))] ∧ St z I w (r)) ?_ ?_
    · have hm := hj165
      refine wp_region_lit ?_
      refine s1 hE rfl (d_move hE rfl) fun a hE => ?_
      refine s1 hE rfl (d_gtr hE rfl rfl) fun a hE => ?_
      refine s1 hE rfl (d_move hE rfl) fun a hE => ?_
      by_cases c166 : 0 < x161.1
      · rw [if_pos c166] at hm
        refine gP hE rfl rfl rfl (decide_eq_true c166) fun a hE => ?_
        refine gP hE rfl rfl rfl (decide_eq_true c166) fun a hE => ?_
        refine s1 hE rfl (d_pT hE rfl (decide_eq_true c166) rfl) fun a hE => ?_
        refine wpList_nil ?_
        cases hm
        exact ⟨hE.sub ⟨rfl, rfl, rfl, trivial⟩, H⟩
      · rw [if_neg c166] at hm
        refine gR hE rfl rfl (decide_eq_false c166) ?_
        refine s1 hE rfl (d_move hE rfl) fun a hE => ?_
        refine gR hE rfl rfl (decide_eq_false c166) ?_
        refine s1 hE rfl (d_gtr hE rfl rfl) fun a hE => ?_
        refine s1 hE rfl (d_pF hE rfl (decide_eq_false c166) rfl) fun a hE => ?_
        refine wpList_nil ?_
        cases hm
        exact ⟨hE.sub ⟨rfl, rfl, rfl, trivial⟩, H⟩
    · rintro a w ⟨hE, H⟩
      by_cases c168 : s165 = true
      · rw [if_pos c168] at hm
        refine cT hE rfl c168 ?_
        refine wp_region_lit ?_
        cases hm
      · rw [if_neg c168] at hm
        refine cF hE rfl (b_f c168) ?_
        refine wp_skip ?_
        refine wp_seq ?_
        refine wp_region_lit ?_
        refine s1 hE rfl (d_move hE rfl) fun a hE => ?_
        refine s1 hE rfl (d_convert hE rfl (cv220_3 _)) fun a hE => ?_
        obtain ⟨l172, hl173, hm⟩ := bnd hm
        refine s2 hE rfl (d_make (c := (cInt .u64)) (x0 := 0) (lim := 35184372088832) ez70 rfl (by decide) (by decide) (by decide) hE rfl rfl hl173 H) fun a v w hR hE => ?_
        obtain ⟨v174, rfl⟩ : ∃ x, x = v := ⟨v, rfl⟩
        have H : St z I w (OwnSl (cInt .u64) v174 l172 :: r) := hR
        refine s1 hE rfl (d_assign hE rfl) fun a hE => ?_
        refine wpList_nil ?_
        refine wp_seq ?_
        refine wp_region_lit ?_
        refine s1 hE rfl (d_move hE rfl) fun a hE => ?_
        refine s1 hE rfl (d_move hE rfl) fun a hE => ?_
        obtain ⟨l177, hl178, hm⟩ := bnd hm
        refine s2 hE rfl (d_copyO sl70 hE rfl rfl hl178 H (Rd.cons hr0)) fun a v w hR hE => ?_
        obtain ⟨rfl, H⟩ := hR
        have H : St z I w (OwnSl (cInt .u64) v174 l177 :: r) := H
        refine s1 hE rfl (d_assign hE rfl) fun a hE => ?_
        refine wpList_nil ?_
        refine wp_seq ?_
        obtain ⟨s234, hj234, hm⟩ := bnd hm
        refine cut2 (fun a w => Env a 48 [(7, v174)] ∧ St z I w (OwnSl (cInt .u64) v174 s234 :: r)) ?_ ?_
        · refine wp_block ?_
          refine loopI (fun k a w => ∃ l205 : List Int, ∃ y206 : Int, m145_l0  k l205 y206 = some s234 ∧ Env a 48 [(7, v174), (8, (.int .i64 y206))] ∧ St z I w (OwnSl (cInt .u64) v174 l205 :: r)) ?_ k _ _ ?_
          · rintro k a w ⟨l205, y206, hm, hE, H⟩
            cases k with
            | zero => rw [m145_l0] at hm; cases hm
            | succ k =>
              rw [m145_l0] at hm
              refine wp_seq ?_
              refine wp_seq ?_
              refine wp_region_lit ?_
              refine s1 hE rfl (d_move hE rfl) fun a hE => ?_
              refine s1 hE rfl (d_move hE rfl) fun a hE => ?_
              refine s1 hE rfl (d_lenS Try.underlying70 hE rfl H (Rd.own 0 rfl)) fun a hE => ?_
              refine s1 hE rfl (d_lss hE rfl rfl) fun a hE => ?_
              refine wpList_nil ?_
              by_cases c236 : y206 < (l205.length : Int)
              · rw [if_pos c236] at hm
                refine cT hE rfl (decide_eq_true c236) ?_
                refine wp_skip ?_
                refine wp_block ?_
                obtain ⟨l255, hl256, hm⟩ := bnd hm
                obtain ⟨l257, hl258, hm⟩ := bnd hm
                obtain ⟨l259, hl260, hm⟩ := bnd hm
                refine Dr.region (γ := Unit) (pre := [[], [], [], [1, 2], [], [], [4, 5], [1, 2, 3, 4, 5, 6], [0, 1, 2, 3, 4, 5, 6, 7], [0, 1, 2, 3, 4, 5, 6, 7, 8]]) (val := [some (.int .i64 y206), some v174, some (.int .i64 y206), some (slv 1 v174 y206 (l205.length : Int)), some v174, some (.int .i64 y206), some (slv 1 v174 0 y206), none, none, none]) (eff := [7, 8, 9]) (mask := [[], [7], [7, 8], [7, 8, 9]]) (keys := [[], [45], [46, 45], [8, 46, 45]]) (src := [[.base 8], [.base 7], [.base 8], [.op 1, .op 2], [.base 7], [.base 8], [.op 4, .op 5], [.op 3, .op 6], [.op 0], []]) (z := z) (ef := fun p g => ([[], [(45, (.int .i64 ((min l257.length l255.length : Nat) : Int)))], [(46, (.int .i64 (IntKind.i64.wrap (y206 + ((min l257.length l255.length : Nat) : Int))))), (45, (.int .i64 ((min l257.length l255.length : Nat) : Int)))], [(8, (.int .i64 (IntKind.i64.wrap (y206 + ((min l257.length l255.length : Nat) : Int))))), (46, (.int .i64 (IntKind.i64.wrap (y206 + ((min l257.length l255.length : Nat) : Int))))), (45, (.int .i64 ((min l257.length l255.length : Nat) : Int)))]] : List (List (Nat × Value))).getD p []) (hi := fun _ _ => I) (rs := fun p g => ([OwnSl (cInt .u64) v174 l205 :: r, OwnSl (cInt .u64) v174 l259 :: r, OwnSl (cInt .u64) v174 l259 :: r, OwnSl (cInt .u64) v174 l259 :: r] : List (List Asn)).getD p []) [(0, 0), (1, 0), (2, 0), (3, 0), (4, 0), (5, 0), (6, 0), (0, 1)] [(0, 7, 1), (1, 8, 2), (2, 9, 3)] [0, 1, 2, 3, 4, 5, 6] 3 mo hE () rfl H (by kernel_rfl) (by kernel_rfl) (fun p g => by rcases p with _ | _ | _ | _ | p <;> rfl) ?_ ?_ (by kernel_rfl) (by kernel_rfl) ?_
                · exact ⟨by intro a w g hE H; exact Dr.is H rfl (Dr.run rfl (d_move hE rfl)),
    by intro a w g hE H; exact Dr.is H rfl (Dr.run rfl (d_move hE rfl)),
    by intro a w g hE H; exact Dr.is H rfl (Dr.run rfl (d_move hE rfl)),
    by intro a w g hE H; exact Dr.is H rfl (Dr.run rfl (d_sliceR (c := (cInt .u64)) (lo := y206) (hi := (l205.length : Int)) sl70 hE rfl (.inl ⟨_, rfl, rfl⟩) (.inr ⟨rfl, rfl⟩) hl256 H (Rd.own 0 rfl))),
    by intro a w g hE H; exact Dr.is H rfl (Dr.run rfl (d_move hE rfl)),
    by intro a w g hE H; exact Dr.is H rfl (Dr.run rfl (d_move hE rfl)),
    by intro a w g hE H; exact Dr.is H rfl (Dr.run rfl (d_sliceR (c := (cInt .u64)) (lo := 0) (hi := y206) sl70 hE rfl (.inr ⟨rfl, rfl⟩) (.inl ⟨_, rfl, rfl⟩) hl258 H (Rd.own 0 rfl))),
    by intro a w g hE H; exact Dr.is H rfl (Dr.run rfl (d_move hE rfl)),
    trivial⟩
                · exact ⟨by intro a w g hE hF H; refine (Dr.run rfl (d_copyC (lo := y206) (hi := (l205.length : Int)) sl70 hl256 hE rfl rfl hl260 H (Rd.cut hl258 (Rd.own 0 rfl)))).mono fun v w hR => ?_; obtain ⟨hv_, H⟩ := hR; have hv_ := hv_.symm; subst hv_; have H : St z I w (OwnSl (cInt .u64) v174 l259 :: r) := H; exact ⟨(), H, Dr.lkSub ⟨rfl, trivial⟩⟩,
    by intro a w g hE hF H; have hE := Dr.env_both hE hF; refine (Dr.run rfl (d_add hE rfl rfl)).mono fun v w' hR => ?_; obtain ⟨hv_, rfl⟩ := hR; have hv_ := hv_.symm; subst hv_; exact ⟨(), H, Dr.lkSub ⟨rfl, rfl, trivial⟩⟩,
    by intro a w g hE hF H; have hE := Dr.env_both hE hF; refine (Dr.run rfl (d_assign hE rfl)).mono fun v w' hR => ?_; obtain ⟨hv_, rfl⟩ := hR; have hv_ := hv_.symm; subst hv_; exact ⟨(), H, Dr.lkSub ⟨rfl, rfl, rfl, trivial⟩⟩,
    trivial⟩
                · intro a w g hE H
                  have H : St z I w (OwnSl (cInt .u64) v174 l259 :: r) := H
                  exact ⟨k, Nat.lt_succ_self k, l259, IntKind.i64.wrap (y206 + ((min l257.length l255.length : Nat) : Int)), hm, hE.sub ⟨rfl, rfl, trivial⟩, H⟩
              · rw [if_neg c236] at hm
                refine cF hE rfl (decide_eq_false c236) ?_
                refine wp_exit ?_
                cases hm
                exact ⟨hE.sub ⟨rfl, trivial⟩, H⟩
          · exact ⟨l177, ((min a0.length l172.length : Nat) : Int), hj234, hE.sub ⟨rfl, rfl, trivial⟩, H⟩
        · rintro a w ⟨hE, H⟩
          refine wp_seq ?_
          refine wp_region_lit ?_
          refine s1 hE rfl (d_move hE rfl) fun a hE => ?_
          refine s1 hE rfl (d_assign hE rfl) fun a hE => ?_
          refine wpList_nil ?_
          refine wp_ret ?_
          cases hm
          exact ret1 rfl hE rfl ⟨_, rfl, v174, rfl, H⟩
def m147 (a0 : Int) (a1 : Int) : Option Bool := Option.bind (α := Bool) (Option.bind (m157 a0) fun x76 => if x76 = true then (Option.bind (m157 a1) fun x79 => if x79 = true then (some (decide (a0 < a1))) else (some true)) else (some (decide (a0 < a1)))) fun s75 => some s75
set_option maxRecDepth 20000 in
set_option maxHeartbeats 4000000 in
theorem f147_ok (a0 : Int) (a1 : Int) {res : Bool} (hm : m147 a0 a1 = some res) {z w : World} {I : Hp} {r : List Asn}  (H : St z I w (r)) :
    Calls Try.prog 147 #[(.int .i64 a0), (.int .i64 a1)] w (Rt fun v w' => v = (.bool res) ∧ St z I w' (r)) := by
  unfold m147 at hm
  refine enter (args := [(.int .i64 a0), (.int .i64 a1)]) Try.func147 rfl Try.ntmps147 rfl fun a hE => ?_
  refine wp_seq ?_
  refine wp_region_lit ?_
  refine s1 hE rfl (d_assign hE rfl) fun a hE => ?_
  refine wpList_nil ?_
  refine wp_seq ?_
  obtain ⟨s75, hj75, hm⟩ := bnd hm
  refine cut2 (fun a w => Env a 17 [(4, (.bool s75))] ∧ St z I w (r)) ?_ ?_
  · have hm := hj75
    refine wp_region_lit ?_
    refine s1 hE rfl (d_move hE rfl) fun a hE => ?_
    obtain ⟨x76, hc77, hm⟩ := bnd hm
    refine s2 hE rfl (d_call c157 hE rfl (f157_ok a0 hc77  H)) fun a v w hR hE => ?_
    obtain ⟨hv_, H⟩ := hR
    have hv_ := hv_.symm
    subst hv_
    refine s1 hE rfl (d_move hE rfl) fun a hE => ?_
    by_cases c78 : x76 = true
    · rw [if_pos c78] at hm
      refine gR hE rfl rfl c78 ?_
      refine s1 hE rfl (d_move hE rfl) fun a hE => ?_
      refine gR hE rfl rfl c78 ?_
      obtain ⟨x79, hc80, hm⟩ := bnd hm
      refine s2 hE rfl (d_call c157 hE rfl (f157_ok a1 hc80  H)) fun a v w hR hE => ?_
      obtain ⟨hv_, H⟩ := hR
      have hv_ := hv_.symm
      subst hv_
      refine gR hE rfl rfl c78 ?_
      refine s1 hE rfl (d_not hE rfl) fun a hE => ?_
      refine s1 hE rfl (d_pT hE rfl c78 rfl) fun a hE => ?_
      refine s1 hE rfl (d_move hE rfl) fun a hE => ?_
      by_cases c81 : x79 = true
      · rw [if_pos c81] at hm
        refine gR hE rfl rfl (not_f c81) ?_
        refine s1 hE rfl (d_move hE rfl) fun a hE => ?_
        refine gR hE rfl rfl (not_f c81) ?_
        refine s1 hE rfl (d_move hE rfl) fun a hE => ?_
        refine gR hE rfl rfl (not_f c81) ?_
        refine s1 hE rfl (d_lss hE rfl rfl) fun a hE => ?_
        refine s1 hE rfl (d_pF hE rfl (not_f c81) rfl) fun a hE => ?_
        refine s1 hE rfl (d_assign hE rfl) fun a hE => ?_
        refine wpList_nil ?_
        cases hm
        exact ⟨hE.sub ⟨rfl, trivial⟩, H⟩
      · rw [if_neg c81] at hm
        refine gP hE rfl rfl rfl (not_t (b_f c81)) fun a hE => ?_
        refine gP hE rfl rfl rfl (not_t (b_f c81)) fun a hE => ?_
        refine gP hE rfl rfl rfl (not_t (b_f c81)) fun a hE => ?_
        refine s1 hE rfl (d_pT hE rfl (not_t (b_f c81)) rfl) fun a hE => ?_
        refine s1 hE rfl (d_assign hE rfl) fun a hE => ?_
        refine wpList_nil ?_
        cases hm
        exact ⟨hE.sub ⟨rfl, trivial⟩, H⟩
    · rw [if_neg c78] at hm
      refine gP hE rfl rfl rfl (b_f c78) fun a hE => ?_
      refine gP hE rfl rfl rfl (b_f c78) fun a hE => ?_
      refine gP hE rfl rfl rfl (b_f c78) fun a hE => ?_
      refine s1 hE rfl (d_pF hE rfl (b_f c78) rfl) fun a hE => ?_
      refine s1 hE rfl (d_move hE rfl) fun a hE => ?_
      refine gR hE rfl rfl rfl ?_
      refine s1 hE rfl (d_move hE rfl) fun a hE => ?_
      refine gR hE rfl rfl rfl ?_
      refine s1 hE rfl (d_move hE rfl) fun a hE => ?_
      refine gR hE rfl rfl rfl ?_
      refine s1 hE rfl (d_lss hE rfl rfl) fun a hE => ?_
      refine s1 hE rfl (d_pF hE rfl rfl rfl) fun a hE => ?_
      refine s1 hE rfl (d_assign hE rfl) fun a hE => ?_
      refine wpList_nil ?_
      cases hm
      exact ⟨hE.sub ⟨rfl, trivial⟩, H⟩
  · rintro a w ⟨hE, H⟩
    refine wp_ret ?_
    cases hm
    exact ret1 rfl hE rfl ⟨_, rfl, rfl, H⟩
def m148 (a0 : Int) : Option Bool := some (!(decide (a0 = a0)))
set_option maxRecDepth 20000 in
set_option maxHeartbeats 4000000 in
theorem f148_ok (a0 : Int) {res : Bool} (hm : m148 a0 = some res) {z w : World} {I : Hp} {r : List Asn}  (H : St z I w (r)) :
    Calls Try.prog 148 #[(.int .i64 a0)] w (Rt fun v w' => v = (.bool res) ∧ St z I w' (r)) := by
  unfold m148 at hm
  refine enter (args := [(.int .i64 a0)]) Try.func148 rfl Try.ntmps148 rfl fun a hE => ?_
  refine wp_seq ?_
  refine wp_region_lit ?_
  refine s1 hE rfl (d_assign hE rfl) fun a hE => ?_
  refine wpList_nil ?_
  refine wp_seq ?_
  refine wp_region_lit ?_
  refine s1 hE rfl (d_move hE rfl) fun a hE => ?_
  refine s1 hE rfl (d_move hE rfl) fun a hE => ?_
  refine s1 hE rfl (d_neq hE rfl rfl) fun a hE => ?_
  refine s1 hE rfl (d_assign hE rfl) fun a hE => ?_
  refine wpList_nil ?_
  refine wp_ret ?_
  cases hm
  exact ret1 rfl hE rfl ⟨_, rfl, rfl, H⟩
def m88_l0 (a0 : List Int) (a1 : Int) : Nat → Int → Int → Option Int
  | 0, _, _ => none
  | k + 1, y195, y196 => if y195 < y196 then (Option.bind (rdx a0 (IntKind.i64.wrap ((IntKind.u64.wrap (IntKind.i64.wrap (y195 + y196))) / 2 ^ 1))) fun x246 => Option.bind (m147 x246 a1) fun x248 => Option.bind (α := Int × Int) (if x248 = true then (some (IntKind.i64.wrap ((IntKind.i64.wrap ((IntKind.u64.wrap (IntKind.i64.wrap (y195 + y196))) / 2 ^ 1)) + 1), y196)) else (some (y195, IntKind.i64.wrap ((IntKind.u64.wrap (IntKind.i64.wrap (y195 + y196))) / 2 ^ 1)))) fun s253 => m88_l0 a0 a1 k s253.1 s253.2) else (some y195)
def m88 (k : Nat) (a0 : List Int) (a1 : Int) : Option (Int × Bool) := Option.bind (m88_l0 a0 a1 k 0 (a0.length : Int)) fun s226 => Option.bind (α := Bool) (if s226 < (a0.length : Int) then (Option.bind (rdx a0 s226) fun x271 => if x271 = a1 then (some true) else (Option.bind (rdx a0 s226) fun x274 => Option.bind (m148 x274) fun x276 => if x276 = true then (Option.bind (m148 a1) fun x279 => some x279) else (some false))) else (some false)) fun s269 => some (s226, s269)
set_option maxRecDepth 20000 in
set_option maxHeartbeats 4000000 in
theorem f88_ok (k : Nat) {u0 : Value} (a0 : List Int) (a1 : Int) {res : Int × Bool} (hm : m88 k a0 a1 = some res) {z w : World} {I : Hp} {r : List Asn} (hr0 : Rd (cInt .i64) I r u0 a0) (H : St z I w (r)) :
    Calls Try.prog 88 #[u0, (.int .i64 a1)] w (Rt fun v w' => v = (.tuple #[(.int .i64 res.1), (.bool res.2)]) ∧ St z I w' (r)) := by
  unfold m88 at hm
  refine enter (args := [u0, (.int .i64 a1)]) Try.func88 rfl Try.ntmps88 rfl fun a hE => ?_
  refine wp_seq ?_
  refine wp_region_lit ?_
  refine s1 hE rfl (d_assign hE rfl) fun a hE => ?_
  refine s1 hE rfl (d_assign hE rfl) fun a hE => ?_
  refine wpList_nil ?_
  refine wp_seq ?_
  refine wp_region_lit ?_
  refine s1 hE rfl (d_move hE rfl) fun a hE => ?_
  refine s1 hE rfl (d_lenS Try.underlying51 hE rfl H hr0) fun a hE => ?_
  refine s1 hE rfl (d_assign hE rfl) fun a hE => ?_
  refine wpList_nil ?_
  refine wp_seq ?_
  refine wp_region_lit ?_
  refine s1 hE rfl (d_move hE rfl) fun a hE => ?_
  refine s1 hE rfl (d_assign hE rfl) fun a hE => ?_
  refine s1 hE rfl (d_assign hE rfl) fun a hE => ?_
  refine wpList_nil ?_
  refine wp_seq ?_
  obtain ⟨s226, hj226, hm⟩ := bnd hm
  refine cut2 (fun a w => Env a 54 [(0, u0), (1, (.int .i64 a1)), (6, (.int .i64 (a0.length : Int))), (7, (.int .i64 s226))] ∧ St z I w (r)) ?_ ?_
  · refine wp_block ?_
    refine loopI (fun k a w => ∃ y195 : Int, ∃ y196 : Int, m88_l0 a0 a1 k y195 y196 = some s226 ∧ Env a 54 [(0, u0), (1, (.int .i64 a1)), (6, (.int .i64 (a0.length : Int))), (7, (.int .i64 y195)), (8, (.int .i64 y196))] ∧ St z I w (r)) ?_ k _ _ ?_
    · rintro k a w ⟨y195, y196, hm, hE, H⟩
      cases k with
      | zero => rw [m88_l0] at hm; cases hm
      | succ k =>
        rw [m88_l0] at hm
        refine wp_seq ?_
        refine wp_seq ?_
        refine wp_region_lit ?_
        refine s1 hE rfl (d_move hE rfl) fun a hE => ?_
        refine s1 hE rfl (d_move hE rfl) fun a hE => ?_
        refine s1 hE rfl (d_lss hE rfl rfl) fun a hE => ?_
        refine wpList_nil ?_
        by_cases c228 : y195 < y196
        · rw [if_pos c228] at hm
          refine cT hE rfl (decide_eq_true c228) ?_
          refine wp_skip ?_
          refine wp_block ?_
          refine wp_seq ?_
          refine wp_region_lit ?_
          refine s1 hE rfl (d_move hE rfl) fun a hE => ?_
          refine s1 hE rfl (d_move hE rfl) fun a hE => ?_
          refine s1 hE rfl (d_add hE rfl rfl) fun a hE => ?_
          refine s1 hE rfl (d_convert hE rfl (cv3_220 _)) fun a hE => ?_
          refine s1 hE rfl (d_shr (n := 1) hE rfl rfl (by decide) (by decide)) fun a hE => ?_
          refine s1 hE rfl (d_convert hE rfl (cv220_3 _)) fun a hE => ?_
          refine s1 hE rfl (d_assign hE rfl) fun a hE => ?_
          refine wpList_nil ?_
          refine wp_seq ?_
          refine wp_region_lit ?_
          refine s1 hE rfl (d_move hE rfl) fun a hE => ?_
          refine s1 hE rfl (d_move hE rfl) fun a hE => ?_
          obtain ⟨x246, hx247, hm⟩ := bnd hm
          refine s1 hE rfl (d_indexS sl51 hE rfl rfl H hr0 hx247) fun a hE => ?_
          refine s1 hE rfl (d_loadS1 sc3 hE rfl H hr0 hx247 (fun _ _ e => e)) fun a hE => ?_
          refine s1 hE rfl (d_move hE rfl) fun a hE => ?_
          obtain ⟨x248, hc249, hm⟩ := bnd hm
          refine s2 hE rfl (d_call c147 hE rfl (f147_ok x246 a1 hc249  H)) fun a v w hR hE => ?_
          obtain ⟨hv_, H⟩ := hR
          have hv_ := hv_.symm
          subst hv_
          refine wpList_nil ?_
          obtain ⟨s253, hj253, hm⟩ := bnd hm
          refine cut2 (fun a w => Env a 54 [(0, u0), (1, (.int .i64 a1)), (6, (.int .i64 (a0.length : Int))), (7, (.int .i64 s253.1)), (8, (.int .i64 s253.2))] ∧ St z I w (r)) ?_ ?_
          · have hm := hj253
            by_cases c254 : x248 = true
            · rw [if_pos c254] at hm
              refine cT hE rfl c254 ?_
              refine wp_region_lit ?_
              refine s1 hE rfl (d_move hE rfl) fun a hE => ?_
              refine s1 hE rfl (d_add hE rfl rfl) fun a hE => ?_
              refine s1 hE rfl (d_assign hE rfl) fun a hE => ?_
              refine wpList_nil ?_
              cases hm
              exact ⟨hE.sub ⟨rfl, rfl, rfl, rfl, rfl, trivial⟩, H⟩
            · rw [if_neg c254] at hm
              refine cF hE rfl (b_f c254) ?_
              refine wp_region_lit ?_
              refine s1 hE rfl (d_move hE rfl) fun a hE => ?_
              refine s1 hE rfl (d_assign hE rfl) fun a hE => ?_
              refine wpList_nil ?_
              cases hm
              exact ⟨hE.sub ⟨rfl, rfl, rfl, rfl, rfl, trivial⟩, H⟩
          · rintro a w ⟨hE, H⟩
            exact ⟨k, Nat.lt_succ_self k, s253.1, s253.2, hm, hE.sub ⟨rfl, rfl, rfl, rfl, rfl, trivial⟩, H⟩
        · rw [if_neg c228] at hm
          refine cF hE rfl (decide_eq_false c228) ?_
          refine wp_exit ?_
          cases hm
          exact ⟨hE.sub ⟨rfl, rfl, rfl, rfl, trivial⟩, H⟩
    · exact ⟨0, (a0.length : Int), hj226, hE.sub ⟨rfl, rfl, rfl, rfl, rfl, trivial⟩, H⟩
  · rintro a w ⟨hE, H⟩
    refine wp_seq ?_
    obtain ⟨s269, hj269, hm⟩ := bnd hm
    refine cut2 (fun a w => Env a 54 [(4, (.int .i64 s226)), (5, (.bool s269))] ∧ St z I w (r)) ?_ ?_
    · have hm := hj269
      refine wp_region_lit ?_
      refine s1 hE rfl (d_move hE rfl) fun a hE => ?_
      refine s1 hE rfl (d_move hE rfl) fun a hE => ?_
      refine s1 hE rfl (d_move hE rfl) fun a hE => ?_
      refine s1 hE rfl (d_lss hE rfl rfl) fun a hE => ?_
      refine s1 hE rfl (d_move hE rfl) fun a hE => ?_
      by_cases c270 : s226 < (a0.length : Int)
      · rw [if_pos c270] at hm
        refine gR hE rfl rfl (decide_eq_true c270) ?_
        refine s1 hE rfl (d_move hE rfl) fun a hE => ?_
        refine gR hE rfl rfl (decide_eq_true c270) ?_
        refine s1 hE rfl (d_move hE rfl) fun a hE => ?_
        refine gR hE rfl rfl (decide_eq_true c270) ?_
        obtain ⟨x271, hx272, hm⟩ := bnd hm
        refine s1 hE rfl (d_indexS sl51 hE rfl rfl H hr0 hx272) fun a hE => ?_
        refine gR hE rfl rfl (decide_eq_true c270) ?_
        refine s1 hE rfl (d_loadS1 sc3 hE rfl H hr0 hx272 (fun _ _ e => e)) fun a hE => ?_
        refine gR hE rfl rfl (decide_eq_true c270) ?_
        refine s1 hE rfl (d_move hE rfl) fun a hE => ?_
        refine gR hE rfl rfl (decide_eq_true c270) ?_
        refine s1 hE rfl (d_eql hE rfl rfl) fun a hE => ?_
        refine gR hE rfl rfl (decide_eq_true c270) ?_
        refine s1 hE rfl (d_move hE rfl) fun a hE => ?_
        by_cases c273 : x271 = a1
        · rw [if_pos c273] at hm
          refine gP hE rfl rfl rfl (decide_eq_true c273) fun a hE => ?_
          refine gP hE rfl rfl rfl (decide_eq_true c273) fun a hE => ?_
          refine gP hE rfl rfl rfl (decide_eq_true c273) fun a hE => ?_
          refine gP hE rfl rfl rfl (decide_eq_true c273) fun a hE => ?_
          refine gP hE rfl rfl rfl (decide_eq_true c273) fun a hE => ?_
          refine gP hE rfl rfl rfl (decide_eq_true c273) fun a hE => ?_
          refine sk_undef hE rfl rfl rfl fun a hE => ?_
          refine sk_undef hE rfl rfl rfl fun a hE => ?_
          refine gP hE rfl rfl rfl (decide_eq_true c273) fun a hE => ?_
          refine gR hE rfl rfl (decide_eq_true c270) ?_
          refine s1 hE rfl (d_pT hE rfl (decide_eq_true c273) rfl) fun a hE => ?_
          refine s1 hE rfl (d_pT hE rfl (decide_eq_true c270) rfl) fun a hE => ?_
          refine s1 hE rfl (d_assign hE rfl) fun a hE => ?_
          refine s1 hE rfl (d_assign hE rfl) fun a hE => ?_
          refine wpList_nil ?_
          cases hm
          exact ⟨hE.sub ⟨rfl, rfl, trivial⟩, H⟩
        · rw [if_neg c273] at hm
          refine gR hE rfl rfl (decide_eq_false c273) ?_
          refine s1 hE rfl (d_move hE rfl) fun a hE => ?_
          refine gR hE rfl rfl (decide_eq_false c273) ?_
          refine s1 hE rfl (d_move hE rfl) fun a hE => ?_
          refine gR hE rfl rfl (decide_eq_false c273) ?_
          obtain ⟨x274, hx275, hm⟩ := bnd hm
          refine s1 hE rfl (d_indexS sl51 hE rfl rfl H hr0 hx275) fun a hE => ?_
          refine gR hE rfl rfl (decide_eq_false c273) ?_
          refine s1 hE rfl (d_loadS1 sc3 hE rfl H hr0 hx275 (fun _ _ e => e)) fun a hE => ?_
          refine gR hE rfl rfl (decide_eq_false c273) ?_
          obtain ⟨x276, hc277, hm⟩ := bnd hm
          refine s2 hE rfl (d_call c148 hE rfl (f148_ok x274 hc277  H)) fun a v w hR hE => ?_
          obtain ⟨hv_, H⟩ := hR
          have hv_ := hv_.symm
          subst hv_
          refine gR hE rfl rfl (decide_eq_false c273) ?_
          refine s1 hE rfl (d_move hE rfl) fun a hE => ?_
          by_cases c278 : x276 = true
          · rw [if_pos c278] at hm
            refine gR hE rfl rfl c278 ?_
            refine s1 hE rfl (d_move hE rfl) fun a hE => ?_
            refine gR hE rfl rfl c278 ?_
            obtain ⟨x279, hc280, hm⟩ := bnd hm
            refine s2 hE rfl (d_call c148 hE rfl (f148_ok a1 hc280  H)) fun a v w hR hE => ?_
            obtain ⟨hv_, H⟩ := hR
            have hv_ := hv_.symm
            subst hv_
            refine gR hE rfl rfl (decide_eq_false c273) ?_
            refine s1 hE rfl (d_pT hE rfl c278 rfl) fun a hE => ?_
            refine gR hE rfl rfl (decide_eq_true c270) ?_
            refine s1 hE rfl (d_pF hE rfl (decide_eq_false c273) rfl) fun a hE => ?_
            refine s1 hE rfl (d_pT hE rfl (decide_eq_true c270) rfl) fun a hE => ?_
            refine s1 hE rfl (d_assign hE rfl) fun a hE => ?_
            refine s1 hE rfl (d_assign hE rfl) fun a hE => ?_
            refine wpList_nil ?_
            cases hm
            exact ⟨hE.sub ⟨rfl, rfl, trivial⟩, H⟩
          · rw [if_neg c278] at hm
            refine gP hE rfl rfl rfl (b_f c278) fun a hE => ?_
            refine gP hE rfl rfl rfl (b_f c278) fun a hE => ?_
            refine gR hE rfl rfl (decide_eq_false c273) ?_
            refine s1 hE rfl (d_pF hE rfl (b_f c278) rfl) fun a hE => ?_
            refine gR hE rfl rfl (decide_eq_true c270) ?_
            refine s1 hE rfl (d_pF hE rfl (decide_eq_false c273) rfl) fun a hE => ?_
            refine s1 hE rfl (d_pT hE rfl (decide_eq_true c270) rfl) fun a hE => ?_
            refine s1 hE rfl (d_assign hE rfl) fun a hE => ?_
            refine s1 hE rfl (d_assign hE rfl) fun a hE => ?_
            refine wpList_nil ?_
            cases hm
            exact ⟨hE.sub ⟨rfl, rfl, trivial⟩, H⟩
      · rw [if_neg c270] at hm
        refine gP hE rfl rfl rfl (decide_eq_false c270) fun a hE => ?_
        refine gP hE rfl rfl rfl (decide_eq_false c270) fun a hE => ?_
        refine gP hE rfl rfl rfl (decide_eq_false c270) fun a hE => ?_
        refine gP hE rfl rfl rfl (decide_eq_false c270) fun a hE => ?_
        refine gP hE rfl rfl rfl (decide_eq_false c270) fun a hE => ?_
        refine gP hE rfl rfl rfl (decide_eq_false c270) fun a hE => ?_
        refine gP hE rfl rfl rfl (decide_eq_false c270) fun a hE => ?_
        refine sk_undef hE rfl rfl rfl fun a hE => ?_
        refine sk_undef hE rfl rfl rfl fun a hE => ?_
        refine sk_undef hE rfl rfl rfl fun a hE => ?_
        refine sk_undef hE rfl rfl rfl fun a hE => ?_
        refine sk_undef hE rfl rfl rfl fun a hE => ?_
        refine sk_undef hE rfl rfl rfl fun a hE => ?_
        refine sk_undef hE rfl rfl rfl fun a hE => ?_
        refine sk_undef hE rfl rfl rfl fun a hE => ?_
        refine sk_undef hE rfl rfl rfl fun a hE => ?_
        refine gP hE rfl rfl rfl (decide_eq_false c270) fun a hE => ?_
        refine s1 hE rfl (d_pF hE rfl (decide_eq_false c270) rfl) fun a hE => ?_
        refine s1 hE rfl (d_assign hE rfl) fun a hE => ?_
        refine s1 hE rfl (d_assign hE rfl) fun a hE => ?_
        refine wpList_nil ?_
        cases hm
        exact ⟨hE.sub ⟨rfl, rfl, trivial⟩, H⟩
    · rintro a w ⟨hE, H⟩
      refine wp_ret ?_
      cases hm
      exact ret2 rfl hE rfl rfl ⟨_, rfl, rfl, H⟩
def m87_l0 (a0 : Int) (l270 : List (List Int)) : Nat → (List (List Int)) → Int → Option (List (List Int))
  | 0, _, _ => none
  | k + 1, l341, y342 => if y342 < (l270.length : Int) then (Option.bind (m146 ) fun x456 => Option.bind (m145 k ([x456]) a0) fun x459 => Option.bind (rdx l341 y342) fun x462 => Option.bind (some (l341.set (Int.toNat y342) x459)) fun l464 => Option.bind (rdx l464 y342) fun x472 => Option.bind (rdx x472 y342) fun x474 => Option.bind (some (l464.set (Int.toNat y342) (x472.set (Int.toNat y342) 0))) fun l476 => m87_l0 a0 l270 k l476 (IntKind.i64.wrap (y342 + 1))) else (some l341)
def m87 (k : Nat) (a0 : Int) : Option (List (List Int)) := Option.bind (mkl 11728124029610 a0 ([] : List Int)) fun l270 => Option.bind (m87_l0 a0 l270 k l270 0) fun s411 => some s411
set_option maxRecDepth 20000 in
set_option maxHeartbeats 4000000 in
theorem f87_ok (k : Nat) (a0 : Int) {res : (List (List Int))} (hm : m87 k a0 = some res) {z w : World} {I : Hp} {r : List Asn}  (H : St z I w (r)) :
    Calls Try.prog 87 #[(.int .i64 a0)] w (Rt fun v w' => ∃ v263 : Value, ∃ g265 : List Value, v = v263 ∧ St z I w' (MatO (cInt .u64) v263 g265 res :: r)) := by
  unfold m87 at hm
  refine enter (args := [(.int .i64 a0)]) Try.func87 rfl Try.ntmps87 rfl fun a hE => ?_
  refine wp_seq ?_
  refine wp_region_lit ?_
  refine s1 hE rfl (d_assign hE rfl) fun a hE => ?_
  refine wpList_nil ?_
  refine wp_seq ?_
  refine wp_region_lit ?_
  refine s1 hE rfl (d_move hE rfl) fun a hE => ?_
  obtain ⟨l270, hl271, hm⟩ := bnd hm
  refine s2 hE rfl (d_makeMat (c := (cInt .u64)) (lim := 11728124029610) ez65 (by decide) (by decide) hE rfl rfl hl271 H) fun a v w hR hE => ?_
  obtain ⟨v272, rfl⟩ : ∃ x, x = v := ⟨v, rfl⟩
  obtain ⟨g273, H⟩ := hR
  have H : St z I w (MatO (cInt .u64) v272 g273 l270 :: r) := H
  refine s1 hE rfl (d_assign hE rfl) fun a hE => ?_
  refine wpList_nil ?_
  refine wp_seq ?_
  refine wp_seq ?_
  refine wp_region_lit ?_
  refine s1 hE rfl (d_move hE rfl) fun a hE => ?_
  refine s1 hE rfl (d_lenMat Try.underlying65 hE rfl H 0 rfl) fun a hE => ?_
  refine s1 hE rfl (d_move hE rfl) fun a hE => ?_
  refine wpList_nil ?_
  obtain ⟨s411, hj411, hm⟩ := bnd hm
  refine cut2 (fun a w => ∃ g410 : List Value, Env a 27 [(3, v272)] ∧ St z I w (MatO (cInt .u64) v272 g410 s411 :: r)) ?_ ?_
  · refine wp_block ?_
    refine loopI (fun k a w => ∃ l341 : List (List Int), ∃ y342 : Int, m87_l0 a0 l270 k l341 y342 = some s411 ∧ ∃ g340 : List Value, Env a 27 [(0, (.int .i64 a0)), (3, v272), (8, (.int .i64 (l270.length : Int))), (9, (.int .i64 y342))] ∧ St z I w (MatO (cInt .u64) v272 g340 l341 :: r)) ?_ k _ _ ?_
    · rintro k a w ⟨l341, y342, hm, g340, hE, H⟩
      cases k with
      | zero => rw [m87_l0] at hm; cases hm
      | succ k =>
        rw [m87_l0] at hm
        refine wp_seq ?_
        refine wp_region_lit ?_
        refine s1 hE rfl (d_lss hE rfl rfl) fun a hE => ?_
        refine wpList_nil ?_
        refine wp_seq ?_
        by_cases c413 : y342 < (l270.length : Int)
        · rw [if_pos c413] at hm
          refine cT hE rfl (decide_eq_true c413) ?_
          refine wp_skip ?_
          refine wp_seq ?_
          refine wp_block ?_
          refine wp_seq ?_
          refine wp_region_lit ?_
          refine s1 hE rfl (d_move hE rfl) fun a hE => ?_
          refine s1 hE rfl (d_assign hE rfl) fun a hE => ?_
          refine wpList_nil ?_
          refine wp_seq ?_
          refine wp_region_lit ?_
          refine s1 hE rfl (d_move hE rfl) fun a hE => ?_
          refine s1 hE rfl (d_move hE rfl) fun a hE => ?_
          obtain ⟨x456, hc457, hm⟩ := bnd hm
          refine s2 hE rfl (d_call c146 hE rfl (f146_ok  hc457  H)) fun a v w hR hE => ?_
          obtain ⟨hv_, H⟩ := hR
          have hv_ := hv_.symm
          subst hv_
          refine s2 hE rfl (d_lit (c := (cInt .u64)) (xs := [x456]) hE rfl (lit70_1 _) rfl rfl (fun J h iJ s => rowsC (cs := [(.int .u64 x456)]) rfl (rows0)) H) fun a v w hR hE => ?_
          obtain ⟨v458, rfl⟩ : ∃ x, x = v := ⟨v, rfl⟩
          have H : St z I w (OwnSl (cInt .u64) v458 ([x456]) :: MatO (cInt .u64) v272 g340 l341 :: r) := hR
          refine s1 hE rfl (d_move hE rfl) fun a hE => ?_
          obtain ⟨x459, hc460, hm⟩ := bnd hm
          refine s2 hE rfl (d_call c145 hE rfl (f145_ok k ([x456]) a0 hc460 (Rd.own 0 rfl) H)) fun a v w hR hE => ?_
          obtain ⟨v461, hv_, H⟩ := hR
          have hv_ := hv_.symm
          subst hv_
          obtain ⟨x462, hx463, hm⟩ := bnd hm
          refine s1 hE rfl (d_indexMat sl65 hE rfl rfl H 2 rfl hx463) fun a hE => ?_
          obtain ⟨l464, hl465, hm⟩ := bnd hm
          have H := St.get H 2 rfl
          have H := St.get H 1 rfl
          refine s3 (d_setRow sz70 hE rfl rfl hx463 hl465 H) fun v w hR => ?_
          have H : St z I w (MatO (cInt .u64) v272 (g340.set (y342).toNat v461) l464 :: OwnSl (cInt .u64) v458 ([x456]) :: r) := hR
          refine wpList_nil ?_
          refine wp_region_lit ?_
          refine s1 hE rfl (d_move hE rfl) fun a hE => ?_
          refine s1 hE rfl (d_move hE rfl) fun a hE => ?_
          obtain ⟨x472, hx473, hm⟩ := bnd hm
          refine s1 hE rfl (d_indexMat sl65 hE rfl rfl H 0 rfl hx473) fun a hE => ?_
          refine s1 hE rfl (d_loadMat sc70 hE rfl H 0 rfl hx473) fun a hE => ?_
          refine s1 hE rfl (d_move hE rfl) fun a hE => ?_
          obtain ⟨x474, hx475, hm⟩ := bnd hm
          refine s1 hE rfl (d_indexS sl70 hE rfl rfl H (Rd.mat 0 rfl hx473) hx475) fun a hE => ?_
          obtain ⟨l476, hl477, hm⟩ := bnd hm
          refine s3 (d_storeMat (e' := 0) sz61 hE rfl rfl rfl (oneAll rfl) rfl hx473 hx475 (fun _ => by rfl) hl477 H) fun v w hR => ?_
          have H : St z I w (MatO (cInt .u64) v272 (g340.set (y342).toNat v461) l476 :: OwnSl (cInt .u64) v458 ([x456]) :: r) := hR
          refine wpList_nil ?_
          refine wp_region_lit ?_
          refine s1 hE rfl (d_add hE rfl rfl) fun a hE => ?_
          refine s1 hE rfl (d_move hE rfl) fun a hE => ?_
          refine wpList_nil ?_
          have H := St.del H 1
          exact ⟨k, Nat.lt_succ_self k, l476, IntKind.i64.wrap (y342 + 1), hm, (g340.set (y342).toNat v461), hE.sub ⟨rfl, rfl, rfl, rfl, trivial⟩, H⟩
        · rw [if_neg c413] at hm
          refine cF hE rfl (decide_eq_false c413) ?_
          refine wp_exit ?_
          cases hm
          exact ⟨g340, hE.sub ⟨rfl, trivial⟩, H⟩
    · exact ⟨l270, 0, hj411, g273, hE.sub ⟨rfl, rfl, rfl, rfl, trivial⟩, H⟩
  · rintro a w ⟨g410, hE, H⟩
    refine wp_seq ?_
    refine wp_region_lit ?_
    refine s1 hE rfl (d_move hE rfl) fun a hE => ?_
    refine s1 hE rfl (d_assign hE rfl) fun a hE => ?_
    refine wpList_nil ?_
    refine wp_ret ?_
    cases hm
    exact ret1 rfl hE rfl ⟨_, rfl, v272, g410, rfl, H⟩
def m35_l0 (a0 : List S_api_Arc) (x9320 : (List Int)) : Nat → (List (List Int)) → Int → Option (List (List Int))
  | 0, _, _ => none
  | k + 1, l9403, y9404 => if y9404 < (a0.length : Int) then (Option.bind (rdx a0 y9404) fun x9516 => Option.bind (m88 k x9320 x9516.From) fun x9521 => Option.bind (m88 k x9320 x9516.To) fun x9525 => Option.bind (rdx l9403 x9521.1) fun x9537 => Option.bind (rdx l9403 x9521.1) fun x9539 => Option.bind (rdx x9539 x9525.1) fun x9541 => Option.bind (rdx x9537 x9525.1) fun x9543 => Option.bind (some (l9403.set (Int.toNat x9521.1) (x9537.set (Int.toNat x9525.1) (if (IntKind.u64.wrap x9516.Cost) < x9541 then IntKind.u64.wrap x9516.Cost else x9541)))) fun l9545 => m35_l0 a0 x9320 k l9545 (IntKind.i64.wrap (y9404 + 1))) else (some l9403)
def m35_l3 (x9320 : (List Int)) (y12542 : Int) (y17566 : Int) : Nat → (List (List Int)) → Int → Option (List (List Int))
  | 0, _, _ => none
  | k + 1, l18405, y18406 => if y18406 < (x9320.length : Int) then (Option.bind (rdx l18405 y17566) fun x18553 => Option.bind (rdx l18405 y17566) fun x18555 => Option.bind (rdx x18555 y18406) fun x18557 => Option.bind (rdx l18405 y17566) fun x18559 => Option.bind (rdx x18559 y12542) fun x18561 => Option.bind (rdx l18405 y12542) fun x18563 => Option.bind (rdx x18563 y18406) fun x18565 => Option.bind (m89 x18561 x18565) fun x18567 => Option.bind (rdx x18553 y18406) fun x18569 => Option.bind (some (l18405.set (Int.toNat y17566) (x18553.set (Int.toNat y18406) (if x18567 < x18557 then x18567 else x18557)))) fun l18571 => m35_l3 x9320 y12542 y17566 k l18571 (IntKind.i64.wrap (y18406 + 1))) else (some l18405)
def m35_l2 (x9320 : (List Int)) (y12542 : Int) : Nat → (List (List Int)) → Int → Option (List (List Int))
  | 0, _, _ => none
  | k + 1, l17565, y17566 => if y17566 < (x9320.length : Int) then (Option.bind (m35_l3 x9320 y12542 y17566 k l17565 0) fun s18490 => m35_l2 x9320 y12542 k s18490 (IntKind.i64.wrap (y17566 + 1))) else (some l17565)
def m35_l1 (x9320 : (List Int)) : Nat → (List (List Int)) → Int → Option (List (List Int))
  | 0, _, _ => none
  | k + 1, l12541, y12542 => if y12542 < (x9320.length : Int) then (Option.bind (m35_l2 x9320 y12542 k l12541 0) fun s18070 => m35_l1 x9320 k s18070 (IntKind.i64.wrap (y12542 + 1))) else (some l12541)
def m35 (k : Nat) (a0 : List S_api_Arc) : Option ((List Int) × (List (List Int))) := Option.bind (m86 k a0) fun x9320 => if (x9320.length : Int) = 0 then (some ([], [])) else (Option.bind (m87 k (x9320.length : Int)) fun x9329 => Option.bind (m35_l0 a0 x9320 k x9329 0) fun s9476 => Option.bind (m35_l1 x9320 k s9476 0) fun s15558 => some (x9320, s15558))
set_option maxRecDepth 20000 in
set_option maxHeartbeats 4000000 in
theorem f35_ok (k : Nat) {u0 : Value} (a0 : List S_api_Arc) {res : (List Int) × (List (List Int))} (hm : m35 k a0 = some res) {z w : World} {I : Hp} {r : List Asn} (hr0 : Rd c_api_Arc I r u0 a0) (hz : z.drawn = 0) (H : St z I w (r)) :
    Calls Try.prog 35 #[u0] w (Rt fun v w' => ∃ v9312 : Value, ∃ v9314 : Value, ∃ g9316 : List Value, v = (.tuple #[v9312, v9314]) ∧ St z I w' (OwnSl (cInt .i64) v9312 res.1 :: MatO (cInt .u64) v9314 g9316 res.2 :: r)) := by
  unfold m35 at hm
  refine enter (args := [u0]) Try.func35 rfl Try.ntmps35 rfl fun a hE => ?_
  refine wp_seq ?_
  refine wp_region_lit ?_
  refine s1 hE rfl (d_assign hE rfl) fun a hE => ?_
  refine s1 hE rfl (d_assign hE rfl) fun a hE => ?_
  refine wpList_nil ?_
  refine wp_seq ?_
  refine wp_region_lit ?_
  refine s1 hE rfl (d_move hE rfl) fun a hE => ?_
  obtain ⟨x9320, hc9321, hm⟩ := bnd hm
  refine s2 hE rfl (d_call c86 hE rfl (f86_ok k a0 hc9321 hr0 hz H)) fun a v w hR hE => ?_
  obtain ⟨v9322, hv_, H⟩ := hR
  have hv_ := hv_.symm
  subst hv_
  refine s1 hE rfl (d_assign hE rfl) fun a hE => ?_
  refine wpList_nil ?_
  refine wp_seq ?_
  refine wp_seq ?_
  refine wp_region_lit ?_
  refine s1 hE rfl (d_move hE rfl) fun a hE => ?_
  refine s1 hE rfl (d_lenS Try.underlying51 hE rfl H (Rd.own 0 rfl)) fun a hE => ?_
  refine s1 hE rfl (d_eql hE rfl rfl) fun a hE => ?_
  refine wpList_nil ?_
  by_cases c9324 : (x9320.length : Int) = 0
  · rw [if_pos c9324] at hm
    refine cT hE rfl (decide_eq_true c9324) ?_
    refine wp_seq ?_
    refine wp_region_lit ?_
    refine s1 hE rfl (d_assign hE rfl) fun a hE => ?_
    refine s1 hE rfl (d_assign hE rfl) fun a hE => ?_
    refine wpList_nil ?_
    refine wp_ret ?_
    cases hm
    have H := St.nil (c := (cInt .i64)) H none
    have H := St.matNil (c := (cInt .u64)) H none
    have H := St.get H 1 rfl
    have H := St.del H 2
    exact ret2 rfl hE rfl rfl ⟨_, rfl, (.slice none 0 0), (.slice none 0 0), [], rfl, H⟩
  · rw [if_neg c9324] at hm
    refine cF hE rfl (decide_eq_false c9324) ?_
    refine wp_skip ?_
    refine wp_seq ?_
    refine wp_region_lit ?_
    refine s1 hE rfl (d_move hE rfl) fun a hE => ?_
    refine s1 hE rfl (d_lenS Try.underlying51 hE rfl H (Rd.own 0 rfl)) fun a hE => ?_
    obtain ⟨x9329, hc9330, hm⟩ := bnd hm
    refine s2 hE rfl (d_call c87 hE rfl (f87_ok k (x9320.length : Int) hc9330  H)) fun a v w hR hE => ?_
    obtain ⟨v9331, g9332, hv_, H⟩ := hR
    have hv_ := hv_.symm
    subst hv_
    refine s1 hE rfl (d_assign hE rfl) fun a hE => ?_
    refine wpList_nil ?_
    refine wp_seq ?_
    refine wp_seq ?_
    refine wp_region_lit ?_
    refine s1 hE rfl (d_move hE rfl) fun a hE => ?_
    refine s1 hE rfl (d_lenS Try.underlying55 hE rfl H (Rd.cons (Rd.cons hr0))) fun a hE => ?_
    refine s1 hE rfl (d_move hE rfl) fun a hE => ?_
    refine wpList_nil ?_
    obtain ⟨s9476, hj9476, hm⟩ := bnd hm
    refine cut2 (fun a w => Env a 110 [(4, v9322), (5, v9331)] ∧ St z I w (OwnSl (cInt .i64) v9322 x9320 :: MatO (cInt .u64) v9331 g9332 s9476 :: r)) ?_ ?_
    · refine wp_block ?_
      refine loopI (fun k a w => ∃ l9403 : List (List Int), ∃ y9404 : Int, m35_l0 a0 x9320 k l9403 y9404 = some s9476 ∧ Env a 110 [(4, v9322), (5, v9331), (23, u0), (24, (.int .i64 (a0.length : Int))), (25, (.int .i64 y9404))] ∧ St z I w (OwnSl (cInt .i64) v9322 x9320 :: MatO (cInt .u64) v9331 g9332 l9403 :: r)) ?_ k _ _ ?_
      · rintro k a w ⟨l9403, y9404, hm, hE, H⟩
        cases k with
        | zero => rw [m35_l0] at hm; cases hm
        | succ k =>
          rw [m35_l0] at hm
          refine wp_seq ?_
          refine wp_region_lit ?_
          refine s1 hE rfl (d_lss hE rfl rfl) fun a hE => ?_
          refine wpList_nil ?_
          refine wp_seq ?_
          by_cases c9478 : y9404 < (a0.length : Int)
          · rw [if_pos c9478] at hm
            refine cT hE rfl (decide_eq_true c9478) ?_
            refine wp_skip ?_
            refine wp_seq ?_
            refine wp_block ?_
            refine wp_seq ?_
            refine wp_region_lit ?_
            obtain ⟨x9516, hx9517, hm⟩ := bnd hm
            refine s1 hE rfl (d_indexS sl55 hE rfl rfl H (Rd.cons (Rd.cons hr0)) hx9517) fun a hE => ?_
            refine s1 hE rfl (d_loadSA ag60 rfl hE rfl H (Rd.cons (Rd.cons hr0)) hx9517 (fun _ _ e => e)) fun a hE => ?_
            refine s2 hE rfl (d_alloc al60 H) fun a v w hR hE => ?_
            obtain ⟨q9518, rfl, H⟩ := hR
            refine s3 (d_store sz60 hE rfl rfl rfl (oneAll rfl) H rfl) fun v w hR => ?_
            have H : St z I w (Bl q9518 60 [(.int .i64 x9516.From), (.int .i64 x9516.To), (.int .i64 x9516.Cost)] :: OwnSl (cInt .i64) v9322 x9320 :: MatO (cInt .u64) v9331 g9332 l9403 :: r) := hR
            refine wpList_nil ?_
            refine wp_seq ?_
            refine wp_region_lit ?_
            refine s1 hE rfl (d_move hE rfl) fun a hE => ?_
            refine s1 hE rfl (d_fieldAddr fld60_0 hE rfl) fun a hE => ?_
            refine s1 hE rfl (d_load sc3 hE rfl H 0 rfl rfl) fun a hE => ?_
            obtain ⟨x9521, hc9522, hm⟩ := bnd hm
            refine s2 hE rfl (d_call c88 hE rfl (f88_ok k x9320 x9516.From hc9522 (Rd.own 1 rfl) H)) fun a v w hR hE => ?_
            obtain ⟨hv_, H⟩ := hR
            have hv_ := hv_.symm
            subst hv_
            refine s1 hE rfl (d_move hE rfl) fun a hE => ?_
            refine s1 hE rfl (d_extract hE rfl rfl) fun a hE => ?_
            refine s1 hE rfl (d_extract hE rfl rfl) fun a hE => ?_
            refine s1 hE rfl (d_assign hE rfl) fun a hE => ?_
            refine s1 hE rfl (d_assign hE rfl) fun a hE => ?_
            refine wpList_nil ?_
            refine wp_seq ?_
            refine wp_region_lit ?_
            refine s1 hE rfl (d_move hE rfl) fun a hE => ?_
            refine s1 hE rfl (d_fieldAddr fld60_1 hE rfl) fun a hE => ?_
            refine s1 hE rfl (d_load sc3 hE rfl H 0 rfl rfl) fun a hE => ?_
            obtain ⟨x9525, hc9526, hm⟩ := bnd hm
            refine s2 hE rfl (d_call c88 hE rfl (f88_ok k x9320 x9516.To hc9526 (Rd.own 1 rfl) H)) fun a v w hR hE => ?_
            obtain ⟨hv_, H⟩ := hR
            have hv_ := hv_.symm
            subst hv_
            refine s1 hE rfl (d_move hE rfl) fun a hE => ?_
            refine s1 hE rfl (d_extract hE rfl rfl) fun a hE => ?_
            refine s1 hE rfl (d_extract hE rfl rfl) fun a hE => ?_
            refine s1 hE rfl (d_assign hE rfl) fun a hE => ?_
            refine s1 hE rfl (d_assign hE rfl) fun a hE => ?_
            refine wpList_nil ?_
            obtain ⟨x9537, hx9538, hm⟩ := bnd hm
            obtain ⟨x9539, hx9540, hm⟩ := bnd hm
            obtain ⟨x9541, hx9542, hm⟩ := bnd hm
            obtain ⟨x9543, hx9544, hm⟩ := bnd hm
            obtain ⟨l9545, hl9546, hm⟩ := bnd hm
            refine Dr.region (γ := Unit) (pre := [[], [], [0, 1], [0, 1, 2], [], [], [], [5, 6], [5, 6, 7], [], [5, 6, 7, 8, 9], [5, 6, 7, 8, 9, 10], [], [12], [12, 13], [5, 6, 7, 8, 9, 10, 11, 12, 13, 14], [0, 1, 2, 3, 4, 5, 6, 7, 8, 9, 10, 11, 12, 13, 14, 15], [0, 1, 2, 3, 4, 5, 6, 7, 8, 9, 10, 11, 12, 13, 14, 15, 16]]) (val := [some v9331, some (.int .i64 x9521.1), some (.pointer (some (ad (sb v9331) (so v9331 + (Int.toNat x9521.1) * cV.n)))), some (g9332.getD (x9521.1).toNat nilS), some (.int .i64 x9525.1), some v9331, some (.int .i64 x9521.1), some (.pointer (some (ad (sb v9331) (so v9331 + (Int.toNat x9521.1) * cV.n)))), some (g9332.getD (x9521.1).toNat nilS), some (.int .i64 x9525.1), some (.pointer (some (ad (sb (g9332.getD (x9521.1).toNat nilS)) (so (g9332.getD (x9521.1).toNat nilS) + (Int.toNat x9525.1) * (cInt .u64).n)))), some (.int .u64 x9541), some (.pointer (some (ad q9518 (0 + 2)))), some (.int .i64 x9516.Cost), some (.int .u64 (IntKind.u64.wrap x9516.Cost)), some (.int .u64 (if (IntKind.u64.wrap x9516.Cost) < x9541 then IntKind.u64.wrap x9516.Cost else x9541)), some (.pointer (some (ad (sb (g9332.getD (x9521.1).toNat nilS)) (so (g9332.getD (x9521.1).toNat nilS) + (Int.toNat x9525.1) * (cInt .u64).n)))), none]) (eff := [17]) (mask := [[], [17]]) (keys := [[], []]) (src := [[.base 5], [.base 8], [.op 0, .op 1], [.op 2], [.base 10], [.base 5], [.base 8], [.op 5, .op 6], [.op 7], [.base 10], [.op 8, .op 9], [.op 10], [.base 7], [.op 12], [.op 13], [.op 11, .op 14], [.op 3, .op 4], [.op 15, .op 16]]) (z := z) (ef := fun p g => ([[], []] : List (List (Nat × Value))).getD p []) (hi := fun _ _ => I) (rs := fun p g => ([Bl q9518 60 [(.int .i64 x9516.From), (.int .i64 x9516.To), (.int .i64 x9516.Cost)] :: OwnSl (cInt .i64) v9322 x9320 :: MatO (cInt .u64) v9331 g9332 l9403 :: r, MatO (cInt .u64) v9331 g9332 l9545 :: Bl q9518 60 [(.int .i64 x9516.From), (.int .i64 x9516.To), (.int .i64 x9516.Cost)] :: OwnSl (cInt .i64) v9322 x9320 :: r] : List (List Asn)).getD p []) [(0, 0), (1, 0), (2, 0), (3, 0), (4, 0), (5, 0), (6, 0), (7, 0), (8, 0), (9, 0), (10, 0), (11, 0), (12, 0), (13, 0), (14, 0), (15, 0), (16, 0)] [(0, 17, 1)] [0, 1, 2, 3, 4, 5, 6, 7, 8, 9, 10, 11, 12, 13, 14, 15, 16] 1 mo hE () rfl H (by kernel_rfl) (by kernel_rfl) (fun p g => by rcases p with _ | _ | p <;> rfl) ?_ ?_ (by kernel_rfl) (by kernel_rfl) ?_
            · exact ⟨by intro a w g hE H; exact Dr.is H rfl (Dr.run rfl (d_move hE rfl)),
    by intro a w g hE H; exact Dr.is H rfl (Dr.run rfl (d_move hE rfl)),
    by intro a w g hE H; exact Dr.is H rfl (Dr.run rfl (d_indexMat sl65 hE rfl rfl H 2 rfl hx9538)),
    by intro a w g hE H; exact Dr.is H rfl (Dr.run rfl (d_loadMat sc70 hE rfl H 2 rfl hx9538)),
    by intro a w g hE H; exact Dr.is H rfl (Dr.run rfl (d_move hE rfl)),
    by intro a w g hE H; exact Dr.is H rfl (Dr.run rfl (d_move hE rfl)),
    by intro a w g hE H; exact Dr.is H rfl (Dr.run rfl (d_move hE rfl)),
    by intro a w g hE H; exact Dr.is H rfl (Dr.run rfl (d_indexMat sl65 hE rfl rfl H 2 rfl hx9540)),
    by intro a w g hE H; exact Dr.is H rfl (Dr.run rfl (d_loadMat sc70 hE rfl H 2 rfl hx9540)),
    by intro a w g hE H; exact Dr.is H rfl (Dr.run rfl (d_move hE rfl)),
    by intro a w g hE H; exact Dr.is H rfl (Dr.run rfl (d_indexS sl70 hE rfl rfl H (Rd.mat 2 rfl hx9540) hx9542)),
    by intro a w g hE H; exact Dr.is H rfl (Dr.run rfl (d_loadS1 sc61 hE rfl H (Rd.mat 2 rfl hx9540) hx9542 (fun _ _ e => e))),
    by intro a w g hE H; exact Dr.is H rfl (Dr.run rfl (d_fieldAddr fld60_2 hE rfl)),
    by intro a w g hE H; exact Dr.is H rfl (Dr.run rfl (d_load sc3 hE rfl H 0 rfl rfl)),
    by intro a w g hE H; exact Dr.is H rfl (Dr.run rfl (d_convert hE rfl (cv3_61 _))),
    by intro a w g hE H; exact Dr.is H rfl (Dr.run rfl (d_min2 hE rfl rfl)),
    by intro a w g hE H; exact Dr.is H rfl (Dr.run rfl (d_indexS sl70 hE rfl rfl H (Rd.mat 2 rfl hx9538) hx9544)),
    trivial⟩
            · exact ⟨by intro a w g hE hF H; have H := St.get H 2 rfl; refine (Dr.run rfl (d_storeMat (e' := (if (IntKind.u64.wrap x9516.Cost) < x9541 then IntKind.u64.wrap x9516.Cost else x9541)) sz61 hE rfl rfl rfl (oneAll rfl) rfl hx9538 hx9544 (fun _ => by rfl) hl9546 H)).mono fun v w hR => ?_; have H : St z I w (MatO (cInt .u64) v9331 g9332 l9545 :: Bl q9518 60 [(.int .i64 x9516.From), (.int .i64 x9516.To), (.int .i64 x9516.Cost)] :: OwnSl (cInt .i64) v9322 x9320 :: r) := hR; exact ⟨(), H, Dr.lkSub trivial⟩,
    trivial⟩
            · intro a w g hE H
              have H : St z I w (MatO (cInt .u64) v9331 g9332 l9545 :: Bl q9518 60 [(.int .i64 x9516.From), (.int .i64 x9516.To), (.int .i64 x9516.Cost)] :: OwnSl (cInt .i64) v9322 x9320 :: r) := H
              refine wp_region_lit ?_
              refine s1 hE rfl (d_add hE rfl rfl) fun a hE => ?_
              refine s1 hE rfl (d_move hE rfl) fun a hE => ?_
              refine wpList_nil ?_
              have H := St.get H 2 rfl
              have H := St.del H 2
              exact ⟨k, Nat.lt_succ_self k, l9545, IntKind.i64.wrap (y9404 + 1), hm, hE.sub ⟨rfl, rfl, rfl, rfl, rfl, trivial⟩, H⟩
          · rw [if_neg c9478] at hm
            refine cF hE rfl (decide_eq_false c9478) ?_
            refine wp_exit ?_
            cases hm
            exact ⟨hE.sub ⟨rfl, rfl, trivial⟩, H⟩
      · have H := St.get H 1 rfl
        exact ⟨x9329, 0, hj9476, hE.sub ⟨rfl, rfl, rfl, rfl, rfl, trivial⟩, H⟩
    · rintro a w ⟨hE, H⟩
      refine wp_seq ?_
      refine wp_seq ?_
      refine wp_region_lit ?_
      refine s1 hE rfl (d_move hE rfl) fun a hE => ?_
      refine s1 hE rfl (d_lenS Try.underlying51 hE rfl H (Rd.own 0 rfl)) fun a hE => ?_
      refine s1 hE rfl (d_move hE rfl) fun a hE => ?_
      refine wpList_nil ?_
      obtain ⟨s15558, hj15558, hm⟩ := bnd hm
      refine cut2 (fun a w => Env a 110 [(4, v9322), (5, v9331)] ∧ St z I w (OwnSl (cInt .i64) v9322 x9320 :: MatO (cInt .u64) v9331 g9332 s15558 :: r)) ?_ ?_
      · refine wp_block ?_
        refine loopI (fun k a w => ∃ l12541 : List (List Int), ∃ y12542 : Int, m35_l1 x9320 k l12541 y12542 = some s15558 ∧ Env a 110 [(4, v9322), (5, v9331), (62, (.int .i64 (x9320.length : Int))), (63, (.int .i64 y12542))] ∧ St z I w (OwnSl (cInt .i64) v9322 x9320 :: MatO (cInt .u64) v9331 g9332 l12541 :: r)) ?_ k _ _ ?_
        · rintro k a w ⟨l12541, y12542, hm, hE, H⟩
          cases k with
          | zero => rw [m35_l1] at hm; cases hm
          | succ k =>
            rw [m35_l1] at hm
            refine wp_seq ?_
            refine wp_region_lit ?_
            refine s1 hE rfl (d_lss hE rfl rfl) fun a hE => ?_
            refine wpList_nil ?_
            refine wp_seq ?_
            by_cases c15560 : y12542 < (x9320.length : Int)
            · rw [if_pos c15560] at hm
              refine cT hE rfl (decide_eq_true c15560) ?_
              refine wp_skip ?_
              refine wp_seq ?_
              refine wp_block ?_
              refine wp_seq ?_
              refine wp_region_lit ?_
              refine s1 hE rfl (d_move hE rfl) fun a hE => ?_
              refine s1 hE rfl (d_assign hE rfl) fun a hE => ?_
              refine wpList_nil ?_
              refine wp_seq ?_
              refine wp_region_lit ?_
              refine s1 hE rfl (d_move hE rfl) fun a hE => ?_
              refine s1 hE rfl (d_lenS Try.underlying51 hE rfl H (Rd.own 0 rfl)) fun a hE => ?_
              refine s1 hE rfl (d_move hE rfl) fun a hE => ?_
              refine wpList_nil ?_
              obtain ⟨s18070, hj18070, hm⟩ := bnd hm
              refine cut2 (fun a w => Env a 110 [(4, v9322), (5, v9331), (62, (.int .i64 (x9320.length : Int))), (63, (.int .i64 y12542))] ∧ St z I w (OwnSl (cInt .i64) v9322 x9320 :: MatO (cInt .u64) v9331 g9332 s18070 :: r)) ?_ ?_
              · refine wp_block ?_
                refine loopI (fun k a w => ∃ l17565 : List (List Int), ∃ y17566 : Int, m35_l2 x9320 y12542 k l17565 y17566 = some s18070 ∧ Env a 110 [(4, v9322), (5, v9331), (12, (.int .i64 y12542)), (62, (.int .i64 (x9320.length : Int))), (63, (.int .i64 y12542)), (67, (.int .i64 (x9320.length : Int))), (68, (.int .i64 y17566))] ∧ St z I w (OwnSl (cInt .i64) v9322 x9320 :: MatO (cInt .u64) v9331 g9332 l17565 :: r)) ?_ k _ _ ?_
                · rintro k a w ⟨l17565, y17566, hm, hE, H⟩
                  cases k with
                  | zero => rw [m35_l2] at hm; cases hm
                  | succ k =>
                    rw [m35_l2] at hm
                    refine wp_seq ?_
                    refine wp_region_lit ?_
                    refine s1 hE rfl (d_lss hE rfl rfl) fun a hE => ?_
                    refine wpList_nil ?_
                    refine wp_seq ?_
                    by_cases c18072 : y17566 < (x9320.length : Int)
                    · rw [if_pos c18072] at hm
                      refine cT hE rfl (decide_eq_true c18072) ?_
                      refine wp_skip ?_
                      refine wp_seq ?_
                      refine wp_block ?_
                      refine wp_seq ?_
                      refine wp_region_lit ?_
                      refine s1 hE rfl (d_move hE rfl) fun a hE => ?_
                      refine s1 hE rfl (d_assign hE rfl) fun a hE => ?_
                      refine wpList_nil ?_
                      refine wp_seq ?_
                      refine wp_region_lit ?_
                      refine s1 hE rfl (d_move hE rfl) fun a hE => ?_
                      refine s1 hE rfl (d_lenS Try.underlying51 hE rfl H (Rd.own 0 rfl)) fun a hE => ?_
                      refine s1 hE rfl (d_move hE rfl) fun a hE => ?_
                      refine wpList_nil ?_
                      obtain ⟨s18490, hj18490, hm⟩ := bnd hm
                      refine cut2 (fun a w => Env a 110 [(4, v9322), (5, v9331), (12, (.int .i64 y12542)), (62, (.int .i64 (x9320.length : Int))), (63, (.int .i64 y12542)), (67, (.int .i64 (x9320.length : Int))), (68, (.int .i64 y17566))] ∧ St z I w (OwnSl (cInt .i64) v9322 x9320 :: MatO (cInt .u64) v9331 g9332 s18490 :: r)) ?_ ?_
                      · refine wp_block ?_
                        refine loopI (fun k a w => ∃ l18405 : List (List Int), ∃ y18406 : Int, m35_l3 x9320 y12542 y17566 k l18405 y18406 = some s18490 ∧ Env a 110 [(4, v9322), (5, v9331), (12, (.int .i64 y12542)), (13, (.int .i64 y17566)), (62, (.int .i64 (x9320.length : Int))), (63, (.int .i64 y12542)), (67, (.int .i64 (x9320.length : Int))), (68, (.int .i64 y17566)), (72, (.int .i64 (x9320.length : Int))), (73, (.int .i64 y18406))] ∧ St z I w (OwnSl (cInt .i64) v9322 x9320 :: MatO (cInt .u64) v9331 g9332 l18405 :: r)) ?_ k _ _ ?_
                        · rintro k a w ⟨l18405, y18406, hm, hE, H⟩
                          cases k with
                          | zero => rw [m35_l3] at hm; cases hm
                          | succ k =>
                            rw [m35_l3] at hm
                            refine wp_seq ?_
                            refine wp_region_lit ?_
                            refine s1 hE rfl (d_lss hE rfl rfl) fun a hE => ?_
                            refine wpList_nil ?_
                            refine wp_seq ?_
                            by_cases c18492 : y18406 < (x9320.length : Int)
                            · rw [if_pos c18492] at hm
                              refine cT hE rfl (decide_eq_true c18492) ?_
                              refine wp_skip ?_
                              refine wp_seq ?_
                              refine wp_block ?_
                              refine wp_seq ?_
                              refine wp_region_lit ?_
                              refine s1 hE rfl (d_move hE rfl) fun a hE => ?_
                              refine s1 hE rfl (d_assign hE rfl) fun a hE => ?_
                              refine wpList_nil ?_
                              obtain ⟨x18553, hx18554, hm⟩ := bnd hm
                              obtain ⟨x18555, hx18556, hm⟩ := bnd hm
                              obtain ⟨x18557, hx18558, hm⟩ := bnd hm
                              obtain ⟨x18559, hx18560, hm⟩ := bnd hm
                              obtain ⟨x18561, hx18562, hm⟩ := bnd hm
                              obtain ⟨x18563, hx18564, hm⟩ := bnd hm
                              obtain ⟨x18565, hx18566, hm⟩ := bnd hm
                              obtain ⟨x18567, hc18568, hm⟩ := bnd hm
                              obtain ⟨x18569, hx18570, hm⟩ := bnd hm
                              obtain ⟨l18571, hl18572, hm⟩ := bnd hm
                              refine Dr.region (γ := Unit) (pre := [[], [], [0, 1], [0, 1, 2], [], [], [], [5, 6], [5, 6, 7], [], [5, 6, 7, 8, 9], [5, 6, 7, 8, 9, 10], [], [], [12, 13], [12, 13, 14], [], [12, 13, 14, 15, 16], [12, 13, 14, 15, 16, 17], [], [], [19, 20], [19, 20, 21], [], [19, 20, 21, 22, 23], [19, 20, 21, 22, 23, 24], [12, 13, 14, 15, 16, 17, 18, 19, 20, 21, 22, 23, 24, 25], [5, 6, 7, 8, 9, 10, 11, 12, 13, 14, 15, 16, 17, 18, 19, 20, 21, 22, 23, 24, 25, 26], [0, 1, 2, 3, 4, 5, 6, 7, 8, 9, 10, 11, 12, 13, 14, 15, 16, 17, 18, 19, 20, 21, 22, 23, 24, 25, 26, 27], [0, 1, 2, 3, 4, 5, 6, 7, 8, 9, 10, 11, 12, 13, 14, 15, 16, 17, 18, 19, 20, 21, 22, 23, 24, 25, 26, 27, 28]]) (val := [some v9331, some (.int .i64 y17566), some (.pointer (some (ad (sb v9331) (so v9331 + (Int.toNat y17566) * cV.n)))), some (g9332.getD (y17566).toNat nilS), some (.int .i64 y18406), some v9331, some (.int .i64 y17566), some (.pointer (some (ad (sb v9331) (so v9331 + (Int.toNat y17566) * cV.n)))), some (g9332.getD (y17566).toNat nilS), some (.int .i64 y18406), some (.pointer (some (ad (sb (g9332.getD (y17566).toNat nilS)) (so (g9332.getD (y17566).toNat nilS) + (Int.toNat y18406) * (cInt .u64).n)))), some (.int .u64 x18557), some v9331, some (.int .i64 y17566), some (.pointer (some (ad (sb v9331) (so v9331 + (Int.toNat y17566) * cV.n)))), some (g9332.getD (y17566).toNat nilS), some (.int .i64 y12542), some (.pointer (some (ad (sb (g9332.getD (y17566).toNat nilS)) (so (g9332.getD (y17566).toNat nilS) + (Int.toNat y12542) * (cInt .u64).n)))), some (.int .u64 x18561), some v9331, some (.int .i64 y12542), some (.pointer (some (ad (sb v9331) (so v9331 + (Int.toNat y12542) * cV.n)))), some (g9332.getD (y12542).toNat nilS), some (.int .i64 y18406), some (.pointer (some (ad (sb (g9332.getD (y12542).toNat nilS)) (so (g9332.getD (y12542).toNat nilS) + (Int.toNat y18406) * (cInt .u64).n)))), some (.int .u64 x18565), some (.int .u64 x18567), some (.int .u64 (if x18567 < x18557 then x18567 else x18557)), some (.pointer (some (ad (sb (g9332.getD (y17566).toNat nilS)) (so (g9332.getD (y17566).toNat nilS) + (Int.toNat y18406) * (cInt .u64).n)))), none]) (eff := [29]) (mask := [[], [29]]) (keys := [[], []]) (src := [[.base 5], [.base 13], [.op 0, .op 1], [.op 2], [.base 14], [.base 5], [.base 13], [.op 5, .op 6], [.op 7], [.base 14], [.op 8, .op 9], [.op 10], [.base 5], [.base 13], [.op 12, .op 13], [.op 14], [.base 12], [.op 15, .op 16], [.op 17], [.base 5], [.base 12], [.op 19, .op 20], [.op 21], [.base 14], [.op 22, .op 23], [.op 24], [.op 18, .op 25], [.op 11, .op 26], [.op 3, .op 4], [.op 27, .op 28]]) (z := z) (ef := fun p g => ([[], []] : List (List (Nat × Value))).getD p []) (hi := fun _ _ => I) (rs := fun p g => ([OwnSl (cInt .i64) v9322 x9320 :: MatO (cInt .u64) v9331 g9332 l18405 :: r, MatO (cInt .u64) v9331 g9332 l18571 :: OwnSl (cInt .i64) v9322 x9320 :: r] : List (List Asn)).getD p []) [(0, 0), (1, 0), (2, 0), (3, 0), (4, 0), (5, 0), (6, 0), (7, 0), (8, 0), (9, 0), (10, 0), (11, 0), (12, 0), (13, 0), (14, 0), (15, 0), (16, 0), (17, 0), (18, 0), (19, 0), (20, 0), (21, 0), (22, 0), (23, 0), (24, 0), (25, 0), (26, 0), (27, 0), (28, 0)] [(0, 29, 1)] [0, 1, 2, 3, 4, 5, 6, 7, 8, 9, 10, 11, 12, 13, 14, 15, 16, 17, 18, 19, 20, 21, 22, 23, 24, 25, 26, 27, 28] 1 mo hE () rfl H (by kernel_rfl) (by kernel_rfl) (fun p g => by rcases p with _ | _ | p <;> rfl) ?_ ?_ (by kernel_rfl) (by kernel_rfl) ?_
                              · exact ⟨by intro a w g hE H; exact Dr.is H rfl (Dr.run rfl (d_move hE rfl)),
    by intro a w g hE H; exact Dr.is H rfl (Dr.run rfl (d_move hE rfl)),
    by intro a w g hE H; exact Dr.is H rfl (Dr.run rfl (d_indexMat sl65 hE rfl rfl H 1 rfl hx18554)),
    by intro a w g hE H; exact Dr.is H rfl (Dr.run rfl (d_loadMat sc70 hE rfl H 1 rfl hx18554)),
    by intro a w g hE H; exact Dr.is H rfl (Dr.run rfl (d_move hE rfl)),
    by intro a w g hE H; exact Dr.is H rfl (Dr.run rfl (d_move hE rfl)),
    by intro a w g hE H; exact Dr.is H rfl (Dr.run rfl (d_move hE rfl)),
    by intro a w g hE H; exact Dr.is H rfl (Dr.run rfl (d_indexMat sl65 hE rfl rfl H 1 rfl hx18556)),
    by intro a w g hE H; exact Dr.is H rfl (Dr.run rfl (d_loadMat sc70 hE rfl H 1 rfl hx18556)),
    by intro a w g hE H; exact Dr.is H rfl (Dr.run rfl (d_move hE rfl)),
    by intro a w g hE H; exact Dr.is H rfl (Dr.run rfl (d_indexS sl70 hE rfl rfl H (Rd.mat 1 rfl hx18556) hx18558)),
    by intro a w g hE H; exact Dr.is H rfl (Dr.run rfl (d_loadS1 sc61 hE rfl H (Rd.mat 1 rfl hx18556) hx18558 (fun _ _ e => e))),
    by intro a w g hE H; exact Dr.is H rfl (Dr.run rfl (d_move hE rfl)),
    by intro a w g hE H; exact Dr.is H rfl (Dr.run rfl (d_move hE rfl)),
    by intro a w g hE H; exact Dr.is H rfl (Dr.run rfl (d_indexMat sl65 hE rfl rfl H 1 rfl hx18560)),
    by intro a w g hE H; exact Dr.is H rfl (Dr.run rfl (d_loadMat sc70 hE rfl H 1 rfl hx18560)),
    by intro a w g hE H; exact Dr.is H rfl (Dr.run rfl (d_move hE rfl)),
    by intro a w g hE H; exact Dr.is H rfl (Dr.run rfl (d_indexS sl70 hE rfl rfl H (Rd.mat 1 rfl hx18560) hx18562)),
    by intro a w g hE H; exact Dr.is H rfl (Dr.run rfl (d_loadS1 sc61 hE rfl H (Rd.mat 1 rfl hx18560) hx18562 (fun _ _ e => e))),
    by intro a w g hE H; exact Dr.is H rfl (Dr.run rfl (d_move hE rfl)),
    by intro a w g hE H; exact Dr.is H rfl (Dr.run rfl (d_move hE rfl)),
    by intro a w g hE H; exact Dr.is H rfl (Dr.run rfl (d_indexMat sl65 hE rfl rfl H 1 rfl hx18564)),
    by intro a w g hE H; exact Dr.is H rfl (Dr.run rfl (d_loadMat sc70 hE rfl H 1 rfl hx18564)),
    by intro a w g hE H; exact Dr.is H rfl (Dr.run rfl (d_move hE rfl)),
    by intro a w g hE H; exact Dr.is H rfl (Dr.run rfl (d_indexS sl70 hE rfl rfl H (Rd.mat 1 rfl hx18564) hx18566)),
    by intro a w g hE H; exact Dr.is H rfl (Dr.run rfl (d_loadS1 sc61 hE rfl H (Rd.mat 1 rfl hx18564) hx18566 (fun _ _ e => e))),
    by intro a w g hE H; exact (Dr.run rfl (d_call c89 hE rfl (f89_ok x18561 x18565 hc18568  H))).mono fun v w' hR => by obtain ⟨rfl, H⟩ := hR; exact ⟨rfl, H⟩,
    by intro a w g hE H; exact Dr.is H rfl (Dr.run rfl (d_min2 hE rfl rfl)),
    by intro a w g hE H; exact Dr.is H rfl (Dr.run rfl (d_indexS sl70 hE rfl rfl H (Rd.mat 1 rfl hx18554) hx18570)),
    trivial⟩
                              · exact ⟨by intro a w g hE hF H; have H := St.get H 1 rfl; refine (Dr.run rfl (d_storeMat (e' := (if x18567 < x18557 then x18567 else x18557)) sz61 hE rfl rfl rfl (oneAll rfl) rfl hx18554 hx18570 (fun _ => by rfl) hl18572 H)).mono fun v w hR => ?_; have H : St z I w (MatO (cInt .u64) v9331 g9332 l18571 :: OwnSl (cInt .i64) v9322 x9320 :: r) := hR; exact ⟨(), H, Dr.lkSub trivial⟩,
    trivial⟩
                              · intro a w g hE H
                                have H : St z I w (MatO (cInt .u64) v9331 g9332 l18571 :: OwnSl (cInt .i64) v9322 x9320 :: r) := H
                                refine wp_region_lit ?_
                                refine s1 hE rfl (d_add hE rfl rfl) fun a hE => ?_
                                refine s1 hE rfl (d_move hE rfl) fun a hE => ?_
                                refine wpList_nil ?_
                                have H := St.get H 1 rfl
                                exact ⟨k, Nat.lt_succ_self k, l18571, IntKind.i64.wrap (y18406 + 1), hm, hE.sub ⟨rfl, rfl, rfl, rfl, rfl, rfl, rfl, rfl, rfl, rfl, trivial⟩, H⟩
                            · rw [if_neg c18492] at hm
                              refine cF hE rfl (decide_eq_false c18492) ?_
                              refine wp_exit ?_
                              cases hm
                              exact ⟨hE.sub ⟨rfl, rfl, rfl, rfl, rfl, rfl, rfl, trivial⟩, H⟩
                        · exact ⟨l17565, 0, hj18490, hE.sub ⟨rfl, rfl, rfl, rfl, rfl, rfl, rfl, rfl, rfl, rfl, trivial⟩, H⟩
                      · rintro a w ⟨hE, H⟩
                        refine wp_region_lit ?_
                        refine s1 hE rfl (d_add hE rfl rfl) fun a hE => ?_
                        refine s1 hE rfl (d_move hE rfl) fun a hE => ?_
                        refine wpList_nil ?_
                        exact ⟨k, Nat.lt_succ_self k, s18490, IntKind.i64.wrap (y17566 + 1), hm, hE.sub ⟨rfl, rfl, rfl, rfl, rfl, rfl, rfl, trivial⟩, H⟩
                    · rw [if_neg c18072] at hm
                      refine cF hE rfl (decide_eq_false c18072) ?_
                      refine wp_exit ?_
                      cases hm
                      exact ⟨hE.sub ⟨rfl, rfl, rfl, rfl, trivial⟩, H⟩
                · exact ⟨l12541, 0, hj18070, hE.sub ⟨rfl, rfl, rfl, rfl, rfl, rfl, rfl, trivial⟩, H⟩
              · rintro a w ⟨hE, H⟩
                refine wp_region_lit ?_
                refine s1 hE rfl (d_add hE rfl rfl) fun a hE => ?_
                refine s1 hE rfl (d_move hE rfl) fun a hE => ?_
                refine wpList_nil ?_
                exact ⟨k, Nat.lt_succ_self k, s18070, IntKind.i64.wrap (y12542 + 1), hm, hE.sub ⟨rfl, rfl, rfl, rfl, trivial⟩, H⟩
            · rw [if_neg c15560] at hm
              refine cF hE rfl (decide_eq_false c15560) ?_
              refine wp_exit ?_
              cases hm
              exact ⟨hE.sub ⟨rfl, rfl, trivial⟩, H⟩
        · exact ⟨s9476, 0, hj15558, hE.sub ⟨rfl, rfl, rfl, rfl, trivial⟩, H⟩
      · rintro a w ⟨hE, H⟩
        refine wp_seq ?_
        refine wp_region_lit ?_
        refine s1 hE rfl (d_move hE rfl) fun a hE => ?_
        refine s1 hE rfl (d_move hE rfl) fun a hE => ?_
        refine s1 hE rfl (d_assign hE rfl) fun a hE => ?_
        refine s1 hE rfl (d_assign hE rfl) fun a hE => ?_
        refine wpList_nil ?_
        refine wp_ret ?_
        cases hm
        exact ret2 rfl hE rfl rfl ⟨_, rfl, v9322, v9331, g9332, rfl, H⟩
def m144_l0 (a0 : List Int) : Nat → Int → Bool → Int → Option (Bool × Int)
  | 0, _, _, _ => none
  | k + 1, y159, b160, y161 => if y161 < (a0.length : Int) then (Option.bind (α := Int × Bool) (Option.bind (rdx a0 y161) fun x207 => Option.bind (m146 ) fun x211 => if x207 = x211 then (some (y159, false)) else (some ((if x207 > y159 then x207 else y159), b160))) fun s204 => m144_l0 a0 k s204.1 s204.2 (IntKind.i64.wrap (y161 + 1))) else (some (b160, y159))
def m144 (k : Nat) (a0 : List Int) : Option (Int × Bool) := Option.bind (m144_l0 a0 k 0 true 0) fun s189 => some (s189.2, s189.1)
set_option maxRecDepth 20000 in
set_option maxHeartbeats 4000000 in
theorem f144_ok (k : Nat) {u0 : Value} (a0 : List Int) {res : Int × Bool} (hm : m144 k a0 = some res) {z w : World} {I : Hp} {r : List Asn} (hr0 : Rd (cInt .u64) I r u0 a0) (H : St z I w (r)) :
    Calls Try.prog 144 #[u0] w (Rt fun v w' => v = (.tuple #[(.int .u64 res.1), (.bool res.2)]) ∧ St z I w' (r)) := by
  unfold m144 at hm
  refine enter (args := [u0]) Try.func144 rfl Try.ntmps144 rfl fun a hE => ?_
  refine wp_seq ?_
  refine wp_region_lit ?_
  refine s1 hE rfl (d_assign hE rfl) fun a hE => ?_
  refine s1 hE rfl (d_assign hE rfl) fun a hE => ?_
  refine wpList_nil ?_
  refine wp_seq ?_
  refine wp_region_lit ?_
  refine s1 hE rfl (d_assign hE rfl) fun a hE => ?_
  refine s1 hE rfl (d_assign hE rfl) fun a hE => ?_
  refine wpList_nil ?_
  refine wp_seq ?_
  refine wp_seq ?_
  refine wp_region_lit ?_
  refine s1 hE rfl (d_move hE rfl) fun a hE => ?_
  refine s1 hE rfl (d_lenS Try.underlying70 hE rfl H hr0) fun a hE => ?_
  refine s1 hE rfl (d_move hE rfl) fun a hE => ?_
  refine wpList_nil ?_
  obtain ⟨s189, hj189, hm⟩ := bnd hm
  refine cut2 (fun a w => Env a 23 [(4, (.int .u64 s189.2)), (5, (.bool s189.1))] ∧ St z I w (r)) ?_ ?_
  · refine wp_block ?_
    refine loopI (fun k a w => ∃ y159 : Int, ∃ b160 : Bool, ∃ y161 : Int, m144_l0 a0 k y159 b160 y161 = some s189 ∧ Env a 23 [(4, (.int .u64 y159)), (5, (.bool b160)), (8, u0), (9, (.int .i64 (a0.length : Int))), (10, (.int .i64 y161))] ∧ St z I w (r)) ?_ k _ _ ?_
    · rintro k a w ⟨y159, b160, y161, hm, hE, H⟩
      cases k with
      | zero => rw [m144_l0] at hm; cases hm
      | succ k =>
        rw [m144_l0] at hm
        refine wp_seq ?_
        refine wp_region_lit ?_
        refine s1 hE rfl (d_lss hE rfl rfl) fun a hE => ?_
        refine wpList_nil ?_
        refine wp_seq ?_
        by_cases c191 : y161 < (a0.length : Int)
        · rw [if_pos c191] at hm
          refine cT hE rfl (decide_eq_true c191) ?_
          refine wp_skip ?_
          refine wp_seq ?_
          obtain ⟨s204, hj204, hm⟩ := bnd hm
          refine cut2 (fun a w => Env a 23 [(4, (.int .u64 s204.1)), (5, (.bool s204.2)), (8, u0), (9, (.int .i64 (a0.length : Int))), (10, (.int .i64 y161))] ∧ St z I w (r)) ?_ ?_
          · have hm := hj204
            refine wp_block ?_
            refine wp_seq ?_
            refine wp_region_lit ?_
            obtain ⟨x207, hx208, hm⟩ := bnd hm
            refine s1 hE rfl (d_indexS sl70 hE rfl rfl H hr0 hx208) fun a hE => ?_
            refine s1 hE rfl (d_loadS1 sc61 hE rfl H hr0 hx208 (fun _ _ e => e)) fun a hE => ?_
            refine s1 hE rfl (d_assign hE rfl) fun a hE => ?_
            refine wpList_nil ?_
            refine wp_seq ?_
            refine wp_seq ?_
            refine wp_region_lit ?_
            refine s1 hE rfl (d_move hE rfl) fun a hE => ?_
            obtain ⟨x211, hc212, hm⟩ := bnd hm
            refine s2 hE rfl (d_call c146 hE rfl (f146_ok  hc212  H)) fun a v w hR hE => ?_
            obtain ⟨hv_, H⟩ := hR
            have hv_ := hv_.symm
            subst hv_
            refine s1 hE rfl (d_eql hE rfl rfl) fun a hE => ?_
            refine wpList_nil ?_
            by_cases c214 : x207 = x211
            · rw [if_pos c214] at hm
              refine cT hE rfl (decide_eq_true c214) ?_
              refine wp_seq ?_
              refine wp_region_lit ?_
              refine s1 hE rfl (d_assign hE rfl) fun a hE => ?_
              refine wpList_nil ?_
              refine wp_exit ?_
              cases hm
              exact ⟨hE.sub ⟨rfl, rfl, rfl, rfl, rfl, trivial⟩, H⟩
            · rw [if_neg c214] at hm
              refine cF hE rfl (decide_eq_false c214) ?_
              refine wp_skip ?_
              refine wp_region_lit ?_
              refine s1 hE rfl (d_move hE rfl) fun a hE => ?_
              refine s1 hE rfl (d_move hE rfl) fun a hE => ?_
              refine s1 hE rfl (d_max2 hE rfl rfl) fun a hE => ?_
              refine s1 hE rfl (d_assign hE rfl) fun a hE => ?_
              refine wpList_nil ?_
              cases hm
              exact ⟨hE.sub ⟨rfl, rfl, rfl, rfl, rfl, trivial⟩, H⟩
          · rintro a w ⟨hE, H⟩
            refine wp_region_lit ?_
            refine s1 hE rfl (d_add hE rfl rfl) fun a hE => ?_
            refine s1 hE rfl (d_move hE rfl) fun a hE => ?_
            refine wpList_nil ?_
            exact ⟨k, Nat.lt_succ_self k, s204.1, s204.2, IntKind.i64.wrap (y161 + 1), hm, hE.sub ⟨rfl, rfl, rfl, rfl, rfl, trivial⟩, H⟩
        · rw [if_neg c191] at hm
          refine cF hE rfl (decide_eq_false c191) ?_
          refine wp_exit ?_
          cases hm
          exact ⟨hE.sub ⟨rfl, rfl, trivial⟩, H⟩
    · exact ⟨0, true, 0, hj189, hE.sub ⟨rfl, rfl, rfl, rfl, rfl, trivial⟩, H⟩
  · rintro a w ⟨hE, H⟩
    refine wp_seq ?_
    refine wp_region_lit ?_
    refine s1 hE rfl (d_move hE rfl) fun a hE => ?_
    refine s1 hE rfl (d_move hE rfl) fun a hE => ?_
    refine s1 hE rfl (d_assign hE rfl) fun a hE => ?_
    refine s1 hE rfl (d_assign hE rfl) fun a hE => ?_
    refine wpList_nil ?_
    refine wp_ret ?_
    cases hm
    exact ret2 rfl hE rfl rfl ⟨_, rfl, rfl, H⟩
def m85_l0 (x125 : (List Int) × (List (List Int))) : Nat → Int → Int → Option Int
  | 0, _, _ => none
  | k + 1, y148, y149 => if y149 < (x125.2.length : Int) then (Option.bind (rdx x125.2 y149) fun x182 => Option.bind (m144 k x182) fun x186 => m85_l0 x125 k (if x186.1 > y148 then x186.1 else y148) (IntKind.i64.wrap (y149 + 1))) else (some y148)
def m85 (k : Nat) (a0 : List S_api_Arc) : Option Int := Option.bind (m35 k a0) fun x125 => Option.bind (m85_l0 x125 k 0 0) fun s169 => some s169
set_option maxRecDepth 20000 in
set_option maxHeartbeats 4000000 in
theorem f85_ok (k : Nat) {u0 : Value} (a0 : List S_api_Arc) {res : Int} (hm : m85 k a0 = some res) {z w : World} {I : Hp} {r : List Asn} (hr0 : Rd c_api_Arc I r u0 a0) (hz : z.drawn = 0) (H : St z I w (r)) :
    Calls Try.prog 85 #[u0] w (Rt fun v w' => v = (.int .u64 res) ∧ St z I w' (r)) := by
  unfold m85 at hm
  refine enter (args := [u0]) Try.func85 rfl Try.ntmps85 rfl fun a hE => ?_
  refine wp_seq ?_
  refine wp_region_lit ?_
  refine s1 hE rfl (d_assign hE rfl) fun a hE => ?_
  refine wpList_nil ?_
  refine wp_seq ?_
  refine wp_region_lit ?_
  refine s1 hE rfl (d_move hE rfl) fun a hE => ?_
  obtain ⟨x125, hc126, hm⟩ := bnd hm
  refine s2 hE rfl (d_call c35 hE rfl (f35_ok k a0 hc126 hr0 hz H)) fun a v w hR hE => ?_
  obtain ⟨v127, v128, g129, hv_, H⟩ := hR
  have hv_ := hv_.symm
  subst hv_
  refine s1 hE rfl (d_move hE rfl) fun a hE => ?_
  refine s1 hE rfl (d_extract hE rfl rfl) fun a hE => ?_
  refine s1 hE rfl (d_extract hE rfl rfl) fun a hE => ?_
  refine s1 hE rfl (d_assign hE rfl) fun a hE => ?_
  refine s1 hE rfl (d_assign hE rfl) fun a hE => ?_
  refine wpList_nil ?_
  refine wp_seq ?_
  refine wp_region_lit ?_
  refine s1 hE rfl (d_assign hE rfl) fun a hE => ?_
  refine wpList_nil ?_
  refine wp_seq ?_
  refine wp_seq ?_
  refine wp_region_lit ?_
  refine s1 hE rfl (d_move hE rfl) fun a hE => ?_
  refine s1 hE rfl (d_lenMat Try.underlying65 hE rfl H 1 rfl) fun a hE => ?_
  refine s1 hE rfl (d_move hE rfl) fun a hE => ?_
  refine wpList_nil ?_
  obtain ⟨s169, hj169, hm⟩ := bnd hm
  refine cut2 (fun a w => Env a 31 [(5, (.int .u64 s169))] ∧ St z I w (r)) ?_ ?_
  · refine wp_block ?_
    refine loopI (fun k a w => ∃ y148 : Int, ∃ y149 : Int, m85_l0 x125 k y148 y149 = some s169 ∧ Env a 31 [(5, (.int .u64 y148)), (15, v128), (16, (.int .i64 (x125.2.length : Int))), (17, (.int .i64 y149))] ∧ St z I w (MatO (cInt .u64) v128 g129 x125.2 :: r)) ?_ k _ _ ?_
    · rintro k a w ⟨y148, y149, hm, hE, H⟩
      cases k with
      | zero => rw [m85_l0] at hm; cases hm
      | succ k =>
        rw [m85_l0] at hm
        refine wp_seq ?_
        refine wp_region_lit ?_
        refine s1 hE rfl (d_lss hE rfl rfl) fun a hE => ?_
        refine wpList_nil ?_
        refine wp_seq ?_
        by_cases c171 : y149 < (x125.2.length : Int)
        · rw [if_pos c171] at hm
          refine cT hE rfl (decide_eq_true c171) ?_
          refine wp_skip ?_
          refine wp_seq ?_
          refine wp_block ?_
          refine wp_seq ?_
          refine wp_region_lit ?_
          obtain ⟨x182, hx183, hm⟩ := bnd hm
          refine s1 hE rfl (d_indexMat sl65 hE rfl rfl H 0 rfl hx183) fun a hE => ?_
          refine s1 hE rfl (d_loadMat sc70 hE rfl H 0 rfl hx183) fun a hE => ?_
          refine s1 hE rfl (d_assign hE rfl) fun a hE => ?_
          refine wpList_nil ?_
          refine wp_seq ?_
          refine wp_region_lit ?_
          refine s1 hE rfl (d_move hE rfl) fun a hE => ?_
          obtain ⟨x186, hc187, hm⟩ := bnd hm
          refine s2 hE rfl (d_call c144 hE rfl (f144_ok k x182 hc187 (Rd.mat 0 rfl hx183) H)) fun a v w hR hE => ?_
          obtain ⟨hv_, H⟩ := hR
          have hv_ := hv_.symm
          subst hv_
          refine s1 hE rfl (d_move hE rfl) fun a hE => ?_
          refine s1 hE rfl (d_extract hE rfl rfl) fun a hE => ?_
          refine s1 hE rfl (d_extract hE rfl rfl) fun a hE => ?_
          refine s1 hE rfl (d_assign hE rfl) fun a hE => ?_
          refine s1 hE rfl (d_assign hE rfl) fun a hE => ?_
          refine wpList_nil ?_
          refine wp_region_lit ?_
          refine s1 hE rfl (d_move hE rfl) fun a hE => ?_
          refine s1 hE rfl (d_move hE rfl) fun a hE => ?_
          refine s1 hE rfl (d_max2 hE rfl rfl) fun a hE => ?_
          refine s1 hE rfl (d_assign hE rfl) fun a hE => ?_
          refine wpList_nil ?_
          refine wp_region_lit ?_
          refine s1 hE rfl (d_add hE rfl rfl) fun a hE => ?_
          refine s1 hE rfl (d_move hE rfl) fun a hE => ?_
          refine wpList_nil ?_
          exact ⟨k, Nat.lt_succ_self k, (if x186.1 > y148 then x186.1 else y148), IntKind.i64.wrap (y149 + 1), hm, hE.sub ⟨rfl, rfl, rfl, rfl, trivial⟩, H⟩
        · rw [if_neg c171] at hm
          refine cF hE rfl (decide_eq_false c171) ?_
          refine wp_exit ?_
          cases hm
          have H := St.del H 0
          exact ⟨hE.sub ⟨rfl, trivial⟩, H⟩
    · have H := St.get H 1 rfl
      have H := St.del H 1
      exact ⟨0, 0, hj169, hE.sub ⟨rfl, rfl, rfl, rfl, trivial⟩, H⟩
  · rintro a w ⟨hE, H⟩
    refine wp_seq ?_
    refine wp_region_lit ?_
    refine s1 hE rfl (d_move hE rfl) fun a hE => ?_
    refine s1 hE rfl (d_assign hE rfl) fun a hE => ?_
    refine wpList_nil ?_
    refine wp_ret ?_
    cases hm
    exact ret1 rfl hE rfl ⟨_, rfl, rfl, H⟩
def m83_l0 (x205 : (List Int) × (List (List Int))) : Nat → Int → Int → Int → Option Int
  | 0, _, _, _ => none
  | k + 1, y252, y253, y254 => if y254 < (x205.2.length : Int) then (Option.bind (rdx x205.2 y254) fun x323 => Option.bind (m144 k x323) fun x327 => Option.bind (α := Bool) (if x327.2 = true then (if y253 < 0 then (some true) else (some (decide (x327.1 < y252)))) else (some false)) fun s333 => Option.bind (α := Int × Int) (if s333 = true then (some (x327.1, y254)) else (some (y252, y253))) fun s339 => m83_l0 x205 k s339.1 s339.2 (IntKind.i64.wrap (y254 + 1))) else (some y253)
def m83 (k : Nat) (a0 : List S_api_Arc) : Option (Int × Bool) := Option.bind (m35 k a0) fun x205 => Option.bind (m83_l0 x205 k 0 (-1) 0) fun s298 => if s298 < 0 then (some (0, false)) else (Option.bind (rdx x205.1 s298) fun x345 => some (x345, true))
set_option maxRecDepth 20000 in
set_option maxHeartbeats 4000000 in
theorem f83_ok (k : Nat) {u0 : Value} (a0 : List S_api_Arc) {res : Int × Bool} (hm : m83 k a0 = some res) {z w : World} {I : Hp} {r : List Asn} (hr0 : Rd c_api_Arc I r u0 a0) (hz : z.drawn = 0) (H : St z I w (r)) :
    Calls Try.prog 83 #[u0] w (Rt fun v w' => v = (.tuple #[(.int .i64 res.1), (.bool res.2)]) ∧ St z I w' (r)) := by
  unfold m83 at hm
  refine enter (args := [u0]) Try.func83 rfl Try.ntmps83 rfl fun a hE => ?_
  refine wp_seq ?_
  refine wp_region_lit ?_
  refine s1 hE rfl (d_assign hE rfl) fun a hE => ?_
  refine s1 hE rfl (d_assign hE rfl) fun a hE => ?_
  refine wpList_nil ?_
  refine wp_seq ?_
  refine wp_region_lit ?_
  refine s1 hE rfl (d_move hE rfl) fun a hE => ?_
  obtain ⟨x205, hc206, hm⟩ := bnd hm
  refine s2 hE rfl (d_call c35 hE rfl (f35_ok k a0 hc206 hr0 hz H)) fun a v w hR hE => ?_
  obtain ⟨v207, v208, g209, hv_, H⟩ := hR
  have hv_ := hv_.symm
  subst hv_
  refine s1 hE rfl (d_move hE rfl) fun a hE => ?_
  refine s1 hE rfl (d_extract hE rfl rfl) fun a hE => ?_
  refine s1 hE rfl (d_extract hE rfl rfl) fun a hE => ?_
  refine s1 hE rfl (d_assign hE rfl) fun a hE => ?_
  refine s1 hE rfl (d_assign hE rfl) fun a hE => ?_
  refine wpList_nil ?_
  refine wp_seq ?_
  refine wp_region_lit ?_
  refine s1 hE rfl (d_assign hE rfl) fun a hE => ?_
  refine s1 hE rfl (d_assign hE rfl) fun a hE => ?_
  refine wpList_nil ?_
  refine wp_seq ?_
  refine wp_seq ?_
  refine wp_region_lit ?_
  refine s1 hE rfl (d_move hE rfl) fun a hE => ?_
  refine s1 hE rfl (d_lenMat Try.underlying65 hE rfl H 1 rfl) fun a hE => ?_
  refine s1 hE rfl (d_move hE rfl) fun a hE => ?_
  refine wpList_nil ?_
  obtain ⟨s298, hj298, hm⟩ := bnd hm
  refine cut2 (fun a w => Env a 48 [(4, v207), (7, (.int .i64 s298))] ∧ St z I w (OwnSl (cInt .i64) v207 x205.1 :: r)) ?_ ?_
  · refine wp_block ?_
    refine loopI (fun k a w => ∃ y252 : Int, ∃ y253 : Int, ∃ y254 : Int, m83_l0 x205 k y252 y253 y254 = some s298 ∧ Env a 48 [(4, v207), (6, (.int .u64 y252)), (7, (.int .i64 y253)), (17, v208), (18, (.int .i64 (x205.2.length : Int))), (19, (.int .i64 y254))] ∧ St z I w (OwnSl (cInt .i64) v207 x205.1 :: MatO (cInt .u64) v208 g209 x205.2 :: r)) ?_ k _ _ ?_
    · rintro k a w ⟨y252, y253, y254, hm, hE, H⟩
      cases k with
      | zero => rw [m83_l0] at hm; cases hm
      | succ k =>
        rw [m83_l0] at hm
        refine wp_seq ?_
        refine wp_region_lit ?_
        refine s1 hE rfl (d_lss hE rfl rfl) fun a hE => ?_
        refine wpList_nil ?_
        refine wp_seq ?_
        by_cases c300 : y254 < (x205.2.length : Int)
        · rw [if_pos c300] at hm
          refine cT hE rfl (decide_eq_true c300) ?_
          refine wp_skip ?_
          refine wp_seq ?_
          refine wp_block ?_
          refine wp_seq ?_
          refine wp_region_lit ?_
          refine s1 hE rfl (d_move hE rfl) fun a hE => ?_
          obtain ⟨x323, hx324, hm⟩ := bnd hm
          refine s1 hE rfl (d_indexMat sl65 hE rfl rfl H 1 rfl hx324) fun a hE => ?_
          refine s1 hE rfl (d_loadMat sc70 hE rfl H 1 rfl hx324) fun a hE => ?_
          refine s1 hE rfl (d_assign hE rfl) fun a hE => ?_
          refine s1 hE rfl (d_assign hE rfl) fun a hE => ?_
          refine wpList_nil ?_
          refine wp_seq ?_
          refine wp_region_lit ?_
          refine s1 hE rfl (d_move hE rfl) fun a hE => ?_
          obtain ⟨x327, hc328, hm⟩ := bnd hm
          refine s2 hE rfl (d_call c144 hE rfl (f144_ok k x323 hc328 (Rd.mat 1 rfl hx324) H)) fun a v w hR hE => ?_
          obtain ⟨hv_, H⟩ := hR
          have hv_ := hv_.symm
          subst hv_
          refine s1 hE rfl (d_move hE rfl) fun a hE => ?_
          refine s1 hE rfl (d_extract hE rfl rfl) fun a hE => ?_
          refine s1 hE rfl (d_extract hE rfl rfl) fun a hE => ?_
          refine s1 hE rfl (d_assign hE rfl) fun a hE => ?_
          refine s1 hE rfl (d_assign hE rfl) fun a hE => ?_
          refine wpList_nil ?_
          refine wp_seq ?_
          obtain ⟨s333, hj333, hm⟩ := bnd hm
          refine cut2 (fun a w => Env a 48 [(4, v207), (6, (.int .u64 y252)), (7, (.int .i64 y253)), (8, (.int .i64 y254)), (10, (.int .u64 x327.1)), (17, v208), (18, (.int .i64 (x205.2.length : Int))), (19, (.int .i64 y254)), (38, (.bool s333))] ∧ St z I w (OwnSl (cInt .i64) v207 x205.1 :: MatO (cInt .u64) v208 g209 x205.2 :: r)) ?_ ?_
          · have hm := hj333
            refine wp_region_lit ?_
            refine s1 hE rfl (d_move hE rfl) fun a hE => ?_
            refine s1 hE rfl (d_move hE rfl) fun a hE => ?_
            by_cases c334 : x327.2 = true
            · rw [if_pos c334] at hm
              refine gR hE rfl rfl c334 ?_
              refine s1 hE rfl (d_move hE rfl) fun a hE => ?_
              refine gR hE rfl rfl c334 ?_
              refine s1 hE rfl (d_lss hE rfl rfl) fun a hE => ?_
              refine gR hE rfl rfl c334 ?_
              refine s1 hE rfl (d_move hE rfl) fun a hE => ?_
              by_cases c335 : y253 < 0
              · rw [if_pos c335] at hm
                refine gP hE rfl rfl rfl (decide_eq_true c335) fun a hE => ?_
                refine gP hE rfl rfl rfl (decide_eq_true c335) fun a hE => ?_
                refine gP hE rfl rfl rfl (decide_eq_true c335) fun a hE => ?_
                refine gR hE rfl rfl c334 ?_
                refine s1 hE rfl (d_pT hE rfl (decide_eq_true c335) rfl) fun a hE => ?_
                refine s1 hE rfl (d_pT hE rfl c334 rfl) fun a hE => ?_
                refine wpList_nil ?_
                cases hm
                exact ⟨hE.sub ⟨rfl, rfl, rfl, rfl, rfl, rfl, rfl, rfl, rfl, trivial⟩, H⟩
              · rw [if_neg c335] at hm
                refine gR hE rfl rfl (decide_eq_false c335) ?_
                refine s1 hE rfl (d_move hE rfl) fun a hE => ?_
                refine gR hE rfl rfl (decide_eq_false c335) ?_
                refine s1 hE rfl (d_move hE rfl) fun a hE => ?_
                refine gR hE rfl rfl (decide_eq_false c335) ?_
                refine s1 hE rfl (d_lss hE rfl rfl) fun a hE => ?_
                refine gR hE rfl rfl c334 ?_
                refine s1 hE rfl (d_pF hE rfl (decide_eq_false c335) rfl) fun a hE => ?_
                refine s1 hE rfl (d_pT hE rfl c334 rfl) fun a hE => ?_
                refine wpList_nil ?_
                cases hm
                exact ⟨hE.sub ⟨rfl, rfl, rfl, rfl, rfl, rfl, rfl, rfl, rfl, trivial⟩, H⟩
            · rw [if_neg c334] at hm
              refine gP hE rfl rfl rfl (b_f c334) fun a hE => ?_
              refine gP hE rfl rfl rfl (b_f c334) fun a hE => ?_
              refine gP hE rfl rfl rfl (b_f c334) fun a hE => ?_
              refine sk_undef hE rfl rfl rfl fun a hE => ?_
              refine sk_undef hE rfl rfl rfl fun a hE => ?_
              refine sk_undef hE rfl rfl rfl fun a hE => ?_
              refine gP hE rfl rfl rfl (b_f c334) fun a hE => ?_
              refine s1 hE rfl (d_pF hE rfl (b_f c334) rfl) fun a hE => ?_
              refine wpList_nil ?_
              cases hm
              exact ⟨hE.sub ⟨rfl, rfl, rfl, rfl, rfl, rfl, rfl, rfl, rfl, trivial⟩, H⟩
          · rintro a w ⟨hE, H⟩
            obtain ⟨s339, hj339, hm⟩ := bnd hm
            refine cut2 (fun a w => Env a 48 [(4, v207), (6, (.int .u64 s339.1)), (7, (.int .i64 s339.2)), (17, v208), (18, (.int .i64 (x205.2.length : Int))), (19, (.int .i64 y254))] ∧ St z I w (OwnSl (cInt .i64) v207 x205.1 :: MatO (cInt .u64) v208 g209 x205.2 :: r)) ?_ ?_
            · have hm := hj339
              by_cases c340 : s333 = true
              · rw [if_pos c340] at hm
                refine cT hE rfl c340 ?_
                refine wp_region_lit ?_
                refine s1 hE rfl (d_move hE rfl) fun a hE => ?_
                refine s1 hE rfl (d_move hE rfl) fun a hE => ?_
                refine s1 hE rfl (d_assign hE rfl) fun a hE => ?_
                refine s1 hE rfl (d_assign hE rfl) fun a hE => ?_
                refine wpList_nil ?_
                cases hm
                exact ⟨hE.sub ⟨rfl, rfl, rfl, rfl, rfl, rfl, trivial⟩, H⟩
              · rw [if_neg c340] at hm
                refine cF hE rfl (b_f c340) ?_
                refine wp_skip ?_
                cases hm
                exact ⟨hE.sub ⟨rfl, rfl, rfl, rfl, rfl, rfl, trivial⟩, H⟩
            · rintro a w ⟨hE, H⟩
              refine wp_region_lit ?_
              refine s1 hE rfl (d_add hE rfl rfl) fun a hE => ?_
              refine s1 hE rfl (d_move hE rfl) fun a hE => ?_
              refine wpList_nil ?_
              exact ⟨k, Nat.lt_succ_self k, s339.1, s339.2, IntKind.i64.wrap (y254 + 1), hm, hE.sub ⟨rfl, rfl, rfl, rfl, rfl, rfl, trivial⟩, H⟩
        · rw [if_neg c300] at hm
          refine cF hE rfl (decide_eq_false c300) ?_
          refine wp_exit ?_
          cases hm
          have H := St.del H 1
          exact ⟨hE.sub ⟨rfl, rfl, trivial⟩, H⟩
    · exact ⟨0, (-1), 0, hj298, hE.sub ⟨rfl, rfl, rfl, rfl, rfl, rfl, trivial⟩, H⟩
  · rintro a w ⟨hE, H⟩
    refine wp_seq ?_
    refine wp_seq ?_
    refine wp_region_lit ?_
    refine s1 hE rfl (d_move hE rfl) fun a hE => ?_
    refine s1 hE rfl (d_lss hE rfl rfl) fun a hE => ?_
    refine wpList_nil ?_
    by_cases c342 : s298 < 0
    · rw [if_pos c342] at hm
      refine cT hE rfl (decide_eq_true c342) ?_
      refine wp_seq ?_
      refine wp_region_lit ?_
      refine s1 hE rfl (d_assign hE rfl) fun a hE => ?_
      refine s1 hE rfl (d_assign hE rfl) fun a hE => ?_
      refine wpList_nil ?_
      refine wp_ret ?_
      cases hm
      have H := St.del H 0
      exact ret2 rfl hE rfl rfl ⟨_, rfl, rfl, H⟩
    · rw [if_neg c342] at hm
      refine cF hE rfl (decide_eq_false c342) ?_
      refine wp_skip ?_
      refine wp_seq ?_
      refine wp_region_lit ?_
      refine s1 hE rfl (d_move hE rfl) fun a hE => ?_
      refine s1 hE rfl (d_move hE rfl) fun a hE => ?_
      obtain ⟨x345, hx346, hm⟩ := bnd hm
      refine s1 hE rfl (d_indexS sl51 hE rfl rfl H (Rd.own 0 rfl) hx346) fun a hE => ?_
      refine s1 hE rfl (d_loadS1 sc3 hE rfl H (Rd.own 0 rfl) hx346 (fun _ _ e => e)) fun a hE => ?_
      refine s1 hE rfl (d_assign hE rfl) fun a hE => ?_
      refine s1 hE rfl (d_assign hE rfl) fun a hE => ?_
      refine wpList_nil ?_
      refine wp_ret ?_
      cases hm
      have H := St.del H 0
      exact ret2 rfl hE rfl rfl ⟨_, rfl, rfl, H⟩
def m84  : Option (List S_api_Arc) := some ([(⟨1, 2, 1⟩ : S_api_Arc), (⟨2, 1, 1⟩ : S_api_Arc), (⟨2, 3, 1⟩ : S_api_Arc), (⟨3, 2, 1⟩ : S_api_Arc)])
set_option maxRecDepth 20000 in
set_option maxHeartbeats 4000000 in
theorem f84_ok  {res : (List S_api_Arc)} (hm : m84 = some res) {z w : World} {I : Hp} {r : List Asn}  (H : St z I w (r)) :
    Calls Try.prog 84 #[] w (Rt fun v w' => ∃ v53 : Value, v = v53 ∧ St z I w' (OwnSl c_api_Arc v53 res :: r)) := by
  unfold m84 at hm
  refine enter (args := []) Try.func84 rfl Try.ntmps84 rfl fun a hE => ?_
  refine wp_seq ?_
  refine wp_region_lit ?_
  refine s1 hE rfl (d_assign hE rfl) fun a hE => ?_
  refine wpList_nil ?_
  refine wp_seq ?_
  refine wp_region_lit ?_
  refine s1 hE rfl (d_build hE rfl (bld60_0In_1In_2In _ _ _)) fun a hE => ?_
  refine s1 hE rfl (d_build hE rfl (bld60_0In_1In_2In _ _ _)) fun a hE => ?_
  refine s1 hE rfl (d_build hE rfl (bld60_0In_1In_2In _ _ _)) fun a hE => ?_
  refine s1 hE rfl (d_build hE rfl (bld60_0In_1In_2In _ _ _)) fun a hE => ?_
  refine s2 hE rfl (d_lit (c := c_api_Arc) (xs := [(⟨1, 2, 1⟩ : S_api_Arc), (⟨2, 1, 1⟩ : S_api_Arc), (⟨2, 3, 1⟩ : S_api_Arc), (⟨3, 2, 1⟩ : S_api_Arc)]) hE rfl (lit55_4 _ _ _ _ _ _ _ _ _ _ _ _) rfl rfl (fun J h iJ s => rowsC (cs := [(.int .i64 1), (.int .i64 2), (.int .i64 1)]) rfl (rowsC (cs := [(.int .i64 2), (.int .i64 1), (.int .i64 1)]) rfl (rowsC (cs := [(.int .i64 2), (.int .i64 3), (.int .i64 1)]) rfl (rowsC (cs := [(.int .i64 3), (.int .i64 2), (.int .i64 1)]) rfl (rows0))))) H) fun a v w hR hE => ?_
  obtain ⟨v56, rfl⟩ : ∃ x, x = v := ⟨v, rfl⟩
  have H : St z I w (OwnSl c_api_Arc v56 ([(⟨1, 2, 1⟩ : S_api_Arc), (⟨2, 1, 1⟩ : S_api_Arc), (⟨2, 3, 1⟩ : S_api_Arc), (⟨3, 2, 1⟩ : S_api_Arc)]) :: r) := hR
  refine s1 hE rfl (d_assign hE rfl) fun a hE => ?_
  refine wpList_nil ?_
  refine wp_ret ?_
  cases hm
  exact ret1 rfl hE rfl ⟨_, rfl, v56, rfl, H⟩
def m34 (k : Nat)  : Option Bool := Option.bind (m84 ) fun x124 => Option.bind (m83 k x124) fun x127 => Option.bind (m84 ) fun x137 => Option.bind (m35 k x137) fun x140 => Option.bind (α := Bool) (if x127.2 = true then (if x127.1 = 2 then (Option.bind (m84 ) fun x171 => Option.bind (m85 k x171) fun x174 => if x174 = 2 then (if (x140.1.length : Int) = 3 then (if (x140.2.length : Int) = 3 then (Option.bind (rdx x140.2 0) fun x179 => if (x179.length : Int) = 3 then (Option.bind (rdx x140.2 0) fun x182 => Option.bind (rdx x182 2) fun x184 => some (decide (x184 = 2))) else (some false)) else (some false)) else (some false)) else (some false)) else (some false)) else (some false)) fun s168 => some s168
set_option maxRecDepth 20000 in
set_option maxHeartbeats 4000000 in
theorem f34_ok (k : Nat)  {res : Bool} (hm : m34 k = some res) {z w : World} {I : Hp} {r : List Asn} (hz : z.drawn = 0) (H : St z I w (r)) :
    Calls Try.prog 34 #[] w (Rt fun v w' => v = (.bool res) ∧ St z I w' (r)) := by
  unfold m34 at hm
  refine enter (args := []) Try.func34 rfl Try.ntmps34 rfl fun a hE => ?_
  refine wp_seq ?_
  refine wp_region_lit ?_
  refine s1 hE rfl (d_assign hE rfl) fun a hE => ?_
  refine wpList_nil ?_
  refine wp_seq ?_
  refine wp_region_lit ?_
  obtain ⟨x124, hc125, hm⟩ := bnd hm
  refine s2 hE rfl (d_call c84 hE rfl (f84_ok  hc125  H)) fun a v w hR hE => ?_
  obtain ⟨v126, hv_, H⟩ := hR
  have hv_ := hv_.symm
  subst hv_
  obtain ⟨x127, hc128, hm⟩ := bnd hm
  refine s2 hE rfl (d_call c83 hE rfl (f83_ok k x124 hc128 (Rd.own 0 rfl) hz H)) fun a v w hR hE => ?_
  obtain ⟨hv_, H⟩ := hR
  have hv_ := hv_.symm
  subst hv_
  refine s1 hE rfl (d_move hE rfl) fun a hE => ?_
  refine s1 hE rfl (d_extract hE rfl rfl) fun a hE => ?_
  refine s1 hE rfl (d_extract hE rfl rfl) fun a hE => ?_
  refine s1 hE rfl (d_assign hE rfl) fun a hE => ?_
  refine s1 hE rfl (d_assign hE rfl) fun a hE => ?_
  refine wpList_nil ?_
  refine wp_seq ?_
  refine wp_region_lit ?_
  obtain ⟨x137, hc138, hm⟩ := bnd hm
  refine s2 hE rfl (d_call c84 hE rfl (f84_ok  hc138  H)) fun a v w hR hE => ?_
  obtain ⟨v139, hv_, H⟩ := hR
  have hv_ := hv_.symm
  subst hv_
  obtain ⟨x140, hc141, hm⟩ := bnd hm
  refine s2 hE rfl (d_call c35 hE rfl (f35_ok k x137 hc141 (Rd.own 0 rfl) hz H)) fun a v w hR hE => ?_
  obtain ⟨v142, v143, g144, hv_, H⟩ := hR
  have hv_ := hv_.symm
  subst hv_
  refine s1 hE rfl (d_move hE rfl) fun a hE => ?_
  refine s1 hE rfl (d_extract hE rfl rfl) fun a hE => ?_
  refine s1 hE rfl (d_extract hE rfl rfl) fun a hE => ?_
  refine s1 hE rfl (d_assign hE rfl) fun a hE => ?_
  refine s1 hE rfl (d_assign hE rfl) fun a hE => ?_
  refine wpList_nil ?_
  refine wp_seq ?_
  obtain ⟨s168, hj168, hm⟩ := bnd hm
  refine cut2 (fun a w => Env a 50 [(0, (.bool s168))] ∧ St z I w (r)) ?_ ?_
  · have hm := hj168
    refine wp_region_lit ?_
    refine s1 hE rfl (d_move hE rfl) fun a hE => ?_
    refine s1 hE rfl (d_move hE rfl) fun a hE => ?_
    by_cases c169 : x127.2 = true
    · rw [if_pos c169] at hm
      refine gR hE rfl rfl c169 ?_
      refine s1 hE rfl (d_move hE rfl) fun a hE => ?_
      refine gR hE rfl rfl c169 ?_
      refine s1 hE rfl (d_eql hE rfl rfl) fun a hE => ?_
      refine s1 hE rfl (d_pT hE rfl c169 rfl) fun a hE => ?_
      refine s1 hE rfl (d_move hE rfl) fun a hE => ?_
      by_cases c170 : x127.1 = 2
      · rw [if_pos c170] at hm
        refine gR hE rfl rfl (decide_eq_true c170) ?_
        obtain ⟨x171, hc172, hm⟩ := bnd hm
        refine s2 hE rfl (d_call c84 hE rfl (f84_ok  hc172  H)) fun a v w hR hE => ?_
        obtain ⟨v173, hv_, H⟩ := hR
        have hv_ := hv_.symm
        subst hv_
        refine gR hE rfl rfl (decide_eq_true c170) ?_
        obtain ⟨x174, hc175, hm⟩ := bnd hm
        refine s2 hE rfl (d_call c85 hE rfl (f85_ok k x171 hc175 (Rd.own 0 rfl) hz H)) fun a v w hR hE => ?_
        obtain ⟨hv_, H⟩ := hR
        have hv_ := hv_.symm
        subst hv_
        refine gR hE rfl rfl (decide_eq_true c170) ?_
        refine s1 hE rfl (d_eql hE rfl rfl) fun a hE => ?_
        refine s1 hE rfl (d_pT hE rfl (decide_eq_true c170) rfl) fun a hE => ?_
        refine s1 hE rfl (d_move hE rfl) fun a hE => ?_
        by_cases c176 : x174 = 2
        · rw [if_pos c176] at hm
          refine gR hE rfl rfl (decide_eq_true c176) ?_
          refine s1 hE rfl (d_move hE rfl) fun a hE => ?_
          refine gR hE rfl rfl (decide_eq_true c176) ?_
          refine s1 hE rfl (d_lenS Try.underlying51 hE rfl H (Rd.own 1 rfl)) fun a hE => ?_
          refine gR hE rfl rfl (decide_eq_true c176) ?_
          refine s1 hE rfl (d_eql hE rfl rfl) fun a hE => ?_
          refine s1 hE rfl (d_pT hE rfl (decide_eq_true c176) rfl) fun a hE => ?_
          refine s1 hE rfl (d_move hE rfl) fun a hE => ?_
          by_cases c177 : (x140.1.length : Int) = 3
          · rw [if_pos c177] at hm
            refine gR hE rfl rfl (decide_eq_true c177) ?_
            refine s1 hE rfl (d_move hE rfl) fun a hE => ?_
            refine gR hE rfl rfl (decide_eq_true c177) ?_
            refine s1 hE rfl (d_lenMat Try.underlying65 hE rfl H 2 rfl) fun a hE => ?_
            refine gR hE rfl rfl (decide_eq_true c177) ?_
            refine s1 hE rfl (d_eql hE rfl rfl) fun a hE => ?_
            refine s1 hE rfl (d_pT hE rfl (decide_eq_true c177) rfl) fun a hE => ?_
            refine s1 hE rfl (d_move hE rfl) fun a hE => ?_
            by_cases c178 : (x140.2.length : Int) = 3
            · rw [if_pos c178] at hm
              refine gR hE rfl rfl (decide_eq_true c178) ?_
              refine s1 hE rfl (d_move hE rfl) fun a hE => ?_
              refine gR hE rfl rfl (decide_eq_true c178) ?_
              obtain ⟨x179, hx180, hm⟩ := bnd hm
              refine s1 hE rfl (d_indexMat sl65 hE rfl rfl H 2 rfl hx180) fun a hE => ?_
              refine gR hE rfl rfl (decide_eq_true c178) ?_
              refine s1 hE rfl (d_loadMat sc70 hE rfl H 2 rfl hx180) fun a hE => ?_
              refine gR hE rfl rfl (decide_eq_true c178) ?_
              refine s1 hE rfl (d_lenS Try.underlying70 hE rfl H (Rd.mat 2 rfl hx180)) fun a hE => ?_
              refine gR hE rfl rfl (decide_eq_true c178) ?_
              refine s1 hE rfl (d_eql hE rfl rfl) fun a hE => ?_
              refine s1 hE rfl (d_pT hE rfl (decide_eq_true c178) rfl) fun a hE => ?_
              refine s1 hE rfl (d_move hE rfl) fun a hE => ?_
              by_cases c181 : (x179.length : Int) = 3
              · rw [if_pos c181] at hm
                refine gR hE rfl rfl (decide_eq_true c181) ?_
                refine s1 hE rfl (d_move hE rfl) fun a hE => ?_
                refine gR hE rfl rfl (decide_eq_true c181) ?_
                obtain ⟨x182, hx183, hm⟩ := bnd hm
                refine s1 hE rfl (d_indexMat sl65 hE rfl rfl H 2 rfl hx183) fun a hE => ?_
                refine gR hE rfl rfl (decide_eq_true c181) ?_
                refine s1 hE rfl (d_loadMat sc70 hE rfl H 2 rfl hx183) fun a hE => ?_
                refine gR hE rfl rfl (decide_eq_true c181) ?_
                obtain ⟨x184, hx185, hm⟩ := bnd hm
                refine s1 hE rfl (d_indexS sl70 hE rfl rfl H (Rd.mat 2 rfl hx183) hx185) fun a hE => ?_
                refine gR hE rfl rfl (decide_eq_true c181) ?_
                refine s1 hE rfl (d_loadS1 sc61 hE rfl H (Rd.mat 2 rfl hx183) hx185 (fun _ _ e => e)) fun a hE => ?_
                refine gR hE rfl rfl (decide_eq_true c181) ?_
                refine s1 hE rfl (d_eql hE rfl rfl) fun a hE => ?_
                refine s1 hE rfl (d_pT hE rfl (decide_eq_true c181) rfl) fun a hE => ?_
                refine s1 hE rfl (d_assign hE rfl) fun a hE => ?_
                refine wpList_nil ?_
                cases hm
                have H := St.del H 0
                have H := St.del H 0
                have H := St.del H 0
                have H := St.del H 0
                have H := St.del H 0
                exact ⟨hE.sub ⟨rfl, trivial⟩, H⟩
              · rw [if_neg c181] at hm
                refine gP hE rfl rfl rfl (decide_eq_false c181) fun a hE => ?_
                refine gP hE rfl rfl rfl (decide_eq_false c181) fun a hE => ?_
                refine gP hE rfl rfl rfl (decide_eq_false c181) fun a hE => ?_
                refine gP hE rfl rfl rfl (decide_eq_false c181) fun a hE => ?_
                refine gP hE rfl rfl rfl (decide_eq_false c181) fun a hE => ?_
                refine gP hE rfl rfl rfl (decide_eq_false c181) fun a hE => ?_
                refine s1 hE rfl (d_pF hE rfl (decide_eq_false c181) rfl) fun a hE => ?_
                refine s1 hE rfl (d_assign hE rfl) fun a hE => ?_
                refine wpList_nil ?_
                cases hm
                have H := St.del H 0
                have H := St.del H 0
                have H := St.del H 0
                have H := St.del H 0
                have H := St.del H 0
                exact ⟨hE.sub ⟨rfl, trivial⟩, H⟩
            · rw [if_neg c178] at hm
              refine gP hE rfl rfl rfl (decide_eq_false c178) fun a hE => ?_
              refine gP hE rfl rfl rfl (decide_eq_false c178) fun a hE => ?_
              refine gP hE rfl rfl rfl (decide_eq_false c178) fun a hE => ?_
              refine gP hE rfl rfl rfl (decide_eq_false c178) fun a hE => ?_
              refine gP hE rfl rfl rfl (decide_eq_false c178) fun a hE => ?_
              refine s1 hE rfl (d_pF hE rfl (decide_eq_false c178) rfl) fun a hE => ?_
              refine s1 hE rfl (d_move hE rfl) fun a hE => ?_
              refine gP hE rfl rfl rfl rfl fun a hE => ?_
              refine gP hE rfl rfl rfl rfl fun a hE => ?_
              refine gP hE rfl rfl rfl rfl fun a hE => ?_
              refine gP hE rfl rfl rfl rfl fun a hE => ?_
              refine gP hE rfl rfl rfl rfl fun a hE => ?_
              refine gP hE rfl rfl rfl rfl fun a hE => ?_
              refine s1 hE rfl (d_pF hE rfl rfl rfl) fun a hE => ?_
              refine s1 hE rfl (d_assign hE rfl) fun a hE => ?_
              refine wpList_nil ?_
              cases hm
              have H := St.del H 0
              have H := St.del H 0
              have H := St.del H 0
              have H := St.del H 0
              have H := St.del H 0
              exact ⟨hE.sub ⟨rfl, trivial⟩, H⟩
          · rw [if_neg c177] at hm
            refine gP hE rfl rfl rfl (decide_eq_false c177) fun a hE => ?_
            refine gP hE rfl rfl rfl (decide_eq_false c177) fun a hE => ?_
            refine gP hE rfl rfl rfl (decide_eq_false c177) fun a hE => ?_
            refine s1 hE rfl (d_pF hE rfl (decide_eq_false c177) rfl) fun a hE => ?_
            refine s1 hE rfl (d_move hE rfl) fun a hE => ?_
            refine gP hE rfl rfl rfl rfl fun a hE => ?_
            refine gP hE rfl rfl rfl rfl fun a hE => ?_
            refine gP hE rfl rfl rfl rfl fun a hE => ?_
            refine gP hE rfl rfl rfl rfl fun a hE => ?_
            refine gP hE rfl rfl rfl rfl fun a hE => ?_
            refine s1 hE rfl (d_pF hE rfl rfl rfl) fun a hE => ?_
            refine s1 hE rfl (d_move hE rfl) fun a hE => ?_
            refine gP hE rfl rfl rfl rfl fun a hE => ?_
            refine gP hE rfl rfl rfl rfl fun a hE => ?_
            refine gP hE rfl rfl rfl rfl fun a hE => ?_
            refine gP hE rfl rfl rfl rfl fun a hE => ?_
            refine gP hE rfl rfl rfl rfl fun a hE => ?_
            refine gP hE rfl rfl rfl rfl fun a hE => ?_
            refine s1 hE rfl (d_pF hE rfl rfl rfl) fun a hE => ?_
            refine s1 hE rfl (d_assign hE rfl) fun a hE => ?_
            refine wpList_nil ?_
            cases hm
            have H := St.del H 0
            have H := St.del H 0
            have H := St.del H 0
            have H := St.del H 0
            have H := St.del H 0
            exact ⟨hE.sub ⟨rfl, trivial⟩, H⟩
        · rw [if_neg c176] at hm
          refine gP hE rfl rfl rfl (decide_eq_false c176) fun a hE => ?_
          refine gP hE rfl rfl rfl (decide_eq_false c176) fun a hE => ?_
          refine gP hE rfl rfl rfl (decide_eq_false c176) fun a hE => ?_
          refine s1 hE rfl (d_pF hE rfl (decide_eq_false c176) rfl) fun a hE => ?_
          refine s1 hE rfl (d_move hE rfl) fun a hE => ?_
          refine gP hE rfl rfl rfl rfl fun a hE => ?_
          refine gP hE rfl rfl rfl rfl fun a hE => ?_
          refine gP hE rfl rfl rfl rfl fun a hE => ?_
          refine s1 hE rfl (d_pF hE rfl rfl rfl) fun a hE => ?_
          refine s1 hE rfl (d_move hE rfl) fun a hE => ?_
          refine gP hE rfl rfl rfl rfl fun a hE => ?_
          refine gP hE rfl rfl rfl rfl fun a hE => ?_
          refine gP hE rfl rfl rfl rfl fun a hE => ?_
          refine gP hE rfl rfl rfl rfl fun a hE => ?_
          refine gP hE rfl rfl rfl rfl fun a hE => ?_
          refine s1 hE rfl (d_pF hE rfl rfl rfl) fun a hE => ?_
          refine s1 hE rfl (d_move hE rfl) fun a hE => ?_
          refine gP hE rfl rfl rfl rfl fun a hE => ?_
          refine gP hE rfl rfl rfl rfl fun a hE => ?_
          refine gP hE rfl rfl rfl rfl fun a hE => ?_
          refine gP hE rfl rfl rfl rfl fun a hE => ?_
          refine gP hE rfl rfl rfl rfl fun a hE => ?_
          refine gP hE rfl rfl rfl rfl fun a hE => ?_
          refine s1 hE rfl (d_pF hE rfl rfl rfl) fun a hE => ?_
          refine s1 hE rfl (d_assign hE rfl) fun a hE => ?_
          refine wpList_nil ?_
          cases hm
          have H := St.del H 0
          have H := St.del H 0
          have H := St.del H 0
          have H := St.del H 0
          have H := St.del H 0
          exact ⟨hE.sub ⟨rfl, trivial⟩, H⟩
      · rw [if_neg c170] at hm
        refine gP hE rfl rfl rfl (decide_eq_false c170) fun a hE => ?_
        refine gP hE rfl rfl rfl (decide_eq_false c170) fun a hE => ?_
        refine gP hE rfl rfl rfl (decide_eq_false c170) fun a hE => ?_
        refine s1 hE rfl (d_pF hE rfl (decide_eq_false c170) rfl) fun a hE => ?_
        refine s1 hE rfl (d_move hE rfl) fun a hE => ?_
        refine gP hE rfl rfl rfl rfl fun a hE => ?_
        refine gP hE rfl rfl rfl rfl fun a hE => ?_
        refine gP hE rfl rfl rfl rfl fun a hE => ?_
        refine s1 hE rfl (d_pF hE rfl rfl rfl) fun a hE => ?_
        refine s1 hE rfl (d_move hE rfl) fun a hE => ?_
        refine gP hE rfl rfl rfl rfl fun a hE => ?_
        refine gP hE rfl rfl rfl rfl fun a hE => ?_
        refine gP hE rfl rfl rfl rfl fun a hE => ?_
        refine s1 hE rfl (d_pF hE rfl rfl rfl) fun a hE => ?_
        refine s1 hE rfl (d_move hE rfl) fun a hE => ?_
        refine gP hE rfl rfl rfl rfl fun a hE => ?_
        refine gP hE rfl rfl rfl rfl fun a hE => ?_
        refine gP hE rfl rfl rfl rfl fun a hE => ?_
        refine gP hE rfl rfl rfl rfl fun a hE => ?_
        refine gP hE rfl rfl rfl rfl fun a hE => ?_
        refine s1 hE rfl (d_pF hE rfl rfl rfl) fun a hE => ?_
        refine s1 hE rfl (d_move hE rfl) fun a hE => ?_
        refine gP hE rfl rfl rfl rfl fun a hE => ?_
        refine gP hE rfl rfl rfl rfl fun a hE => ?_
        refine gP hE rfl rfl rfl rfl fun a hE => ?_
        refine gP hE rfl rfl rfl rfl fun a hE => ?_
        refine gP hE rfl rfl rfl rfl fun a hE => ?_
        refine gP hE rfl rfl rfl rfl fun a hE => ?_
        refine s1 hE rfl (d_pF hE rfl rfl rfl) fun a hE => ?_
        refine s1 hE rfl (d_assign hE rfl) fun a hE => ?_
        refine wpList_nil ?_
        cases hm
        have H := St.del H 0
        have H := St.del H 0
        have H := St.del H 0
        have H := St.del H 0
        exact ⟨hE.sub ⟨rfl, trivial⟩, H⟩
    · rw [if_neg c169] at hm
      refine gP hE rfl rfl rfl (b_f c169) fun a hE => ?_
      refine gP hE rfl rfl rfl (b_f c169) fun a hE => ?_
      refine s1 hE rfl (d_pF hE rfl (b_f c169) rfl) fun a hE => ?_
      refine s1 hE rfl (d_move hE rfl) fun a hE => ?_
      refine gP hE rfl rfl rfl rfl fun a hE => ?_
      refine gP hE rfl rfl rfl rfl fun a hE => ?_
      refine gP hE rfl rfl rfl rfl fun a hE => ?_
      refine s1 hE rfl (d_pF hE rfl rfl rfl) fun a hE => ?_
      refine s1 hE rfl (d_move hE rfl) fun a hE => ?_
      refine gP hE rfl rfl rfl rfl fun a hE => ?_
      refine gP hE rfl rfl rfl rfl fun a hE => ?_
      refine gP hE rfl rfl rfl rfl fun a hE => ?_
      refine s1 hE rfl (d_pF hE rfl rfl rfl) fun a hE => ?_
      refine s1 hE rfl (d_move hE rfl) fun a hE => ?_
      refine gP hE rfl rfl rfl rfl fun a hE => ?_
      refine gP hE rfl rfl rfl rfl fun a hE => ?_
      refine gP hE rfl rfl rfl rfl fun a hE => ?_
      refine s1 hE rfl (d_pF hE rfl rfl rfl) fun a hE => ?_
      refine s1 hE rfl (d_move hE rfl) fun a hE => ?_
      refine gP hE rfl rfl rfl rfl fun a hE => ?_
      refine gP hE rfl rfl rfl rfl fun a hE => ?_
      refine gP hE rfl rfl rfl rfl fun a hE => ?_
      refine gP hE rfl rfl rfl rfl fun a hE => ?_
      refine gP hE rfl rfl rfl rfl fun a hE => ?_
      refine s1 hE rfl (d_pF hE rfl rfl rfl) fun a hE => ?_
      refine s1 hE rfl (d_move hE rfl) fun a hE => ?_
      refine gP hE rfl rfl rfl rfl fun a hE => ?_
      refine gP hE rfl rfl rfl rfl fun a hE => ?_
      refine gP hE rfl rfl rfl rfl fun a hE => ?_
      refine gP hE rfl rfl rfl rfl fun a hE => ?_
      refine gP hE rfl rfl rfl rfl fun a hE => ?_
      refine gP hE rfl rfl rfl rfl fun a hE => ?_
      refine s1 hE rfl (d_pF hE rfl rfl rfl) fun a hE => ?_
      refine s1 hE rfl (d_assign hE rfl) fun a hE => ?_
      refine wpList_nil ?_
      cases hm
      have H := St.del H 0
      have H := St.del H 0
      have H := St.del H 0
      have H := St.del H 0
      exact ⟨hE.sub ⟨rfl, trivial⟩, H⟩
  · rintro a w ⟨hE, H⟩
    refine wp_ret ?_
    cases hm
    exact ret1 rfl hE rfl ⟨_, rfl, rfl, H⟩
def m38 (k : Nat) (a0 : List S_api_Arc) (a1 : Int) (a2 : Int) : Option Int := Option.bind (m90 k a0 a1) fun x67 => if 0 ≤ a2 ∧ a2 < 65 then (if (x67.2 (a2).toNat) = true then (if 0 ≤ a2 ∧ a2 < 65 then (some (x67.1 (a2).toNat)) else none) else (some 18446744073709551615)) else none
set_option maxRecDepth 20000 in
set_option maxHeartbeats 4000000 in
theorem f38_ok (k : Nat) {u0 : Value} (a0 : List S_api_Arc) (a1 : Int) (a2 : Int) {res : Int} (hm : m38 k a0 a1 a2 = some res) {z w : World} {I : Hp} {r : List Asn} (hr0 : Rd c_api_Arc I r u0 a0) (H : St z I w (r)) :
    Calls Try.prog 38 #[u0, (.int .i64 a1), (.int .i64 a2)] w (Rt fun v w' => v = (.int .u64 res) ∧ St z I w' (r)) := by
  unfold m38 at hm
  refine enter (args := [u0, (.int .i64 a1), (.int .i64 a2)]) Try.func38 rfl Try.ntmps38 rfl fun a hE => ?_
  refine wp_seq ?_
  refine wp_region_lit ?_
  refine s1 hE rfl (d_assign hE rfl) fun a hE => ?_
  refine wpList_nil ?_
  refine wp_seq ?_
  refine wp_region_lit ?_
  refine s1 hE rfl (d_move hE rfl) fun a hE => ?_
  refine s1 hE rfl (d_move hE rfl) fun a hE => ?_
  obtain ⟨x67, hc68, hm⟩ := bnd hm
  refine s2 hE rfl (d_call c90 hE rfl (f90_ok k a0 a1 hc68 hr0 H)) fun a v w hR hE => ?_
  obtain ⟨hv_, H⟩ := hR
  have hv_ := hv_.symm
  subst hv_
  refine s2 hE rfl (d_alloc al140 H) fun a v w hR hE => ?_
  obtain ⟨q69, rfl, H⟩ := hR
  refine s3 (d_storeB sz140 rfl hE rfl rfl H) fun v w hR => ?_
  have H : St z I w (Bl q69 140 (bigc x67.1 x67.2) :: r) := hR
  refine wpList_nil ?_
  refine wp_seq ?_
  refine wp_seq ?_
  refine wp_region_lit ?_
  refine s1 hE rfl (d_move hE rfl) fun a hE => ?_
  refine s1 hE rfl (d_fieldAddr fld140_1 hE rfl) fun a hE => ?_
  by_cases c71 : 0 ≤ a2 ∧ a2 < 65
  · rw [if_pos c71] at hm
    refine s1 hE rfl (d_indexB Try.underlying138 sz4 hE rfl rfl c71) fun a hE => ?_
    refine s1 hE rfl (d_loadBf sc4 hE rfl H 0 rfl c71) fun a hE => ?_
    refine s1 hE rfl (d_not hE rfl) fun a hE => ?_
    refine wpList_nil ?_
    by_cases c73 : (x67.2 (a2).toNat) = true
    · rw [if_pos c73] at hm
      refine cF hE rfl (not_f c73) ?_
      refine wp_skip ?_
      refine wp_seq ?_
      refine wp_region_lit ?_
      refine s1 hE rfl (d_move hE rfl) fun a hE => ?_
      refine s1 hE rfl (d_fieldAddr fld140_0 hE rfl) fun a hE => ?_
      by_cases c75 : 0 ≤ a2 ∧ a2 < 65
      · rw [if_pos c75] at hm
        refine s1 hE rfl (d_indexB Try.underlying137 sz61 hE rfl rfl c75) fun a hE => ?_
        refine s1 hE rfl (d_loadBc sc61 hE rfl H 0 rfl c75) fun a hE => ?_
        refine s1 hE rfl (d_assign hE rfl) fun a hE => ?_
        refine wpList_nil ?_
        refine wp_ret ?_
        cases hm
        have H := St.del H 0
        exact ret1 rfl hE rfl ⟨_, rfl, rfl, H⟩
      · rw [if_neg c75] at hm; cases hm
    · rw [if_neg c73] at hm
      refine cT hE rfl (not_t (b_f c73)) ?_
      refine wp_seq ?_
      refine wp_region_lit ?_
      refine s1 hE rfl (d_assign hE rfl) fun a hE => ?_
      refine wpList_nil ?_
      refine wp_ret ?_
      cases hm
      have H := St.del H 0
      exact ret1 rfl hE rfl ⟨_, rfl, rfl, H⟩
  · rw [if_neg c71] at hm; cases hm
def m5_l2 (x9471 : (List Int) × (List (List Int))) (x9496 : (List Int)) (y12607 : Int) (y17807 : Int) : Nat → Int → Option (Out Bool Unit)
  | 0, _ => none
  | k + 1, y18687 => if y18687 < (x9496.length : Int) then (Option.bind (α := Bool) (Option.bind (rdx x9471.2 y18687) fun x18826 => if (x18826.length : Int) = (x9496.length : Int) then (Option.bind (rdx x9471.2 y12607) fun x18829 => Option.bind (rdx x18829 y17807) fun x18831 => Option.bind (rdx x9471.2 y12607) fun x18833 => Option.bind (rdx x18833 y18687) fun x18835 => Option.bind (rdx x9471.2 y18687) fun x18837 => Option.bind (rdx x18837 y17807) fun x18839 => Option.bind (m39 x18835 x18839) fun x18841 => some (decide (x18841 < x18831))) else (some true)) fun s18825 => if s18825 = true then (some (.ret false)) else (m5_l2 x9471 x9496 y12607 y17807 k (IntKind.i64.wrap (y18687 + 1)))) else (some (.go ()))
def m5_l1 (a0 : List S_api_Arc) (x9471 : (List Int) × (List (List Int))) (x9496 : (List Int)) (y12607 : Int) : Nat → Int → Option (Out Bool Unit)
  | 0, _ => none
  | k + 1, y17807 => if y17807 < (x9496.length : Int) then (Option.bind (rdx x9471.2 y12607) fun x18597 => Option.bind (rdx x18597 y17807) fun x18599 => Option.bind (rdx x9496 y12607) fun x18601 => Option.bind (rdx x9496 y17807) fun x18603 => Option.bind (m38 k a0 x18601 x18603) fun x18605 => if x18599 = x18605 then (Option.bind (m5_l2 x9471 x9496 y12607 y17807 k 0) fun s18766 => s18766.on (fun q_ => some (.ret q_)) fun s18766 => m5_l1 a0 x9471 x9496 y12607 k (IntKind.i64.wrap (y17807 + 1))) else (some (.ret false))) else (some (.go ()))
def m5_l0 (a0 : List S_api_Arc) (x9471 : (List Int) × (List (List Int))) (x9496 : (List Int)) : Nat → Int → Option (Out Bool Unit)
  | 0, _ => none
  | k + 1, y12607 => if y12607 < (x9496.length : Int) then (Option.bind (rdx x9471.2 y12607) fun x17289 => if (x17289.length : Int) = (x9496.length : Int) then (Option.bind (m5_l1 a0 x9471 x9496 y12607 k 0) fun s18326 => s18326.on (fun q_ => some (.ret q_)) fun s18326 => m5_l0 a0 x9471 x9496 k (IntKind.i64.wrap (y12607 + 1))) else (some (.ret false))) else (some (.go ()))
def m5 (k : Nat) (a0 : List S_api_Arc) : Option Bool := if 40 < (a0.length : Int) then (Option.bind (m34 k ) fun x9464 => some x9464) else (Option.bind (m35 k a0) fun x9471 => Option.bind (m29 k a0) fun x9478 => if x9478 = true then (Option.bind (m36 k a0) fun x9496 => Option.bind (α := Bool) (Option.bind (m37 k x9471.1 x9496) fun x9504 => if x9504 = true then (some (!(decide ((x9471.2.length : Int) = (x9496.length : Int))))) else (some true)) fun s9503 => if s9503 = true then (some false) else (Option.bind (m5_l0 a0 x9471 x9496 k 0) fun s15726 => s15726.on (fun q_ => some q_) fun s15726 => Option.bind (m34 k ) fun x18847 => some x18847)) else (Option.bind (α := Bool) (if (x9471.1.length : Int) = 0 then (if (x9471.2.length : Int) = 0 then (Option.bind (m34 k ) fun x18858 => some x18858) else (some false)) else (some false)) fun s18855 => some s18855))
set_option maxRecDepth 20000 in
set_option maxHeartbeats 4000000 in
theorem f5_ok (k : Nat) {u0 : Value} (a0 : List S_api_Arc) {res : Bool} (hm : m5 k a0 = some res) {z w : World} {I : Hp} {r : List Asn} (hr0 : Rd c_api_Arc I r u0 a0) (hz : z.drawn = 0) (H : St z I w (r)) :
    Calls Try.prog 5 #[u0] w (Rt fun v w' => v = (.bool res) ∧ St z I w' (r)) := by
  unfold m5 at hm
  refine enter (args := [u0]) Try.func5 rfl Try.ntmps5 rfl fun a hE => ?_
  refine wp_seq ?_
  refine wp_region_lit ?_
  refine s1 hE rfl (d_assign hE rfl) fun a hE => ?_
  refine wpList_nil ?_
  refine wp_seq ?_
  refine wp_seq ?_
  refine wp_region_lit ?_
  refine s1 hE rfl (d_move hE rfl) fun a hE => ?_
  refine s1 hE rfl (d_lenS Try.underlying55 hE rfl H hr0) fun a hE => ?_
  refine s1 hE rfl (d_gtr hE rfl rfl) fun a hE => ?_
  refine wpList_nil ?_
  by_cases c9461 : 40 < (a0.length : Int)
  · rw [if_pos c9461] at hm
    refine cT hE rfl (decide_eq_true c9461) ?_
    refine wp_seq ?_
    refine wp_region_lit ?_
    obtain ⟨x9464, hc9465, hm⟩ := bnd hm
    refine s2 hE rfl (d_call c34 hE rfl (f34_ok k  hc9465 hz H)) fun a v w hR hE => ?_
    obtain ⟨hv_, H⟩ := hR
    have hv_ := hv_.symm
    subst hv_
    refine s1 hE rfl (d_assign hE rfl) fun a hE => ?_
    refine wpList_nil ?_
    refine wp_ret ?_
    cases hm
    exact ret1 rfl hE rfl ⟨_, rfl, rfl, H⟩
  · rw [if_neg c9461] at hm
    refine cF hE rfl (decide_eq_false c9461) ?_
    refine wp_skip ?_
    refine wp_seq ?_
    refine wp_region_lit ?_
    refine s1 hE rfl (d_move hE rfl) fun a hE => ?_
    obtain ⟨x9471, hc9472, hm⟩ := bnd hm
    refine s2 hE rfl (d_call c35 hE rfl (f35_ok k a0 hc9472 hr0 hz H)) fun a v w hR hE => ?_
    obtain ⟨v9473, v9474, g9475, hv_, H⟩ := hR
    have hv_ := hv_.symm
    subst hv_
    refine s1 hE rfl (d_move hE rfl) fun a hE => ?_
    refine s1 hE rfl (d_extract hE rfl rfl) fun a hE => ?_
    refine s1 hE rfl (d_extract hE rfl rfl) fun a hE => ?_
    refine s1 hE rfl (d_assign hE rfl) fun a hE => ?_
    refine s1 hE rfl (d_assign hE rfl) fun a hE => ?_
    refine wpList_nil ?_
    refine wp_seq ?_
    refine wp_seq ?_
    refine wp_region_lit ?_
    refine s1 hE rfl (d_move hE rfl) fun a hE => ?_
    obtain ⟨x9478, hc9479, hm⟩ := bnd hm
    refine s2 hE rfl (d_call c29 hE rfl (f29_ok k a0 hc9479 (Rd.cons (Rd.cons hr0)) H)) fun a v w hR hE => ?_
    obtain ⟨hv_, H⟩ := hR
    have hv_ := hv_.symm
    subst hv_
    refine s1 hE rfl (d_not hE rfl) fun a hE => ?_
    refine wpList_nil ?_
    by_cases c9492 : x9478 = true
    · rw [if_pos c9492] at hm
      refine cF hE rfl (not_f c9492) ?_
      refine wp_skip ?_
      refine wp_seq ?_
      refine wp_region_lit ?_
      refine s1 hE rfl (d_move hE rfl) fun a hE => ?_
      obtain ⟨x9496, hc9497, hm⟩ := bnd hm
      refine s2 hE rfl (d_call c36 hE rfl (f36_ok k a0 hc9497 (Rd.cons (Rd.cons hr0)) H)) fun a v w hR hE => ?_
      obtain ⟨v9498, hv_, H⟩ := hR
      have hv_ := hv_.symm
      subst hv_
      refine s1 hE rfl (d_assign hE rfl) fun a hE => ?_
      refine wpList_nil ?_
      refine wp_seq ?_
      refine wp_seq ?_
      obtain ⟨s9503, hj9503, hm⟩ := bnd hm
      refine cut2 (fun a w => Env a 123 [(0, u0), (4, v9474), (5, v9498), (44, (.bool s9503))] ∧ St z I w (MatO (cInt .u64) v9474 g9475 x9471.2 :: OwnSl (cInt .i64) v9498 x9496 :: r)) ?_ ?_
      · have hm := hj9503
        refine wp_region_lit ?_
        refine s1 hE rfl (d_move hE rfl) fun a hE => ?_
        refine s1 hE rfl (d_move hE rfl) fun a hE => ?_
        obtain ⟨x9504, hc9505, hm⟩ := bnd hm
        refine s2 hE rfl (d_call c37 hE rfl (f37_ok k x9471.1 x9496 hc9505 (Rd.own 1 rfl) (Rd.own 0 rfl) H)) fun a v w hR hE => ?_
        obtain ⟨hv_, H⟩ := hR
        have hv_ := hv_.symm
        subst hv_
        refine s1 hE rfl (d_not hE rfl) fun a hE => ?_
        refine s1 hE rfl (d_move hE rfl) fun a hE => ?_
        by_cases c9506 : x9504 = true
        · rw [if_pos c9506] at hm
          refine gR hE rfl rfl (not_f c9506) ?_
          refine s1 hE rfl (d_move hE rfl) fun a hE => ?_
          refine gR hE rfl rfl (not_f c9506) ?_
          refine s1 hE rfl (d_lenMat Try.underlying65 hE rfl H 2 rfl) fun a hE => ?_
          refine gR hE rfl rfl (not_f c9506) ?_
          refine s1 hE rfl (d_move hE rfl) fun a hE => ?_
          refine gR hE rfl rfl (not_f c9506) ?_
          refine s1 hE rfl (d_lenS Try.underlying51 hE rfl H (Rd.own 0 rfl)) fun a hE => ?_
          refine gR hE rfl rfl (not_f c9506) ?_
          refine s1 hE rfl (d_neq hE rfl rfl) fun a hE => ?_
          refine s1 hE rfl (d_pF hE rfl (not_f c9506) rfl) fun a hE => ?_
          refine wpList_nil ?_
          cases hm
          have H := St.get H 2 rfl
          have H := St.del H 2
          exact ⟨hE.sub ⟨rfl, rfl, rfl, rfl, trivial⟩, H⟩
        · rw [if_neg c9506] at hm
          refine gP hE rfl rfl rfl (not_t (b_f c9506)) fun a hE => ?_
          refine gP hE rfl rfl rfl (not_t (b_f c9506)) fun a hE => ?_
          refine gP hE rfl rfl rfl (not_t (b_f c9506)) fun a hE => ?_
          refine gP hE rfl rfl rfl (not_t (b_f c9506)) fun a hE => ?_
          refine gP hE rfl rfl rfl (not_t (b_f c9506)) fun a hE => ?_
          refine s1 hE rfl (d_pT hE rfl (not_t (b_f c9506)) rfl) fun a hE => ?_
          refine wpList_nil ?_
          cases hm
          have H := St.get H 2 rfl
          have H := St.del H 2
          exact ⟨hE.sub ⟨rfl, rfl, rfl, rfl, trivial⟩, H⟩
      · rintro a w ⟨hE, H⟩
        by_cases c9508 : s9503 = true
        · rw [if_pos c9508] at hm
          refine cT hE rfl c9508 ?_
          refine wp_seq ?_
          refine wp_region_lit ?_
          refine s1 hE rfl (d_assign hE rfl) fun a hE => ?_
          refine wpList_nil ?_
          refine wp_ret ?_
          cases hm
          have H := St.del H 0
          have H := St.del H 0
          exact ret1 rfl hE rfl ⟨_, rfl, rfl, H⟩
        · rw [if_neg c9508] at hm
          refine cF hE rfl (b_f c9508) ?_
          refine wp_skip ?_
          refine wp_seq ?_
          refine wp_seq ?_
          refine wp_region_lit ?_
          refine s1 hE rfl (d_assign hE rfl) fun a hE => ?_
          refine wpList_nil ?_
          obtain ⟨s15726, hj15726, hq15726⟩ := bnd hm
          refine cut2 (fun a w => ∃ s_ : Unit, s15726 = .go s_ ∧ Env a 123 [] ∧ St z I w (r)) ?_ ?_
          · refine wp_block ?_
            refine loopI (fun k a w => ∃ y12607 : Int, m5_l0 a0 x9471 x9496 k y12607 = some s15726 ∧ Env a 123 [(0, u0), (4, v9474), (5, v9498), (6, (.int .i64 y12607))] ∧ St z I w (MatO (cInt .u64) v9474 g9475 x9471.2 :: OwnSl (cInt .i64) v9498 x9496 :: r)) ?_ k _ _ ?_
            · rintro k a w ⟨y12607, hm, hE, H⟩
              cases k with
              | zero => rw [m5_l0] at hm; cases hm
              | succ k =>
                rw [m5_l0] at hm
                refine wp_seq ?_
                refine wp_seq ?_
                refine wp_region_lit ?_
                refine s1 hE rfl (d_move hE rfl) fun a hE => ?_
                refine s1 hE rfl (d_move hE rfl) fun a hE => ?_
                refine s1 hE rfl (d_lenS Try.underlying51 hE rfl H (Rd.own 1 rfl)) fun a hE => ?_
                refine s1 hE rfl (d_lss hE rfl rfl) fun a hE => ?_
                refine wpList_nil ?_
                by_cases c15728 : y12607 < (x9496.length : Int)
                · rw [if_pos c15728] at hm
                  refine cT hE rfl (decide_eq_true c15728) ?_
                  refine wp_skip ?_
                  refine wp_seq ?_
                  refine wp_block ?_
                  refine wp_seq ?_
                  refine wp_seq ?_
                  refine wp_region_lit ?_
                  refine s1 hE rfl (d_move hE rfl) fun a hE => ?_
                  refine s1 hE rfl (d_move hE rfl) fun a hE => ?_
                  obtain ⟨x17289, hx17290, hm⟩ := bnd hm
                  refine s1 hE rfl (d_indexMat sl65 hE rfl rfl H 0 rfl hx17290) fun a hE => ?_
                  refine s1 hE rfl (d_loadMat sc70 hE rfl H 0 rfl hx17290) fun a hE => ?_
                  refine s1 hE rfl (d_lenS Try.underlying70 hE rfl H (Rd.mat 0 rfl hx17290)) fun a hE => ?_
                  refine s1 hE rfl (d_move hE rfl) fun a hE => ?_
                  refine s1 hE rfl (d_lenS Try.underlying51 hE rfl H (Rd.own 1 rfl)) fun a hE => ?_
                  refine s1 hE rfl (d_neq hE rfl rfl) fun a hE => ?_
                  refine wpList_nil ?_
                  by_cases c17292 : (x17289.length : Int) = (x9496.length : Int)
                  · rw [if_pos c17292] at hm
                    refine cF hE rfl (not_f (decide_eq_true c17292)) ?_
                    refine wp_skip ?_
                    refine wp_seq ?_
                    refine wp_region_lit ?_
                    refine s1 hE rfl (d_assign hE rfl) fun a hE => ?_
                    refine wpList_nil ?_
                    obtain ⟨s18326, hj18326, hq18326⟩ := bnd hm
                    refine cut2 (fun a w => ∃ s_ : Unit, s18326 = .go s_ ∧ Env a 123 [(0, u0), (4, v9474), (5, v9498), (6, (.int .i64 y12607))] ∧ St z I w (MatO (cInt .u64) v9474 g9475 x9471.2 :: OwnSl (cInt .i64) v9498 x9496 :: r)) ?_ ?_
                    · refine wp_block ?_
                      refine loopI (fun k a w => ∃ y17807 : Int, m5_l1 a0 x9471 x9496 y12607 k y17807 = some s18326 ∧ Env a 123 [(0, u0), (4, v9474), (5, v9498), (6, (.int .i64 y12607)), (7, (.int .i64 y17807))] ∧ St z I w (MatO (cInt .u64) v9474 g9475 x9471.2 :: OwnSl (cInt .i64) v9498 x9496 :: r)) ?_ k _ _ ?_
                      · rintro k a w ⟨y17807, hm, hE, H⟩
                        cases k with
                        | zero => rw [m5_l1] at hm; cases hm
                        | succ k =>
                          rw [m5_l1] at hm
                          refine wp_seq ?_
                          refine wp_seq ?_
                          refine wp_region_lit ?_
                          refine s1 hE rfl (d_move hE rfl) fun a hE => ?_
                          refine s1 hE rfl (d_move hE rfl) fun a hE => ?_
                          refine s1 hE rfl (d_lenS Try.underlying51 hE rfl H (Rd.own 1 rfl)) fun a hE => ?_
                          refine s1 hE rfl (d_lss hE rfl rfl) fun a hE => ?_
                          refine wpList_nil ?_
                          by_cases c18328 : y17807 < (x9496.length : Int)
                          · rw [if_pos c18328] at hm
                            refine cT hE rfl (decide_eq_true c18328) ?_
                            refine wp_skip ?_
                            refine wp_seq ?_
                            refine wp_block ?_
                            refine wp_seq ?_
                            refine wp_seq ?_
                            obtain ⟨x18597, hx18598, hm⟩ := bnd hm
                            obtain ⟨x18599, hx18600, hm⟩ := bnd hm
                            obtain ⟨x18601, hx18602, hm⟩ := bnd hm
                            obtain ⟨x18603, hx18604, hm⟩ := bnd hm
                            obtain ⟨x18605, hc18606, hm⟩ := bnd hm
                            refine Dr.region (γ := Unit) (pre := [[], [], [0, 1], [0, 1, 2], [], [0, 1, 2, 3, 4], [0, 1, 2, 3, 4, 5], [], [], [], [8, 9], [8, 9, 10], [], [], [12, 13], [12, 13, 14], [7, 8, 9, 10, 11, 12, 13, 14, 15], [0, 1, 2, 3, 4, 5, 6, 7, 8, 9, 10, 11, 12, 13, 14, 15, 16]]) (val := [some v9474, some (.int .i64 y12607), some (.pointer (some (ad (sb v9474) (so v9474 + (Int.toNat y12607) * cV.n)))), some (g9475.getD (y12607).toNat nilS), some (.int .i64 y17807), some (.pointer (some (ad (sb (g9475.getD (y12607).toNat nilS)) (so (g9475.getD (y12607).toNat nilS) + (Int.toNat y17807) * (cInt .u64).n)))), some (.int .u64 x18599), some u0, some v9498, some (.int .i64 y12607), some (.pointer (some (ad (sb v9498) (so v9498 + (Int.toNat y12607) * (cInt .i64).n)))), some (.int .i64 x18601), some v9498, some (.int .i64 y17807), some (.pointer (some (ad (sb v9498) (so v9498 + (Int.toNat y17807) * (cInt .i64).n)))), some (.int .i64 x18603), some (.int .u64 x18605), some (.bool (!(decide (x18599 = x18605))))]) (eff := []) (mask := [[]]) (keys := [[]]) (src := [[.base 4], [.base 6], [.op 0, .op 1], [.op 2], [.base 7], [.op 3, .op 4], [.op 5], [.base 0], [.base 5], [.base 6], [.op 8, .op 9], [.op 10], [.base 5], [.base 7], [.op 12, .op 13], [.op 14], [.op 7, .op 11, .op 15], [.op 6, .op 16]]) (z := z) (ef := fun p g => ([[]] : List (List (Nat × Value))).getD p []) (hi := fun _ _ => I) (rs := fun p g => ([MatO (cInt .u64) v9474 g9475 x9471.2 :: OwnSl (cInt .i64) v9498 x9496 :: r] : List (List Asn)).getD p []) [(0, 0), (1, 0), (2, 0), (3, 0), (4, 0), (5, 0), (6, 0), (7, 0), (8, 0), (9, 0), (10, 0), (11, 0), (12, 0), (13, 0), (14, 0), (15, 0), (16, 0), (17, 0)] [] [0, 1, 2, 3, 4, 5, 6, 7, 8, 9, 10, 11, 12, 13, 14, 15, 16, 17] 0 mo hE () rfl H (by kernel_rfl) (by kernel_rfl) (fun p g => by cases p <;> rfl) ?_ ?_ (by kernel_rfl) (by kernel_rfl) ?_
                            · exact ⟨by intro a w g hE H; exact Dr.is H rfl (Dr.run rfl (d_move hE rfl)),
    by intro a w g hE H; exact Dr.is H rfl (Dr.run rfl (d_move hE rfl)),
    by intro a w g hE H; exact Dr.is H rfl (Dr.run rfl (d_indexMat sl65 hE rfl rfl H 0 rfl hx18598)),
    by intro a w g hE H; exact Dr.is H rfl (Dr.run rfl (d_loadMat sc70 hE rfl H 0 rfl hx18598)),
    by intro a w g hE H; exact Dr.is H rfl (Dr.run rfl (d_move hE rfl)),
    by intro a w g hE H; exact Dr.is H rfl (Dr.run rfl (d_indexS sl70 hE rfl rfl H (Rd.mat 0 rfl hx18598) hx18600)),
    by intro a w g hE H; exact Dr.is H rfl (Dr.run rfl (d_loadS1 sc61 hE rfl H (Rd.mat 0 rfl hx18598) hx18600 (fun _ _ e => e))),
    by intro a w g hE H; exact Dr.is H rfl (Dr.run rfl (d_move hE rfl)),
    by intro a w g hE H; exact Dr.is H rfl (Dr.run rfl (d_move hE rfl)),
    by intro a w g hE H; exact Dr.is H rfl (Dr.run rfl (d_move hE rfl)),
    by intro a w g hE H; exact Dr.is H rfl (Dr.run rfl (d_indexS sl51 hE rfl rfl H (Rd.own 1 rfl) hx18602)),
    by intro a w g hE H; exact Dr.is H rfl (Dr.run rfl (d_loadS1 sc3 hE rfl H (Rd.own 1 rfl) hx18602 (fun _ _ e => e))),
    by intro a w g hE H; exact Dr.is H rfl (Dr.run rfl (d_move hE rfl)),
    by intro a w g hE H; exact Dr.is H rfl (Dr.run rfl (d_move hE rfl)),
    by intro a w g hE H; exact Dr.is H rfl (Dr.run rfl (d_indexS sl51 hE rfl rfl H (Rd.own 1 rfl) hx18604)),
    by intro a w g hE H; exact Dr.is H rfl (Dr.run rfl (d_loadS1 sc3 hE rfl H (Rd.own 1 rfl) hx18604 (fun _ _ e => e))),
    by intro a w g hE H; exact (Dr.run rfl (d_call c38 hE rfl (f38_ok k a0 x18601 x18603 hc18606 (Rd.cons (Rd.cons hr0)) H))).mono fun v w' hR => by obtain ⟨rfl, H⟩ := hR; exact ⟨rfl, H⟩,
    by intro a w g hE H; exact Dr.is H rfl (Dr.run rfl (d_neq hE rfl rfl)),
    trivial⟩
                            · trivial
                            · intro a w g hE H
                              have H : St z I w (MatO (cInt .u64) v9474 g9475 x9471.2 :: OwnSl (cInt .i64) v9498 x9496 :: r) := H
                              by_cases c18608 : x18599 = x18605
                              · rw [if_pos c18608] at hm
                                refine cF hE rfl (not_f (decide_eq_true c18608)) ?_
                                refine wp_skip ?_
                                refine wp_seq ?_
                                refine wp_region_lit ?_
                                refine s1 hE rfl (d_assign hE rfl) fun a hE => ?_
                                refine wpList_nil ?_
                                obtain ⟨s18766, hj18766, hq18766⟩ := bnd hm
                                refine cut2 (fun a w => ∃ s_ : Unit, s18766 = .go s_ ∧ Env a 123 [(0, u0), (4, v9474), (5, v9498), (6, (.int .i64 y12607)), (7, (.int .i64 y17807))] ∧ St z I w (MatO (cInt .u64) v9474 g9475 x9471.2 :: OwnSl (cInt .i64) v9498 x9496 :: r)) ?_ ?_
                                · refine wp_block ?_
                                  refine loopI (fun k a w => ∃ y18687 : Int, m5_l2 x9471 x9496 y12607 y17807 k y18687 = some s18766 ∧ Env a 123 [(0, u0), (4, v9474), (5, v9498), (6, (.int .i64 y12607)), (7, (.int .i64 y17807)), (8, (.int .i64 y18687))] ∧ St z I w (MatO (cInt .u64) v9474 g9475 x9471.2 :: OwnSl (cInt .i64) v9498 x9496 :: r)) ?_ k _ _ ?_
                                  · rintro k a w ⟨y18687, hm, hE, H⟩
                                    cases k with
                                    | zero => rw [m5_l2] at hm; cases hm
                                    | succ k =>
                                      rw [m5_l2] at hm
                                      refine wp_seq ?_
                                      refine wp_seq ?_
                                      refine wp_region_lit ?_
                                      refine s1 hE rfl (d_move hE rfl) fun a hE => ?_
                                      refine s1 hE rfl (d_move hE rfl) fun a hE => ?_
                                      refine s1 hE rfl (d_lenS Try.underlying51 hE rfl H (Rd.own 1 rfl)) fun a hE => ?_
                                      refine s1 hE rfl (d_lss hE rfl rfl) fun a hE => ?_
                                      refine wpList_nil ?_
                                      by_cases c18768 : y18687 < (x9496.length : Int)
                                      · rw [if_pos c18768] at hm
                                        refine cT hE rfl (decide_eq_true c18768) ?_
                                        refine wp_skip ?_
                                        refine wp_seq ?_
                                        refine wp_block ?_
                                        refine wp_seq ?_
                                        obtain ⟨s18825, hj18825, hm⟩ := bnd hm
                                        refine cut2 (fun a w => Env a 123 [(0, u0), (4, v9474), (5, v9498), (6, (.int .i64 y12607)), (7, (.int .i64 y17807)), (8, (.int .i64 y18687)), (121, (.bool s18825))] ∧ St z I w (MatO (cInt .u64) v9474 g9475 x9471.2 :: OwnSl (cInt .i64) v9498 x9496 :: r)) ?_ ?_
                                        · have hm := hj18825
                                          obtain ⟨x18826, hx18827, hm⟩ := bnd hm
                                          by_cases c18828 : (x18826.length : Int) = (x9496.length : Int)
                                          · rw [if_pos c18828] at hm
                                            obtain ⟨x18829, hx18830, hm⟩ := bnd hm
                                            obtain ⟨x18831, hx18832, hm⟩ := bnd hm
                                            obtain ⟨x18833, hx18834, hm⟩ := bnd hm
                                            obtain ⟨x18835, hx18836, hm⟩ := bnd hm
                                            obtain ⟨x18837, hx18838, hm⟩ := bnd hm
                                            obtain ⟨x18839, hx18840, hm⟩ := bnd hm
                                            obtain ⟨x18841, hc18842, hm⟩ := bnd hm
                                            refine Dr.region (γ := Unit) (pre := [[], [], [0, 1], [0, 1, 2], [0, 1, 2, 3], [], [5], [0, 1, 2, 3, 4, 5, 6], [0, 1, 2, 3, 4, 5, 6, 7], [0, 1, 2, 3, 4, 5, 6, 7, 8], [0, 1, 2, 3, 4, 5, 6, 7, 8], [0, 1, 2, 3, 4, 5, 6, 7, 8, 9, 10], [0, 1, 2, 3, 4, 5, 6, 7, 8, 9, 10, 11], [0, 1, 2, 3, 4, 5, 6, 7, 8], [0, 1, 2, 3, 4, 5, 6, 7, 8, 9, 10, 11, 12, 13], [0, 1, 2, 3, 4, 5, 6, 7, 8, 9, 10, 11, 12, 13, 14], [0, 1, 2, 3, 4, 5, 6, 7, 8], [0, 1, 2, 3, 4, 5, 6, 7, 8], [0, 1, 2, 3, 4, 5, 6, 7, 8, 16, 17], [0, 1, 2, 3, 4, 5, 6, 7, 8, 16, 17, 18], [0, 1, 2, 3, 4, 5, 6, 7, 8], [0, 1, 2, 3, 4, 5, 6, 7, 8, 16, 17, 18, 19, 20], [0, 1, 2, 3, 4, 5, 6, 7, 8, 16, 17, 18, 19, 20, 21], [0, 1, 2, 3, 4, 5, 6, 7, 8], [0, 1, 2, 3, 4, 5, 6, 7, 8], [0, 1, 2, 3, 4, 5, 6, 7, 8, 23, 24], [0, 1, 2, 3, 4, 5, 6, 7, 8, 23, 24, 25], [0, 1, 2, 3, 4, 5, 6, 7, 8], [0, 1, 2, 3, 4, 5, 6, 7, 8, 23, 24, 25, 26, 27], [0, 1, 2, 3, 4, 5, 6, 7, 8, 23, 24, 25, 26, 27, 28], [0, 1, 2, 3, 4, 5, 6, 7, 8, 16, 17, 18, 19, 20, 21, 22, 23, 24, 25, 26, 27, 28, 29], [0, 1, 2, 3, 4, 5, 6, 7, 8, 9, 10, 11, 12, 13, 14, 15, 16, 17, 18, 19, 20, 21, 22, 23, 24, 25, 26, 27, 28, 29, 30], [0, 1, 2, 3, 4, 5, 6, 7, 8, 9, 10, 11, 12, 13, 14, 15, 16, 17, 18, 19, 20, 21, 22, 23, 24, 25, 26, 27, 28, 29, 30, 31]]) (val := [some v9474, some (.int .i64 y18687), some (.pointer (some (ad (sb v9474) (so v9474 + (Int.toNat y18687) * cV.n)))), some (g9475.getD (y18687).toNat nilS), some (.int .i64 (x18826.length : Int)), some v9498, some (.int .i64 (x9496.length : Int)), some (.bool (!(decide ((x18826.length : Int) = (x9496.length : Int))))), some (.bool (!(decide ((x18826.length : Int) = (x9496.length : Int))))), some v9474, some (.int .i64 y12607), some (.pointer (some (ad (sb v9474) (so v9474 + (Int.toNat y12607) * cV.n)))), some (g9475.getD (y12607).toNat nilS), some (.int .i64 y17807), some (.pointer (some (ad (sb (g9475.getD (y12607).toNat nilS)) (so (g9475.getD (y12607).toNat nilS) + (Int.toNat y17807) * (cInt .u64).n)))), some (.int .u64 x18831), some v9474, some (.int .i64 y12607), some (.pointer (some (ad (sb v9474) (so v9474 + (Int.toNat y12607) * cV.n)))), some (g9475.getD (y12607).toNat nilS), some (.int .i64 y18687), some (.pointer (some (ad (sb (g9475.getD (y12607).toNat nilS)) (so (g9475.getD (y12607).toNat nilS) + (Int.toNat y18687) * (cInt .u64).n)))), some (.int .u64 x18835), some v9474, some (.int .i64 y18687), some (.pointer (some (ad (sb v9474) (so v9474 + (Int.toNat y18687) * cV.n)))), some (g9475.getD (y18687).toNat nilS), some (.int .i64 y17807), some (.pointer (some (ad (sb (g9475.getD (y18687).toNat nilS)) (so (g9475.getD (y18687).toNat nilS) + (Int.toNat y17807) * (cInt .u64).n)))), some (.int .u64 x18839), some (.int .u64 x18841), some (.bool (decide (x18841 < x18831))), some (.bool (decide (x18841 < x18831)))]) (eff := []) (mask := [[]]) (keys := [[]]) (src := [[.base 4], [.base 8], [.op 0, .op 1], [.op 2], [.op 3], [.base 5], [.op 5], [.op 4, .op 6], [.op 7], [.base 4, .op 8], [.base 6, .op 8], [.op 8, .op 9, .op 10], [.op 8, .op 11], [.base 7, .op 8], [.op 8, .op 12, .op 13], [.op 8, .op 14], [.base 4, .op 8], [.base 6, .op 8], [.op 8, .op 16, .op 17], [.op 8, .op 18], [.base 8, .op 8], [.op 8, .op 19, .op 20], [.op 8, .op 21], [.base 4, .op 8], [.base 8, .op 8], [.op 8, .op 23, .op 24], [.op 8, .op 25], [.base 7, .op 8], [.op 8, .op 26, .op 27], [.op 8, .op 28], [.op 8, .op 22, .op 29], [.op 8, .op 15, .op 30], [.op 8, .op 31]]) (z := z) (ef := fun p g => ([[]] : List (List (Nat × Value))).getD p []) (hi := fun _ _ => I) (rs := fun p g => ([MatO (cInt .u64) v9474 g9475 x9471.2 :: OwnSl (cInt .i64) v9498 x9496 :: r] : List (List Asn)).getD p []) [(0, 0), (1, 0), (2, 0), (3, 0), (4, 0), (5, 0), (6, 0), (7, 0), (8, 0), (9, 0), (10, 0), (11, 0), (12, 0), (13, 0), (14, 0), (15, 0), (16, 0), (17, 0), (18, 0), (19, 0), (20, 0), (21, 0), (22, 0), (23, 0), (24, 0), (25, 0), (26, 0), (27, 0), (28, 0), (29, 0), (30, 0), (31, 0), (32, 0)] [] [0, 1, 2, 3, 4, 5, 6, 7, 8, 9, 10, 11, 12, 13, 14, 15, 16, 17, 18, 19, 20, 21, 22, 23, 24, 25, 26, 27, 28, 29, 30, 31, 32] 0 mo hE () rfl H (by kernel_rfl) (by kernel_rfl) (fun p g => by cases p <;> rfl) ?_ ?_ (by kernel_rfl) (by kernel_rfl) ?_
                                            · exact ⟨by intro a w g hE H; exact Dr.is H rfl (Dr.run rfl (d_move hE rfl)),
    by intro a w g hE H; exact Dr.is H rfl (Dr.run rfl (d_move hE rfl)),
    by intro a w g hE H; exact Dr.is H rfl (Dr.run rfl (d_indexMat sl65 hE rfl rfl H 0 rfl hx18827)),
    by intro a w g hE H; exact Dr.is H rfl (Dr.run rfl (d_loadMat sc70 hE rfl H 0 rfl hx18827)),
    by intro a w g hE H; exact Dr.is H rfl (Dr.run rfl (d_lenS Try.underlying70 hE rfl H (Rd.mat 0 rfl hx18827))),
    by intro a w g hE H; exact Dr.is H rfl (Dr.run rfl (d_move hE rfl)),
    by intro a w g hE H; exact Dr.is H rfl (Dr.run rfl (d_lenS Try.underlying51 hE rfl H (Rd.own 1 rfl))),
    by intro a w g hE H; exact Dr.is H rfl (Dr.run rfl (d_neq hE rfl rfl)),
    by intro a w g hE H; exact Dr.is H rfl (Dr.run rfl (d_move hE rfl)),
    by intro a w g hE H; exact Dr.is H rfl (Dr.rG rfl hE rfl rfl (not_f (decide_eq_true c18828)) (d_move hE rfl)),
    by intro a w g hE H; exact Dr.is H rfl (Dr.rG rfl hE rfl rfl (not_f (decide_eq_true c18828)) (d_move hE rfl)),
    by intro a w g hE H; exact Dr.is H rfl (Dr.rG rfl hE rfl rfl (not_f (decide_eq_true c18828)) (d_indexMat sl65 hE rfl rfl H 0 rfl hx18830)),
    by intro a w g hE H; exact Dr.is H rfl (Dr.rG rfl hE rfl rfl (not_f (decide_eq_true c18828)) (d_loadMat sc70 hE rfl H 0 rfl hx18830)),
    by intro a w g hE H; exact Dr.is H rfl (Dr.rG rfl hE rfl rfl (not_f (decide_eq_true c18828)) (d_move hE rfl)),
    by intro a w g hE H; exact Dr.is H rfl (Dr.rG rfl hE rfl rfl (not_f (decide_eq_true c18828)) (d_indexS sl70 hE rfl rfl H (Rd.mat 0 rfl hx18830) hx18832)),
    by intro a w g hE H; exact Dr.is H rfl (Dr.rG rfl hE rfl rfl (not_f (decide_eq_true c18828)) (d_loadS1 sc61 hE rfl H (Rd.mat 0 rfl hx18830) hx18832 (fun _ _ e => e))),
    by intro a w g hE H; exact Dr.is H rfl (Dr.rG rfl hE rfl rfl (not_f (decide_eq_true c18828)) (d_move hE rfl)),
    by intro a w g hE H; exact Dr.is H rfl (Dr.rG rfl hE rfl rfl (not_f (decide_eq_true c18828)) (d_move hE rfl)),
    by intro a w g hE H; exact Dr.is H rfl (Dr.rG rfl hE rfl rfl (not_f (decide_eq_true c18828)) (d_indexMat sl65 hE rfl rfl H 0 rfl hx18834)),
    by intro a w g hE H; exact Dr.is H rfl (Dr.rG rfl hE rfl rfl (not_f (decide_eq_true c18828)) (d_loadMat sc70 hE rfl H 0 rfl hx18834)),
    by intro a w g hE H; exact Dr.is H rfl (Dr.rG rfl hE rfl rfl (not_f (decide_eq_true c18828)) (d_move hE rfl)),
    by intro a w g hE H; exact Dr.is H rfl (Dr.rG rfl hE rfl rfl (not_f (decide_eq_true c18828)) (d_indexS sl70 hE rfl rfl H (Rd.mat 0 rfl hx18834) hx18836)),
    by intro a w g hE H; exact Dr.is H rfl (Dr.rG rfl hE rfl rfl (not_f (decide_eq_true c18828)) (d_loadS1 sc61 hE rfl H (Rd.mat 0 rfl hx18834) hx18836 (fun _ _ e => e))),
    by intro a w g hE H; exact Dr.is H rfl (Dr.rG rfl hE rfl rfl (not_f (decide_eq_true c18828)) (d_move hE rfl)),
    by intro a w g hE H; exact Dr.is H rfl (Dr.rG rfl hE rfl rfl (not_f (decide_eq_true c18828)) (d_move hE rfl)),
    by intro a w g hE H; exact Dr.is H rfl (Dr.rG rfl hE rfl rfl (not_f (decide_eq_true c18828)) (d_indexMat sl65 hE rfl rfl H 0 rfl hx18838)),
    by intro a w g hE H; exact Dr.is H rfl (Dr.rG rfl hE rfl rfl (not_f (decide_eq_true c18828)) (d_loadMat sc70 hE rfl H 0 rfl hx18838)),
    by intro a w g hE H; exact Dr.is H rfl (Dr.rG rfl hE rfl rfl (not_f (decide_eq_true c18828)) (d_move hE rfl)),
    by intro a w g hE H; exact Dr.is H rfl (Dr.rG rfl hE rfl rfl (not_f (decide_eq_true c18828)) (d_indexS sl70 hE rfl rfl H (Rd.mat 0 rfl hx18838) hx18840)),
    by intro a w g hE H; exact Dr.is H rfl (Dr.rG rfl hE rfl rfl (not_f (decide_eq_true c18828)) (d_loadS1 sc61 hE rfl H (Rd.mat 0 rfl hx18838) hx18840 (fun _ _ e => e))),
    by intro a w g hE H; exact (Dr.rG rfl hE rfl rfl (not_f (decide_eq_true c18828)) (d_call c39 hE rfl (f39_ok x18835 x18839 hc18842  H))).mono fun v w' hR => by obtain ⟨rfl, H⟩ := hR; exact ⟨rfl, H⟩,
    by intro a w g hE H; exact Dr.is H rfl (Dr.rG rfl hE rfl rfl (not_f (decide_eq_true c18828)) (d_gtr hE rfl rfl)),
    by intro a w g hE H; exact Dr.is H rfl (Dr.run rfl (d_pF hE rfl (not_f (decide_eq_true c18828)) rfl)),
    trivial⟩
                                            · trivial
                                            · intro a w g hE H
                                              have H : St z I w (MatO (cInt .u64) v9474 g9475 x9471.2 :: OwnSl (cInt .i64) v9498 x9496 :: r) := H
                                              cases hm
                                              exact ⟨hE.sub ⟨rfl, rfl, rfl, rfl, rfl, rfl, rfl, trivial⟩, H⟩
                                          · rw [if_neg c18828] at hm
                                            refine Dr.region (γ := Unit) (pre := [[], [], [0, 1], [0, 1, 2], [0, 1, 2, 3], [], [5], [0, 1, 2, 3, 4, 5, 6], [0, 1, 2, 3, 4, 5, 6, 7], [0, 1, 2, 3, 4, 5, 6, 7, 8], [0, 1, 2, 3, 4, 5, 6, 7, 8], [0, 1, 2, 3, 4, 5, 6, 7, 8, 9, 10], [0, 1, 2, 3, 4, 5, 6, 7, 8, 9, 10, 11], [0, 1, 2, 3, 4, 5, 6, 7, 8], [0, 1, 2, 3, 4, 5, 6, 7, 8, 9, 10, 11, 12, 13], [0, 1, 2, 3, 4, 5, 6, 7, 8, 9, 10, 11, 12, 13, 14], [0, 1, 2, 3, 4, 5, 6, 7, 8], [0, 1, 2, 3, 4, 5, 6, 7, 8], [0, 1, 2, 3, 4, 5, 6, 7, 8, 16, 17], [0, 1, 2, 3, 4, 5, 6, 7, 8, 16, 17, 18], [0, 1, 2, 3, 4, 5, 6, 7, 8], [0, 1, 2, 3, 4, 5, 6, 7, 8, 16, 17, 18, 19, 20], [0, 1, 2, 3, 4, 5, 6, 7, 8, 16, 17, 18, 19, 20, 21], [0, 1, 2, 3, 4, 5, 6, 7, 8], [0, 1, 2, 3, 4, 5, 6, 7, 8], [0, 1, 2, 3, 4, 5, 6, 7, 8, 23, 24], [0, 1, 2, 3, 4, 5, 6, 7, 8, 23, 24, 25], [0, 1, 2, 3, 4, 5, 6, 7, 8], [0, 1, 2, 3, 4, 5, 6, 7, 8, 23, 24, 25, 26, 27], [0, 1, 2, 3, 4, 5, 6, 7, 8, 23, 24, 25, 26, 27, 28], [0, 1, 2, 3, 4, 5, 6, 7, 8, 16, 17, 18, 19, 20, 21, 22, 23, 24, 25, 26, 27, 28, 29], [0, 1, 2, 3, 4, 5, 6, 7, 8, 9, 10, 11, 12, 13, 14, 15, 16, 17, 18, 19, 20, 21, 22, 23, 24, 25, 26, 27, 28, 29, 30], [0, 1, 2, 3, 4, 5, 6, 7, 8, 9, 10, 11, 12, 13, 14, 15, 16, 17, 18, 19, 20, 21, 22, 23, 24, 25, 26, 27, 28, 29, 30, 31]]) (val := [some v9474, some (.int .i64 y18687), some (.pointer (some (ad (sb v9474) (so v9474 + (Int.toNat y18687) * cV.n)))), some (g9475.getD (y18687).toNat nilS), some (.int .i64 (x18826.length : Int)), some v9498, some (.int .i64 (x9496.length : Int)), some (.bool (!(decide ((x18826.length : Int) = (x9496.length : Int))))), some (.bool (!(decide ((x18826.length : Int) = (x9496.length : Int))))), some undef, some undef, some undef, some undef, some undef, some undef, some undef, some undef, some undef, some undef, some undef, some undef, some undef, some undef, some undef, some undef, some undef, some undef, some undef, some undef, some undef, some undef, some undef, some (.bool true)]) (eff := []) (mask := [[]]) (keys := [[]]) (src := [[.base 4], [.base 8], [.op 0, .op 1], [.op 2], [.op 3], [.base 5], [.op 5], [.op 4, .op 6], [.op 7], [.base 4, .op 8], [.base 6, .op 8], [.op 8, .op 9, .op 10], [.op 8, .op 11], [.base 7, .op 8], [.op 8, .op 12, .op 13], [.op 8, .op 14], [.base 4, .op 8], [.base 6, .op 8], [.op 8, .op 16, .op 17], [.op 8, .op 18], [.base 8, .op 8], [.op 8, .op 19, .op 20], [.op 8, .op 21], [.base 4, .op 8], [.base 8, .op 8], [.op 8, .op 23, .op 24], [.op 8, .op 25], [.base 7, .op 8], [.op 8, .op 26, .op 27], [.op 8, .op 28], [.op 8, .op 22, .op 29], [.op 8, .op 15, .op 30], [.op 8, .op 31]]) (z := z) (ef := fun p g => ([[]] : List (List (Nat × Value))).getD p []) (hi := fun _ _ => I) (rs := fun p g => ([MatO (cInt .u64) v9474 g9475 x9471.2 :: OwnSl (cInt .i64) v9498 x9496 :: r] : List (List Asn)).getD p []) [(0, 0), (1, 0), (2, 0), (3, 0), (4, 0), (5, 0), (6, 0), (7, 0), (8, 0), (9, 0), (10, 0), (11, 0), (12, 0), (13, 0), (14, 0), (15, 0), (16, 0), (17, 0), (18, 0), (19, 0), (20, 0), (21, 0), (22, 0), (23, 0), (24, 0), (25, 0), (26, 0), (27, 0), (28, 0), (29, 0), (30, 0), (31, 0), (32, 0)] [] [0, 1, 2, 3, 4, 5, 6, 7, 8, 9, 10, 11, 12, 13, 14, 15, 16, 17, 18, 19, 20, 21, 22, 23, 24, 25, 26, 27, 28, 29, 30, 31, 32] 0 mo hE () rfl H (by kernel_rfl) (by kernel_rfl) (fun p g => by cases p <;> rfl) ?_ ?_ (by kernel_rfl) (by kernel_rfl) ?_
                                            · exact ⟨by intro a w g hE H; exact Dr.is H rfl (Dr.run rfl (d_move hE rfl)),
    by intro a w g hE H; exact Dr.is H rfl (Dr.run rfl (d_move hE rfl)),
    by intro a w g hE H; exact Dr.is H rfl (Dr.run rfl (d_indexMat sl65 hE rfl rfl H 0 rfl hx18827)),
    by intro a w g hE H; exact Dr.is H rfl (Dr.run rfl (d_loadMat sc70 hE rfl H 0 rfl hx18827)),
    by intro a w g hE H; exact Dr.is H rfl (Dr.run rfl (d_lenS Try.underlying70 hE rfl H (Rd.mat 0 rfl hx18827))),
    by intro a w g hE H; exact Dr.is H rfl (Dr.run rfl (d_move hE rfl)),
    by intro a w g hE H; exact Dr.is H rfl (Dr.run rfl (d_lenS Try.underlying51 hE rfl H (Rd.own 1 rfl))),
    by intro a w g hE H; exact Dr.is H rfl (Dr.run rfl (d_neq hE rfl rfl)),
    by intro a w g hE H; exact Dr.is H rfl (Dr.run rfl (d_move hE rfl)),
    by intro a w g hE H; exact Dr.is H rfl (Dr.pG rfl hE rfl rfl (not_t (decide_eq_false c18828)) ⟨rfl, rfl⟩),
    by intro a w g hE H; exact Dr.is H rfl (Dr.pG rfl hE rfl rfl (not_t (decide_eq_false c18828)) ⟨rfl, rfl⟩),
    by intro a w g hE H; exact Dr.is H rfl (Dr.pG rfl hE rfl rfl (not_t (decide_eq_false c18828)) ⟨rfl, rfl⟩),
    by intro a w g hE H; exact Dr.is H rfl (Dr.pG rfl hE rfl rfl (not_t (decide_eq_false c18828)) ⟨rfl, rfl⟩),
    by intro a w g hE H; exact Dr.is H rfl (Dr.pG rfl hE rfl rfl (not_t (decide_eq_false c18828)) ⟨rfl, rfl⟩),
    by intro a w g hE H; exact Dr.is H rfl (Dr.pG rfl hE rfl rfl (not_t (decide_eq_false c18828)) ⟨rfl, rfl⟩),
    by intro a w g hE H; exact Dr.is H rfl (Dr.pG rfl hE rfl rfl (not_t (decide_eq_false c18828)) ⟨rfl, rfl⟩),
    by intro a w g hE H; exact Dr.is H rfl (Dr.pG rfl hE rfl rfl (not_t (decide_eq_false c18828)) ⟨rfl, rfl⟩),
    by intro a w g hE H; exact Dr.is H rfl (Dr.pG rfl hE rfl rfl (not_t (decide_eq_false c18828)) ⟨rfl, rfl⟩),
    by intro a w g hE H; exact Dr.is H rfl (Dr.pG rfl hE rfl rfl (not_t (decide_eq_false c18828)) ⟨rfl, rfl⟩),
    by intro a w g hE H; exact Dr.is H rfl (Dr.pG rfl hE rfl rfl (not_t (decide_eq_false c18828)) ⟨rfl, rfl⟩),
    by intro a w g hE H; exact Dr.is H rfl (Dr.pG rfl hE rfl rfl (not_t (decide_eq_false c18828)) ⟨rfl, rfl⟩),
    by intro a w g hE H; exact Dr.is H rfl (Dr.pG rfl hE rfl rfl (not_t (decide_eq_false c18828)) ⟨rfl, rfl⟩),
    by intro a w g hE H; exact Dr.is H rfl (Dr.pG rfl hE rfl rfl (not_t (decide_eq_false c18828)) ⟨rfl, rfl⟩),
    by intro a w g hE H; exact Dr.is H rfl (Dr.pG rfl hE rfl rfl (not_t (decide_eq_false c18828)) ⟨rfl, rfl⟩),
    by intro a w g hE H; exact Dr.is H rfl (Dr.pG rfl hE rfl rfl (not_t (decide_eq_false c18828)) ⟨rfl, rfl⟩),
    by intro a w g hE H; exact Dr.is H rfl (Dr.pG rfl hE rfl rfl (not_t (decide_eq_false c18828)) ⟨rfl, rfl⟩),
    by intro a w g hE H; exact Dr.is H rfl (Dr.pG rfl hE rfl rfl (not_t (decide_eq_false c18828)) ⟨rfl, rfl⟩),
    by intro a w g hE H; exact Dr.is H rfl (Dr.pG rfl hE rfl rfl (not_t (decide_eq_false c18828)) ⟨rfl, rfl⟩),
    by intro a w g hE H; exact Dr.is H rfl (Dr.pG rfl hE rfl rfl (not_t (decide_eq_false c18828)) ⟨rfl, rfl⟩),
    by intro a w g hE H; exact Dr.is H rfl (Dr.pG rfl hE rfl rfl (not_t (decide_eq_false c18828)) ⟨rfl, rfl⟩),
    by intro a w g hE H; exact Dr.is H rfl (Dr.pG rfl hE rfl rfl (not_t (decide_eq_false c18828)) ⟨rfl, rfl⟩),
    by intro a w g hE H; exact Dr.is H rfl (Dr.pG rfl hE rfl rfl (not_t (decide_eq_false c18828)) ⟨rfl, rfl⟩),
    by intro a w g hE H; exact Dr.is H rfl (Dr.run rfl (d_pT hE rfl (not_t (decide_eq_false c18828)) rfl)),
    trivial⟩
                                            · trivial
                                            · intro a w g hE H
                                              have H : St z I w (MatO (cInt .u64) v9474 g9475 x9471.2 :: OwnSl (cInt .i64) v9498 x9496 :: r) := H
                                              cases hm
                                              exact ⟨hE.sub ⟨rfl, rfl, rfl, rfl, rfl, rfl, rfl, trivial⟩, H⟩
                                        · rintro a w ⟨hE, H⟩
                                          by_cases c18844 : s18825 = true
                                          · rw [if_pos c18844] at hm
                                            refine cT hE rfl c18844 ?_
                                            refine wp_seq ?_
                                            refine wp_region_lit ?_
                                            refine s1 hE rfl (d_assign hE rfl) fun a hE => ?_
                                            refine wpList_nil ?_
                                            refine wp_ret ?_
                                            cases hm
                                            have hm := hq18766
                                            simp only [Out.on] at hm
                                            cases hm
                                            have hm := hq18326
                                            simp only [Out.on] at hm
                                            cases hm
                                            have hm := hq15726
                                            simp only [Out.on] at hm
                                            cases hm
                                            have H := St.del H 0
                                            have H := St.del H 0
                                            exact ret1 rfl hE rfl ⟨_, rfl, rfl, H⟩
                                          · rw [if_neg c18844] at hm
                                            refine cF hE rfl (b_f c18844) ?_
                                            refine wp_skip ?_
                                            refine wp_region_lit ?_
                                            refine s1 hE rfl (d_move hE rfl) fun a hE => ?_
                                            refine s1 hE rfl (d_add hE rfl rfl) fun a hE => ?_
                                            refine s1 hE rfl (d_assign hE rfl) fun a hE => ?_
                                            refine wpList_nil ?_
                                            exact ⟨k, Nat.lt_succ_self k, IntKind.i64.wrap (y18687 + 1), hm, hE.sub ⟨rfl, rfl, rfl, rfl, rfl, rfl, trivial⟩, H⟩
                                      · rw [if_neg c18768] at hm
                                        refine cF hE rfl (decide_eq_false c18768) ?_
                                        refine wp_exit ?_
                                        cases hm
                                        exact ⟨_, rfl, hE.sub ⟨rfl, rfl, rfl, rfl, rfl, trivial⟩, H⟩
                                  · exact ⟨0, hj18766, hE.sub ⟨rfl, rfl, rfl, rfl, rfl, rfl, trivial⟩, H⟩
                                · rintro a w ⟨s18766, rfl, hE, H⟩
                                  have hm := hq18766
                                  simp only [Out.on] at hm
                                  refine wp_region_lit ?_
                                  refine s1 hE rfl (d_move hE rfl) fun a hE => ?_
                                  refine s1 hE rfl (d_add hE rfl rfl) fun a hE => ?_
                                  refine s1 hE rfl (d_assign hE rfl) fun a hE => ?_
                                  refine wpList_nil ?_
                                  exact ⟨k, Nat.lt_succ_self k, IntKind.i64.wrap (y17807 + 1), hm, hE.sub ⟨rfl, rfl, rfl, rfl, rfl, trivial⟩, H⟩
                              · rw [if_neg c18608] at hm
                                refine cT hE rfl (not_t (decide_eq_false c18608)) ?_
                                refine wp_seq ?_
                                refine wp_region_lit ?_
                                refine s1 hE rfl (d_assign hE rfl) fun a hE => ?_
                                refine wpList_nil ?_
                                refine wp_ret ?_
                                cases hm
                                have hm := hq18326
                                simp only [Out.on] at hm
                                cases hm
                                have hm := hq15726
                                simp only [Out.on] at hm
                                cases hm
                                have H := St.del H 0
                                have H := St.del H 0
                                exact ret1 rfl hE rfl ⟨_, rfl, rfl, H⟩
                          · rw [if_neg c18328] at hm
                            refine cF hE rfl (decide_eq_false c18328) ?_
                            refine wp_exit ?_
                            cases hm
                            exact ⟨_, rfl, hE.sub ⟨rfl, rfl, rfl, rfl, trivial⟩, H⟩
                      · exact ⟨0, hj18326, hE.sub ⟨rfl, rfl, rfl, rfl, rfl, trivial⟩, H⟩
                    · rintro a w ⟨s18326, rfl, hE, H⟩
                      have hm := hq18326
                      simp only [Out.on] at hm
                      refine wp_region_lit ?_
                      refine s1 hE rfl (d_move hE rfl) fun a hE => ?_
                      refine s1 hE rfl (d_add hE rfl rfl) fun a hE => ?_
                      refine s1 hE rfl (d_assign hE rfl) fun a hE => ?_
                      refine wpList_nil ?_
                      exact ⟨k, Nat.lt_succ_self k, IntKind.i64.wrap (y12607 + 1), hm, hE.sub ⟨rfl, rfl, rfl, rfl, trivial⟩, H⟩
                  · rw [if_neg c17292] at hm
                    refine cT hE rfl (not_t (decide_eq_false c17292)) ?_
                    refine wp_seq ?_
                    refine wp_region_lit ?_
                    refine s1 hE rfl (d_assign hE rfl) fun a hE => ?_
                    refine wpList_nil ?_
                    refine wp_ret ?_
                    cases hm
                    have hm := hq15726
                    simp only [Out.on] at hm
                    cases hm
                    have H := St.del H 0
                    have H := St.del H 0
                    exact ret1 rfl hE rfl ⟨_, rfl, rfl, H⟩
                · rw [if_neg c15728] at hm
                  refine cF hE rfl (decide_eq_false c15728) ?_
                  refine wp_exit ?_
                  cases hm
                  have H := St.del H 0
                  have H := St.del H 0
                  exact ⟨_, rfl, hE.sub trivial, H⟩
            · exact ⟨0, hj15726, hE.sub ⟨rfl, rfl, rfl, rfl, trivial⟩, H⟩
          · rintro a w ⟨s15726, rfl, hE, H⟩
            have hm := hq15726
            simp only [Out.on] at hm
            refine wp_seq ?_
            refine wp_region_lit ?_
            obtain ⟨x18847, hc18848, hm⟩ := bnd hm
            refine s2 hE rfl (d_call c34 hE rfl (f34_ok k  hc18848 hz H)) fun a v w hR hE => ?_
            obtain ⟨hv_, H⟩ := hR
            have hv_ := hv_.symm
            subst hv_
            refine s1 hE rfl (d_assign hE rfl) fun a hE => ?_
            refine wpList_nil ?_
            refine wp_ret ?_
            cases hm
            exact ret1 rfl hE rfl ⟨_, rfl, rfl, H⟩
    · rw [if_neg c9492] at hm
      refine cT hE rfl (not_t (b_f c9492)) ?_
      refine wp_seq ?_
      obtain ⟨s18855, hj18855, hm⟩ := bnd hm
      refine cut2 (fun a w => Env a 123 [(2, (.bool s18855))] ∧ St z I w (r)) ?_ ?_
      · have hm := hj18855
        refine wp_region_lit ?_
        refine s1 hE rfl (d_move hE rfl) fun a hE => ?_
        refine s1 hE rfl (d_lenS Try.underlying51 hE rfl H (Rd.own 0 rfl)) fun a hE => ?_
        refine s1 hE rfl (d_eql hE rfl rfl) fun a hE => ?_
        refine s1 hE rfl (d_move hE rfl) fun a hE => ?_
        by_cases c18856 : (x9471.1.length : Int) = 0
        · rw [if_pos c18856] at hm
          refine gR hE rfl rfl (decide_eq_true c18856) ?_
          refine s1 hE rfl (d_move hE rfl) fun a hE => ?_
          refine gR hE rfl rfl (decide_eq_true c18856) ?_
          refine s1 hE rfl (d_lenMat Try.underlying65 hE rfl H 1 rfl) fun a hE => ?_
          refine gR hE rfl rfl (decide_eq_true c18856) ?_
          refine s1 hE rfl (d_eql hE rfl rfl) fun a hE => ?_
          refine s1 hE rfl (d_pT hE rfl (decide_eq_true c18856) rfl) fun a hE => ?_
          refine s1 hE rfl (d_move hE rfl) fun a hE => ?_
          by_cases c18857 : (x9471.2.length : Int) = 0
          · rw [if_pos c18857] at hm
            refine gR hE rfl rfl (decide_eq_true c18857) ?_
            obtain ⟨x18858, hc18859, hm⟩ := bnd hm
            refine s2 hE rfl (d_call c34 hE rfl (f34_ok k  hc18859 hz H)) fun a v w hR hE => ?_
            obtain ⟨hv_, H⟩ := hR
            have hv_ := hv_.symm
            subst hv_
            refine s1 hE rfl (d_pT hE rfl (decide_eq_true c18857) rfl) fun a hE => ?_
            refine s1 hE rfl (d_assign hE rfl) fun a hE => ?_
            refine wpList_nil ?_
            cases hm
            have H := St.del H 0
            have H := St.del H 0
            exact ⟨hE.sub ⟨rfl, trivial⟩, H⟩
          · rw [if_neg c18857] at hm
            refine gP hE rfl rfl rfl (decide_eq_false c18857) fun a hE => ?_
            refine s1 hE rfl (d_pF hE rfl (decide_eq_false c18857) rfl) fun a hE => ?_
            refine s1 hE rfl (d_assign hE rfl) fun a hE => ?_
            refine wpList_nil ?_
            cases hm
            have H := St.del H 0
            have H := St.del H 0
            exact ⟨hE.sub ⟨rfl, trivial⟩, H⟩
        · rw [if_neg c18856] at hm
          refine gP hE rfl rfl rfl (decide_eq_false c18856) fun a hE => ?_
          refine gP hE rfl rfl rfl (decide_eq_false c18856) fun a hE => ?_
          refine gP hE rfl rfl rfl (decide_eq_false c18856) fun a hE => ?_
          refine s1 hE rfl (d_pF hE rfl (decide_eq_false c18856) rfl) fun a hE => ?_
          refine s1 hE rfl (d_move hE rfl) fun a hE => ?_
          refine gP hE rfl rfl rfl rfl fun a hE => ?_
          refine s1 hE rfl (d_pF hE rfl rfl rfl) fun a hE => ?_
          refine s1 hE rfl (d_assign hE rfl) fun a hE => ?_
          refine wpList_nil ?_
          cases hm
          have H := St.del H 0
          have H := St.del H 0
          exact ⟨hE.sub ⟨rfl, trivial⟩, H⟩
      · rintro a w ⟨hE, H⟩
        refine wp_ret ?_
        cases hm
        exact ret1 rfl hE rfl ⟨_, rfl, rfl, H⟩
end Go.Proofs.Ytbielnhpfbhkgaa
