/- Functions and what their calls do, by program (gen.py). -/
import Derived.Test.YtbielnhpfbhkgaaB1
import Derived.Test.YtbielnhpfbhkgaaShelfK
set_option linter.unusedVariables false
set_option linter.unusedSimpArgs false
namespace Go.Proofs.Ytbielnhpfbhkgaa
open Go Go.RowKit
structure S_api_Path where
  Nodes : List Int
  Cost : Int
instance : DecidableEq S_api_Path := fun x y => decidable_of_iff (x.Nodes = y.Nodes ∧ x.Cost = y.Cost) ⟨fun h => by cases x; cases y; simp at h; simp [h], fun h => by subst h; simp⟩
def c_api_Path : Cod S_api_Path where
  n := 2
  rd := fun I cs x => ∃ v0 : Value, cs = [v0, (.int .u64 x.Cost)] ∧ RdSl (cInt .i64) I I v0 x.Nodes
  mono := fun hI ⟨v0, e, h0⟩ => ⟨v0, e, h0.mono hI hI⟩
  len := fun ⟨v0, e, _⟩ => by rw [e]; rfl
  one := fun ⟨v0, e, h0⟩ u hu => by
    obtain ⟨A0, k0, q0, _⟩ := h0.form
    rw [e] at hu
    simp only [List.mem_cons, List.not_mem_nil, or_false] at hu
    rcases hu with rfl | rfl <;> first | rfl | (simp only [q0]; rfl)
theorem enc_api_Path {z w : World} {I : Hp} {r : List Asn} {cs : List Value} {x : S_api_Path} (H : St z I w (Enc c_api_Path cs x :: r)) : ∃ v0 : Value, cs = [v0, (.int .u64 x.Cost)] ∧ St z I w (ImR (cInt .i64) v0 x.Nodes :: r) := by
  obtain ⟨⟨J, _, _, v0, e, _⟩, _⟩ := H.pu
  refine ⟨v0, e, H.map fun J h i s => ?_⟩
  have hp : c_api_Path.rd J cs x := s.pu.1
  obtain ⟨u0, e', h0⟩ := hp
  rw [e] at e'
  simp only [List.cons.injEq, and_true, true_and] at e'
  obtain rfl := e'
  exact (Sat.pu_intro h0 s.drop)
structure S_waymarklaw48_Ask where
  From : Int
  To : Int
  Most : Int
instance : DecidableEq S_waymarklaw48_Ask := fun x y => decidable_of_iff (x.From = y.From ∧ x.To = y.To ∧ x.Most = y.Most) ⟨fun h => by cases x; cases y; simp at h; simp [h], fun h => by subst h; simp⟩
def c_waymarklaw48_Ask : Cod S_waymarklaw48_Ask := Cod.flat 3 (fun x => [(.int .i64 x.From), (.int .i64 x.To), (.int .i64 x.Most)]) (fun _ => rfl) (by intro x v hv; simp at hv; rcases hv with rfl | rfl | rfl <;> rfl)
theorem c163 : Callable Try.prog 163 := ⟨Try.f163, Try.func163, by kernel_rfl, by kernel_rfl⟩
theorem fld102_1 : Fld Try.prog 102 1 1 := fun p w => by kernel_rfl
theorem sc61 : Scal Try.prog 61 := fun w => ⟨by kernel_rfl, by kernel_rfl⟩
theorem c116 : Callable Try.prog 116 := ⟨Try.f116, Try.func116, by kernel_rfl, by kernel_rfl⟩
theorem fld102_0 : Fld Try.prog 102 0 0 := fun p w => by kernel_rfl
theorem sc51 : Scal Try.prog 51 := fun w => ⟨by kernel_rfl, by kernel_rfl⟩
theorem c153 : Callable Try.prog 153 := ⟨Try.f153, Try.func153, by kernel_rfl, by kernel_rfl⟩
theorem fld144_1 : Fld Try.prog 144 1 1 := fun p w => by kernel_rfl
theorem fld144_2 : Fld Try.prog 144 2 2 := fun p w => by kernel_rfl
theorem sc74 : Scal Try.prog 74 := fun w => ⟨by kernel_rfl, by kernel_rfl⟩
theorem c150 : Callable Try.prog 150 := ⟨Try.f150, Try.func150, by kernel_rfl, by kernel_rfl⟩
theorem bld102_0Sl_1In (x0 : Value) (x1 : Int) (hx0 : ∃ A n k, x0 = .slice A n k) : ∀ w : World, (Instr.build 102 (List.toArray [(0, x0), (1, (.int .u64 x1))])).run Try.prog w = .ok (.agg #[x0, (.int .u64 x1)]) w := by
  obtain ⟨Ax0, nx0, kx0, rfl⟩ := hx0
  intro w
  kernel_rfl
theorem lit74_1_v_v (x0 : Value) (x1 : Int)  : ∀ w : World, (Instr.buildSlice 74 1 (List.toArray [(0, (.agg #[x0, (.int .u64 x1)]))])).run Try.prog w = .ok (.slice (some (ad w.heap.size 0)) 1 1) (w.alloc (.cells (List.toArray [x0, (.int .u64 x1)]) 102)) := fun w => by kernel_rfl
theorem el74 : Elt Try.prog 74 102 2 32 := ⟨Try.underlying74, by kernel_rfl, by decide⟩
theorem fld144_0 : Fld Try.prog 144 0 0 := fun p w => by kernel_rfl
theorem sc55 : Scal Try.prog 55 := fun w => ⟨by kernel_rfl, by kernel_rfl⟩
theorem c91 : Callable Try.prog 91 := ⟨Try.f91, Try.func91, by kernel_rfl, by kernel_rfl⟩
theorem cv3_61 (x : Int) : ∀ w : World, (convert 3 61 (.int .i64 x)).run Try.prog w = .ok (.int .u64 (IntKind.u64.wrap x)) w := fun w => by kernel_rfl
theorem c89 : Callable Try.prog 89 := ⟨Try.f89, Try.func89, by kernel_rfl, by kernel_rfl⟩
theorem c92 : Callable Try.prog 92 := ⟨Try.f92, Try.func92, by kernel_rfl, by kernel_rfl⟩
theorem c86 : Callable Try.prog 86 := ⟨Try.f86, Try.func86, by kernel_rfl, by kernel_rfl⟩
theorem bld144_0Sl_1In (x0 : Value) (x1 : Int) (hx0 : ∃ A n k, x0 = .slice A n k) : ∀ w : World, (Instr.build 144 (List.toArray [(0, x0), (1, (.int .i64 x1))])).run Try.prog w = .ok (.agg #[x0, (.int .i64 x1), (.slice none 0 0)]) w := by
  obtain ⟨Ax0, nx0, kx0, rfl⟩ := hx0
  intro w
  kernel_rfl
theorem bld102_0Sl (x0 : Value) (hx0 : ∃ A n k, x0 = .slice A n k) : ∀ w : World, (Instr.build 102 (List.toArray [(0, x0)])).run Try.prog w = .ok (.agg #[x0, (.int .u64 0)]) w := by
  obtain ⟨Ax0, nx0, kx0, rfl⟩ := hx0
  intro w
  kernel_rfl
theorem c94 : Callable Try.prog 94 := ⟨Try.f94, Try.func94, by kernel_rfl, by kernel_rfl⟩
theorem c93 : Callable Try.prog 93 := ⟨Try.f93, Try.func93, by kernel_rfl, by kernel_rfl⟩
theorem ag102 : Aggr Try.prog 102 2 := fun w => ⟨by kernel_rfl, by kernel_rfl⟩
theorem sl74 : Slc Try.prog 74 102 2 := ⟨Try.underlying74, fun w => by kernel_rfl⟩
theorem c39 : Callable Try.prog 39 := ⟨Try.f39, Try.func39, by kernel_rfl, by kernel_rfl⟩
theorem lit55_0   : ∀ w : World, (Instr.buildSlice 55 0 (List.toArray [])).run Try.prog w = .ok (.slice (some (ad w.heap.size 0)) 0 0) (w.alloc (.cells (List.toArray []) 60)) := fun w => by kernel_rfl
theorem bld60_0In_1In_2In (x0 : Int) (x1 : Int) (x2 : Int)  : ∀ w : World, (Instr.build 60 (List.toArray [(0, (.int .i64 x0)), (1, (.int .i64 x1)), (2, (.int .i64 x2))])).run Try.prog w = .ok (.agg #[(.int .i64 x0), (.int .i64 x1), (.int .i64 x2)]) w := by
  intro w
  kernel_rfl
theorem lit55_1 (x0 : Int) (x1 : Int) (x2 : Int)  : ∀ w : World, (Instr.buildSlice 55 1 (List.toArray [(0, (.agg #[(.int .i64 x0), (.int .i64 x1), (.int .i64 x2)]))])).run Try.prog w = .ok (.slice (some (ad w.heap.size 0)) 1 1) (w.alloc (.cells (List.toArray [(.int .i64 x0), (.int .i64 x1), (.int .i64 x2)]) 60)) := fun w => by kernel_rfl
theorem el55 : Elt Try.prog 55 60 3 24 := ⟨Try.underlying55, by kernel_rfl, by decide⟩
theorem c41 : Callable Try.prog 41 := ⟨Try.f41, Try.func41, by kernel_rfl, by kernel_rfl⟩
theorem c95 : Callable Try.prog 95 := ⟨Try.f95, Try.func95, by kernel_rfl, by kernel_rfl⟩
theorem al102 : ∀ w : World, (Instr.alloc 102 true (.tuple #[])).run Try.prog w = .ok (.pointer (some (ad w.heap.size 0))) (w.alloc (.cells (List.toArray [(.slice none 0 0), (.int .u64 0)]) 102)) := fun w => by kernel_rfl
theorem sz102 : ∀ w : World, (sizeOf 102).run Try.prog w = .ok 2 w := fun w => by kernel_rfl
theorem c96 : Callable Try.prog 96 := ⟨Try.f96, Try.func96, by kernel_rfl, by kernel_rfl⟩
theorem lit74_0_   : ∀ w : World, (Instr.buildSlice 74 0 (List.toArray [])).run Try.prog w = .ok (.slice (some (ad w.heap.size 0)) 0 0) (w.alloc (.cells (List.toArray []) 102)) := fun w => by kernel_rfl
theorem c30 : Callable Try.prog 30 := ⟨Try.f30, Try.func30, by kernel_rfl, by kernel_rfl⟩
theorem c42 : Callable Try.prog 42 := ⟨Try.f42, Try.func42, by kernel_rfl, by kernel_rfl⟩
theorem fld73_0 : Fld Try.prog 73 0 0 := fun p w => by kernel_rfl
theorem fld73_1 : Fld Try.prog 73 1 1 := fun p w => by kernel_rfl
theorem fld73_2 : Fld Try.prog 73 2 2 := fun p w => by kernel_rfl
theorem c40 : Callable Try.prog 40 := ⟨Try.f40, Try.func40, by kernel_rfl, by kernel_rfl⟩
theorem c36 : Callable Try.prog 36 := ⟨Try.f36, Try.func36, by kernel_rfl, by kernel_rfl⟩
theorem c29 : Callable Try.prog 29 := ⟨Try.f29, Try.func29, by kernel_rfl, by kernel_rfl⟩
theorem c43 : Callable Try.prog 43 := ⟨Try.f43, Try.func43, by kernel_rfl, by kernel_rfl⟩
def m150 (a0 : List Int) : Option (List Int) := appd 17592186044416 [] a0
set_option maxRecDepth 20000 in
set_option maxHeartbeats 4000000 in
theorem f150_ok {u0 : Value} (a0 : List Int) {res : List Int} (hm : m150 a0 = some res) {z w : World} {I : Hp} {r : List Asn} (hr0 : Rd (cInt .i64) I r u0 a0) (H : St z I w r) :
    Calls Try.prog 150 #[u0] w (Rt fun v w' => ∃ v1 : Value, v = v1 ∧ St z I w' (OwnSl (cInt .i64) v1 res :: r)) := by
  rcases Rd.nil_cases H hr0 with ⟨hv, hx⟩ | ⟨k_, hv, hx⟩ | ⟨p_, n_, k_, hv⟩
  · subst hv; subst hx
    obtain rfl : res = [] := by simpa [m150, appd] using hm.symm
    refine enter (args := [.slice none 0 0]) Try.func150 rfl Try.ntmps150 rfl fun a hE => ?_
    refine wp_seq ?_
    refine wp_region_lit ?_
    refine s1 hE rfl (d_assign hE rfl) fun a hE => ?_
    refine wpList_nil ?_
    refine wp_seq ?_
    refine wp_seq ?_
    refine wp_region_lit ?_
    refine s1 hE rfl (d_move hE rfl) fun a hE => ?_
    refine s1 hE rfl (d_eqSl Try.underlying51 hE rfl rfl) fun a hE => ?_
    refine wpList_nil ?_
    refine cT hE rfl rfl ?_
    refine wp_seq ?_
    refine wp_region_lit ?_
    refine s1 hE rfl (d_assign hE rfl) fun a hE => ?_
    refine wpList_nil ?_
    refine wp_ret ?_
    exact ret1 rfl hE rfl ⟨_, rfl, (.slice none 0 0), rfl, St.nil H none⟩
  · subst hv; subst hx
    obtain rfl : res = [] := by simpa [m150, appd] using hm.symm
    refine enter (args := [.slice none 0 (k_ + 1)]) Try.func150 rfl Try.ntmps150 rfl fun a hE => ?_
    refine wp_seq ?_
    refine wp_region_lit ?_
    refine s1 hE rfl (d_assign hE rfl) fun a hE => ?_
    refine wpList_nil ?_
    refine wp_seq ?_
    refine wp_seq ?_
    refine wp_region_lit ?_
    refine s1 hE rfl (d_move hE rfl) fun a hE => ?_
    refine s1 hE rfl (d_eqSl Try.underlying51 hE rfl rfl) fun a hE => ?_
    refine wpList_nil ?_
    refine cT hE rfl rfl ?_
    refine wp_seq ?_
    refine wp_region_lit ?_
    refine s1 hE rfl (d_assign hE rfl) fun a hE => ?_
    refine wpList_nil ?_
    refine wp_ret ?_
    exact ret1 rfl hE rfl ⟨_, rfl, (.slice none 0 0), rfl, St.nil H none⟩
  · refine enter (args := [u0]) Try.func150 rfl Try.ntmps150 rfl fun a hE => ?_
    refine wp_seq ?_
    refine wp_region_lit ?_
    refine s1 hE rfl (d_assign hE rfl) fun a hE => ?_
    refine wpList_nil ?_
    refine wp_seq ?_
    refine wp_seq ?_
    refine wp_region_lit ?_
    refine s1 hE rfl (d_move hE rfl) fun a hE => ?_
    refine s1 hE rfl (d_eqSlS hv Try.underlying51 hE rfl rfl) fun a hE => ?_
    refine wpList_nil ?_
    refine cF hE rfl rfl ?_
    refine wp_skip ?_
    refine wp_seq ?_
    refine wp_region_lit ?_
    refine s2 hE rfl (d_lit (c := (cInt .i64)) (xs := []) hE rfl lit51_0 rfl rfl (fun J h iJ s => rows0) H) fun a v w hR hE => ?_
    have H : St z I w (OwnSl (cInt .i64) v [] :: r) := hR
    refine s1 hE rfl (d_move hE rfl) fun a hE => ?_
    refine s2 hE rfl (d_appendS (lim := 17592186044416) el51 (by decide) (by decide) hE rfl rfl H (Rd.cons hr0) hm) fun a v2 w hR hE => ?_
    have H : St z I w (OwnSl (cInt .i64) v2 res :: r) := hR
    refine s1 hE rfl (d_assign hE rfl) fun a hE => ?_
    refine wpList_nil ?_
    refine wp_ret ?_
    exact ret1 rfl hE rfl ⟨_, rfl, v2, rfl, H⟩
def m163 (a0 : Int) : Option Bool := some (!(decide (a0 = a0)))
set_option maxRecDepth 20000 in
set_option maxHeartbeats 4000000 in
theorem f163_ok (a0 : Int) {res : Bool} (hm : m163 a0 = some res) {z w : World} {I : Hp} {r : List Asn}  (H : St z I w (r)) :
    Calls Try.prog 163 #[(.int .u64 a0)] w (Rt fun v w' => v = (.bool res) ∧ St z I w' (r)) := by
  unfold m163 at hm
  refine enter (args := [(.int .u64 a0)]) Try.func163 rfl Try.ntmps163 rfl fun a hE => ?_
  refine wp_seq ?_
  refine wp_region_lit ?_
  refine s1 hE rfl (d_assign hE rfl) fun a hE => ?_
  refine wpList_nil ?_
  refine wp_seq ?_
  refine wp_region_lit ?_
  refine s1 hE rfl (d_move hE rfl) fun a hE => ?_
  refine s1 hE rfl (d_move hE rfl) fun a hE => ?_
  refine s1 hE rfl (d_neq hE rfl rfl) fun a hE => ?_
  refine s1 hE rfl (d_assign hE rfl) fun a hE => ?_
  refine wpList_nil ?_
  refine wp_ret ?_
  cases hm
  exact ret1 rfl hE rfl ⟨_, rfl, rfl, H⟩
def m116 (a0 : Int) (a1 : Int) : Option Int := Option.bind (m163 a0) fun x74 => Option.bind (m163 a1) fun x78 => if x74 = true then (if x78 = true then (some 0) else (some (-1))) else (if x78 = true then (some 1) else (if a0 < a1 then (some (-1)) else (if a1 < a0 then (some 1) else (some 0))))
set_option maxRecDepth 20000 in
set_option maxHeartbeats 4000000 in
theorem f116_ok (a0 : Int) (a1 : Int) {res : Int} (hm : m116 a0 a1 = some res) {z w : World} {I : Hp} {r : List Asn}  (H : St z I w (r)) :
    Calls Try.prog 116 #[(.int .u64 a0), (.int .u64 a1)] w (Rt fun v w' => v = (.int .i64 res) ∧ St z I w' (r)) := by
  unfold m116 at hm
  refine enter (args := [(.int .u64 a0), (.int .u64 a1)]) Try.func116 rfl Try.ntmps116 rfl fun a hE => ?_
  refine wp_seq ?_
  refine wp_region_lit ?_
  refine s1 hE rfl (d_assign hE rfl) fun a hE => ?_
  refine wpList_nil ?_
  refine wp_seq ?_
  refine wp_region_lit ?_
  refine s1 hE rfl (d_move hE rfl) fun a hE => ?_
  obtain ⟨x74, hc75, hm⟩ := bnd hm
  refine s2 hE rfl (d_call c163 hE rfl (f163_ok a0 hc75  H)) fun a v w hR hE => ?_
  obtain ⟨hv_, H⟩ := hR
  have hv_ := hv_.symm
  subst hv_
  refine s1 hE rfl (d_assign hE rfl) fun a hE => ?_
  refine wpList_nil ?_
  refine wp_seq ?_
  refine wp_region_lit ?_
  refine s1 hE rfl (d_move hE rfl) fun a hE => ?_
  obtain ⟨x78, hc79, hm⟩ := bnd hm
  refine s2 hE rfl (d_call c163 hE rfl (f163_ok a1 hc79  H)) fun a v w hR hE => ?_
  obtain ⟨hv_, H⟩ := hR
  have hv_ := hv_.symm
  subst hv_
  refine s1 hE rfl (d_assign hE rfl) fun a hE => ?_
  refine wpList_nil ?_
  refine wp_seq ?_
  refine wp_seq ?_
  refine wp_region_lit ?_
  refine s1 hE rfl (d_move hE rfl) fun a hE => ?_
  refine wpList_nil ?_
  by_cases c83 : x74 = true
  · rw [if_pos c83] at hm
    refine cT hE rfl c83 ?_
    refine wp_seq ?_
    refine wp_seq ?_
    refine wp_region_lit ?_
    refine s1 hE rfl (d_move hE rfl) fun a hE => ?_
    refine wpList_nil ?_
    by_cases c85 : x78 = true
    · rw [if_pos c85] at hm
      refine cT hE rfl c85 ?_
      refine wp_seq ?_
      refine wp_region_lit ?_
      refine s1 hE rfl (d_assign hE rfl) fun a hE => ?_
      refine wpList_nil ?_
      refine wp_ret ?_
      cases hm
      exact ret1 rfl hE rfl ⟨_, rfl, rfl, H⟩
    · rw [if_neg c85] at hm
      refine cF hE rfl (b_f c85) ?_
      refine wp_skip ?_
      refine wp_seq ?_
      refine wp_region_lit ?_
      refine s1 hE rfl (d_assign hE rfl) fun a hE => ?_
      refine wpList_nil ?_
      refine wp_ret ?_
      cases hm
      exact ret1 rfl hE rfl ⟨_, rfl, rfl, H⟩
  · rw [if_neg c83] at hm
    refine cF hE rfl (b_f c83) ?_
    refine wp_skip ?_
    refine wp_seq ?_
    refine wp_seq ?_
    refine wp_region_lit ?_
    refine s1 hE rfl (d_move hE rfl) fun a hE => ?_
    refine wpList_nil ?_
    by_cases c87 : x78 = true
    · rw [if_pos c87] at hm
      refine cT hE rfl c87 ?_
      refine wp_seq ?_
      refine wp_region_lit ?_
      refine s1 hE rfl (d_assign hE rfl) fun a hE => ?_
      refine wpList_nil ?_
      refine wp_ret ?_
      cases hm
      exact ret1 rfl hE rfl ⟨_, rfl, rfl, H⟩
    · rw [if_neg c87] at hm
      refine cF hE rfl (b_f c87) ?_
      refine wp_skip ?_
      refine wp_seq ?_
      refine wp_seq ?_
      refine wp_region_lit ?_
      refine s1 hE rfl (d_move hE rfl) fun a hE => ?_
      refine s1 hE rfl (d_move hE rfl) fun a hE => ?_
      refine s1 hE rfl (d_lss hE rfl rfl) fun a hE => ?_
      refine wpList_nil ?_
      by_cases c89 : a0 < a1
      · rw [if_pos c89] at hm
        refine cT hE rfl (decide_eq_true c89) ?_
        refine wp_seq ?_
        refine wp_region_lit ?_
        refine s1 hE rfl (d_assign hE rfl) fun a hE => ?_
        refine wpList_nil ?_
        refine wp_ret ?_
        cases hm
        exact ret1 rfl hE rfl ⟨_, rfl, rfl, H⟩
      · rw [if_neg c89] at hm
        refine cF hE rfl (decide_eq_false c89) ?_
        refine wp_skip ?_
        refine wp_seq ?_
        refine wp_seq ?_
        refine wp_region_lit ?_
        refine s1 hE rfl (d_move hE rfl) fun a hE => ?_
        refine s1 hE rfl (d_move hE rfl) fun a hE => ?_
        refine s1 hE rfl (d_gtr hE rfl rfl) fun a hE => ?_
        refine wpList_nil ?_
        by_cases c91 : a1 < a0
        · rw [if_pos c91] at hm
          refine cT hE rfl (decide_eq_true c91) ?_
          refine wp_seq ?_
          refine wp_region_lit ?_
          refine s1 hE rfl (d_assign hE rfl) fun a hE => ?_
          refine wpList_nil ?_
          refine wp_ret ?_
          cases hm
          exact ret1 rfl hE rfl ⟨_, rfl, rfl, H⟩
        · rw [if_neg c91] at hm
          refine cF hE rfl (decide_eq_false c91) ?_
          refine wp_skip ?_
          refine wp_seq ?_
          refine wp_region_lit ?_
          refine s1 hE rfl (d_assign hE rfl) fun a hE => ?_
          refine wpList_nil ?_
          refine wp_ret ?_
          cases hm
          exact ret1 rfl hE rfl ⟨_, rfl, rfl, H⟩
def m153_l0 (a0 : List Int) (a1 : List Int) : Nat → Int → Option (Out Int Unit)
  | 0, _ => none
  | k + 1, y192 => if y192 < (a0.length : Int) then (Option.bind (rdx a0 y192) fun x248 => if (a1.length : Int) ≤ y192 then (some (.ret 1)) else (Option.bind (rdx a1 y192) fun x254 => Option.bind (m103 x248 x254) fun x258 => if x258 = 0 then (m153_l0 a0 a1 k (IntKind.i64.wrap (y192 + 1))) else (some (.ret x258)))) else (some (.go ()))
def m153 (k : Nat) (a0 : List Int) (a1 : List Int) : Option Int := Option.bind (m153_l0 a0 a1 k 0) fun s227 => s227.on (fun q_ => some q_) fun s227 => if (a0.length : Int) < (a1.length : Int) then (some (-1)) else (some 0)
set_option maxRecDepth 20000 in
set_option maxHeartbeats 4000000 in
theorem f153_ok (k : Nat) {u0 : Value} (a0 : List Int) {u1 : Value} (a1 : List Int) {res : Int} (hm : m153 k a0 a1 = some res) {z w : World} {I : Hp} {r : List Asn} (hr0 : Rd (cInt .i64) I r u0 a0) (hr1 : Rd (cInt .i64) I r u1 a1) (H : St z I w (r)) :
    Calls Try.prog 153 #[u0, u1] w (Rt fun v w' => v = (.int .i64 res) ∧ St z I w' (r)) := by
  unfold m153 at hm
  refine enter (args := [u0, u1]) Try.func153 rfl Try.ntmps153 rfl fun a hE => ?_
  refine wp_seq ?_
  refine wp_region_lit ?_
  refine s1 hE rfl (d_assign hE rfl) fun a hE => ?_
  refine wpList_nil ?_
  refine wp_seq ?_
  refine wp_seq ?_
  refine wp_region_lit ?_
  refine s1 hE rfl (d_move hE rfl) fun a hE => ?_
  refine s1 hE rfl (d_lenS Try.underlying51 hE rfl H hr0) fun a hE => ?_
  refine s1 hE rfl (d_move hE rfl) fun a hE => ?_
  refine wpList_nil ?_
  obtain ⟨s227, hj227, hq227⟩ := bnd hm
  refine cut2 (fun a w => ∃ s_ : Unit, s227 = .go s_ ∧ Env a 36 [(0, u0), (1, u1)] ∧ St z I w (r)) ?_ ?_
  · refine wp_block ?_
    refine loopI (fun k a w => ∃ y192 : Int, m153_l0 a0 a1 k y192 = some s227 ∧ Env a 36 [(0, u0), (1, u1), (9, u0), (10, (.int .i64 (a0.length : Int))), (11, (.int .i64 y192))] ∧ St z I w (r)) ?_ k _ _ ?_
    · rintro k a w ⟨y192, hm, hE, H⟩
      cases k with
      | zero => rw [m153_l0] at hm; cases hm
      | succ k =>
        rw [m153_l0] at hm
        refine wp_seq ?_
        refine wp_region_lit ?_
        refine s1 hE rfl (d_lss hE rfl rfl) fun a hE => ?_
        refine wpList_nil ?_
        refine wp_seq ?_
        by_cases c229 : y192 < (a0.length : Int)
        · rw [if_pos c229] at hm
          refine cT hE rfl (decide_eq_true c229) ?_
          refine wp_skip ?_
          refine wp_seq ?_
          refine wp_block ?_
          refine wp_seq ?_
          refine wp_region_lit ?_
          refine s1 hE rfl (d_move hE rfl) fun a hE => ?_
          obtain ⟨x248, hx249, hm⟩ := bnd hm
          refine s1 hE rfl (d_indexS sl51 hE rfl rfl H hr0 hx249) fun a hE => ?_
          refine s1 hE rfl (d_loadS1 sc3 hE rfl H hr0 hx249 (fun _ _ e => e)) fun a hE => ?_
          refine s1 hE rfl (d_assign hE rfl) fun a hE => ?_
          refine s1 hE rfl (d_assign hE rfl) fun a hE => ?_
          refine wpList_nil ?_
          refine wp_seq ?_
          refine wp_seq ?_
          refine wp_region_lit ?_
          refine s1 hE rfl (d_move hE rfl) fun a hE => ?_
          refine s1 hE rfl (d_move hE rfl) fun a hE => ?_
          refine s1 hE rfl (d_lenS Try.underlying51 hE rfl H hr1) fun a hE => ?_
          refine s1 hE rfl (d_geq hE rfl rfl) fun a hE => ?_
          refine wpList_nil ?_
          by_cases c251 : (a1.length : Int) ≤ y192
          · rw [if_pos c251] at hm
            refine cT hE rfl (decide_eq_true c251) ?_
            refine wp_seq ?_
            refine wp_region_lit ?_
            refine s1 hE rfl (d_assign hE rfl) fun a hE => ?_
            refine wpList_nil ?_
            refine wp_ret ?_
            cases hm
            have hm := hq227
            simp only [Out.on] at hm
            cases hm
            exact ret1 rfl hE rfl ⟨_, rfl, rfl, H⟩
          · rw [if_neg c251] at hm
            refine cF hE rfl (decide_eq_false c251) ?_
            refine wp_skip ?_
            refine wp_seq ?_
            refine wp_region_lit ?_
            refine s1 hE rfl (d_move hE rfl) fun a hE => ?_
            refine s1 hE rfl (d_move hE rfl) fun a hE => ?_
            obtain ⟨x254, hx255, hm⟩ := bnd hm
            refine s1 hE rfl (d_indexS sl51 hE rfl rfl H hr1 hx255) fun a hE => ?_
            refine s1 hE rfl (d_loadS1 sc3 hE rfl H hr1 hx255 (fun _ _ e => e)) fun a hE => ?_
            refine s1 hE rfl (d_assign hE rfl) fun a hE => ?_
            refine wpList_nil ?_
            refine wp_seq ?_
            refine wp_region_lit ?_
            refine s1 hE rfl (d_move hE rfl) fun a hE => ?_
            refine s1 hE rfl (d_move hE rfl) fun a hE => ?_
            obtain ⟨x258, hc259, hm⟩ := bnd hm
            refine s2 hE rfl (d_call c103 hE rfl (f103_ok x248 x254 hc259  H)) fun a v w hR hE => ?_
            obtain ⟨hv_, H⟩ := hR
            have hv_ := hv_.symm
            subst hv_
            refine s1 hE rfl (d_assign hE rfl) fun a hE => ?_
            refine wpList_nil ?_
            refine wp_seq ?_
            refine wp_region_lit ?_
            refine s1 hE rfl (d_move hE rfl) fun a hE => ?_
            refine s1 hE rfl (d_neq hE rfl rfl) fun a hE => ?_
            refine wpList_nil ?_
            by_cases c261 : x258 = 0
            · rw [if_pos c261] at hm
              refine cF hE rfl (not_f (decide_eq_true c261)) ?_
              refine wp_skip ?_
              refine wp_region_lit ?_
              refine s1 hE rfl (d_add hE rfl rfl) fun a hE => ?_
              refine s1 hE rfl (d_move hE rfl) fun a hE => ?_
              refine wpList_nil ?_
              exact ⟨k, Nat.lt_succ_self k, IntKind.i64.wrap (y192 + 1), hm, hE.sub ⟨rfl, rfl, rfl, rfl, rfl, trivial⟩, H⟩
            · rw [if_neg c261] at hm
              refine cT hE rfl (not_t (decide_eq_false c261)) ?_
              refine wp_seq ?_
              refine wp_region_lit ?_
              refine s1 hE rfl (d_move hE rfl) fun a hE => ?_
              refine s1 hE rfl (d_assign hE rfl) fun a hE => ?_
              refine wpList_nil ?_
              refine wp_ret ?_
              cases hm
              have hm := hq227
              simp only [Out.on] at hm
              cases hm
              exact ret1 rfl hE rfl ⟨_, rfl, rfl, H⟩
        · rw [if_neg c229] at hm
          refine cF hE rfl (decide_eq_false c229) ?_
          refine wp_exit ?_
          cases hm
          exact ⟨_, rfl, hE.sub ⟨rfl, rfl, trivial⟩, H⟩
    · exact ⟨0, hj227, hE.sub ⟨rfl, rfl, rfl, rfl, rfl, trivial⟩, H⟩
  · rintro a w ⟨s227, rfl, hE, H⟩
    have hm := hq227
    simp only [Out.on] at hm
    refine wp_seq ?_
    refine wp_seq ?_
    refine wp_region_lit ?_
    refine s1 hE rfl (d_move hE rfl) fun a hE => ?_
    refine s1 hE rfl (d_lenS Try.underlying51 hE rfl H hr0) fun a hE => ?_
    refine s1 hE rfl (d_move hE rfl) fun a hE => ?_
    refine s1 hE rfl (d_lenS Try.underlying51 hE rfl H hr1) fun a hE => ?_
    refine s1 hE rfl (d_lss hE rfl rfl) fun a hE => ?_
    refine wpList_nil ?_
    by_cases c263 : (a0.length : Int) < (a1.length : Int)
    · rw [if_pos c263] at hm
      refine cT hE rfl (decide_eq_true c263) ?_
      refine wp_seq ?_
      refine wp_region_lit ?_
      refine s1 hE rfl (d_assign hE rfl) fun a hE => ?_
      refine wpList_nil ?_
      refine wp_ret ?_
      cases hm
      exact ret1 rfl hE rfl ⟨_, rfl, rfl, H⟩
    · rw [if_neg c263] at hm
      refine cF hE rfl (decide_eq_false c263) ?_
      refine wp_skip ?_
      refine wp_seq ?_
      refine wp_region_lit ?_
      refine s1 hE rfl (d_assign hE rfl) fun a hE => ?_
      refine wpList_nil ?_
      refine wp_ret ?_
      cases hm
      exact ret1 rfl hE rfl ⟨_, rfl, rfl, H⟩
def m94 (k : Nat) (a0 : S_api_Path) (a1 : S_api_Path) : Option Int := Option.bind (m116 a0.Cost a1.Cost) fun x81 => Option.bind (m153 k a0.Nodes a1.Nodes) fun x83 => Option.bind (m102 k ([x81, x83])) fun x86 => some x86
set_option maxRecDepth 20000 in
set_option maxHeartbeats 4000000 in
theorem f94_ok (k : Nat) (a0 : S_api_Path) {u0_0 : Value} (a1 : S_api_Path) {u1_0 : Value} {res : Int} (hm : m94 k a0 a1 = some res) {z w : World} {I : Hp} {r : List Asn} (hm0_0 : Imm (cInt .i64) I r u0_0 a0.Nodes) (hm1_0 : Imm (cInt .i64) I r u1_0 a1.Nodes) (H : St z I w (r)) :
    Calls Try.prog 94 #[(.agg #[u0_0, (.int .u64 a0.Cost)]), (.agg #[u1_0, (.int .u64 a1.Cost)])] w (Rt fun v w' => v = (.int .i64 res) ∧ St z I w' (r)) := by
  unfold m94 at hm
  refine enter (args := [(.agg #[u0_0, (.int .u64 a0.Cost)]), (.agg #[u1_0, (.int .u64 a1.Cost)])]) Try.func94 rfl Try.ntmps94 rfl fun a hE => ?_
  have H := St.imm hm0_0 H
  have H := St.imm (Imm.cons hm1_0) H
  refine wp_seq ?_
  refine wp_region_lit ?_
  refine s2 hE rfl (d_box hE rfl H) fun a v w hR hE => ?_
  obtain ⟨q72, rfl, H⟩ := hR
  have H : St z I w (Bl q72 102 [u0_0, (.int .u64 a0.Cost)] :: ImR (cInt .i64) u1_0 a1.Nodes :: ImR (cInt .i64) u0_0 a0.Nodes :: r) := H
  refine s2 hE rfl (d_box hE rfl H) fun a v w hR hE => ?_
  obtain ⟨q73, rfl, H⟩ := hR
  have H : St z I w (Bl q73 102 [u1_0, (.int .u64 a1.Cost)] :: Bl q72 102 [u0_0, (.int .u64 a0.Cost)] :: ImR (cInt .i64) u1_0 a1.Nodes :: ImR (cInt .i64) u0_0 a0.Nodes :: r) := H
  refine s1 hE rfl (d_assign hE rfl) fun a hE => ?_
  refine wpList_nil ?_
  refine wp_seq ?_
  obtain ⟨x81, hc82, hm⟩ := bnd hm
  obtain ⟨x83, hc84, hm⟩ := bnd hm
  obtain ⟨x86, hc87, hm⟩ := bnd hm
  refine Dr.region (γ := Value) (pre := [[], [0], [], [2], [0, 1, 2, 3], [], [5], [], [7], [0, 1, 2, 3, 4, 5, 6, 7, 8], [0, 1, 2, 3, 4, 5, 6, 7, 8, 9], [0, 1, 2, 3, 4, 5, 6, 7, 8, 9, 10], [0, 1, 2, 3, 4, 5, 6, 7, 8, 9, 10, 11]]) (val := [some (.pointer (some (ad q72 (0 + 1)))), some (.int .u64 a0.Cost), some (.pointer (some (ad q73 (0 + 1)))), some (.int .u64 a1.Cost), some (.int .i64 x81), some (.pointer (some (ad q72 (0 + 0)))), some u0_0, some (.pointer (some (ad q73 (0 + 0)))), some u1_0, some (.int .i64 x83), none, none, none]) (eff := [10, 11, 12]) (mask := [[], [10], [10, 11], [10, 11, 12]]) (keys := [[], [15], [16, 15], [4, 16, 15]]) (src := [[.base 2], [.op 0], [.base 3], [.op 2], [.op 1, .op 3], [.base 2], [.op 5], [.base 3], [.op 7], [.op 6, .op 8], [.op 4, .op 9], [], []]) (z := z) (ef := fun p g => ([[], [(15, g)], [(16, (.int .i64 x86)), (15, g)], [(4, (.int .i64 x86)), (16, (.int .i64 x86)), (15, g)]] : List (List (Nat × Value))).getD p []) (hi := fun _ _ => I) (rs := fun p g => ([Bl q73 102 [u1_0, (.int .u64 a1.Cost)] :: Bl q72 102 [u0_0, (.int .u64 a0.Cost)] :: ImR (cInt .i64) u1_0 a1.Nodes :: ImR (cInt .i64) u0_0 a0.Nodes :: r, OwnSl (cInt .i64) g ([x81, x83]) :: Bl q73 102 [u1_0, (.int .u64 a1.Cost)] :: Bl q72 102 [u0_0, (.int .u64 a0.Cost)] :: ImR (cInt .i64) u1_0 a1.Nodes :: ImR (cInt .i64) u0_0 a0.Nodes :: r, OwnSl (cInt .i64) g ([x81, x83]) :: Bl q73 102 [u1_0, (.int .u64 a1.Cost)] :: Bl q72 102 [u0_0, (.int .u64 a0.Cost)] :: ImR (cInt .i64) u1_0 a1.Nodes :: ImR (cInt .i64) u0_0 a0.Nodes :: r, OwnSl (cInt .i64) g ([x81, x83]) :: Bl q73 102 [u1_0, (.int .u64 a1.Cost)] :: Bl q72 102 [u0_0, (.int .u64 a0.Cost)] :: ImR (cInt .i64) u1_0 a1.Nodes :: ImR (cInt .i64) u0_0 a0.Nodes :: r] : List (List Asn)).getD p []) [(0, 0), (1, 0), (2, 0), (3, 0), (4, 0), (5, 0), (6, 0), (7, 0), (8, 0), (9, 0)] [(0, 10, 1), (1, 11, 2), (2, 12, 3)] [0, 1, 2, 3, 4, 5, 6, 7, 8, 9] 3 mo hE (undef) rfl H (by kernel_rfl) (by kernel_rfl) (fun p g => by rcases p with _ | _ | _ | _ | p <;> rfl) ?_ ?_ (by kernel_rfl) (by kernel_rfl) ?_
  · exact ⟨by intro a w g hE H; obtain ⟨v85, rfl⟩ : ∃ x, x = g := ⟨g, rfl⟩; exact Dr.is H rfl (Dr.run rfl (d_fieldAddr fld102_1 hE rfl)),
    by intro a w g hE H; obtain ⟨v85, rfl⟩ : ∃ x, x = g := ⟨g, rfl⟩; exact Dr.is H rfl (Dr.run rfl (d_load sc61 hE rfl H 1 rfl rfl)),
    by intro a w g hE H; obtain ⟨v85, rfl⟩ : ∃ x, x = g := ⟨g, rfl⟩; exact Dr.is H rfl (Dr.run rfl (d_fieldAddr fld102_1 hE rfl)),
    by intro a w g hE H; obtain ⟨v85, rfl⟩ : ∃ x, x = g := ⟨g, rfl⟩; exact Dr.is H rfl (Dr.run rfl (d_load sc61 hE rfl H 0 rfl rfl)),
    by intro a w g hE H; obtain ⟨v85, rfl⟩ : ∃ x, x = g := ⟨g, rfl⟩; exact (Dr.run rfl (d_call c116 hE rfl (f116_ok a0.Cost a1.Cost hc82  H))).mono fun v w' hR => by obtain ⟨rfl, H⟩ := hR; exact ⟨rfl, H⟩,
    by intro a w g hE H; obtain ⟨v85, rfl⟩ : ∃ x, x = g := ⟨g, rfl⟩; exact Dr.is H rfl (Dr.run rfl (d_fieldAddr fld102_0 hE rfl)),
    by intro a w g hE H; obtain ⟨v85, rfl⟩ : ∃ x, x = g := ⟨g, rfl⟩; exact Dr.is H rfl (Dr.run rfl (d_load sc51 hE rfl H 1 rfl rfl)),
    by intro a w g hE H; obtain ⟨v85, rfl⟩ : ∃ x, x = g := ⟨g, rfl⟩; exact Dr.is H rfl (Dr.run rfl (d_fieldAddr fld102_0 hE rfl)),
    by intro a w g hE H; obtain ⟨v85, rfl⟩ : ∃ x, x = g := ⟨g, rfl⟩; exact Dr.is H rfl (Dr.run rfl (d_load sc51 hE rfl H 0 rfl rfl)),
    by intro a w g hE H; obtain ⟨v85, rfl⟩ : ∃ x, x = g := ⟨g, rfl⟩; exact (Dr.run rfl (d_call c153 hE rfl (f153_ok k a0.Nodes a1.Nodes hc84 (Rd.im 3 rfl) (Rd.im 2 rfl) H))).mono fun v w' hR => by obtain ⟨rfl, H⟩ := hR; exact ⟨rfl, H⟩,
    trivial⟩
  · exact ⟨by intro a w g hE hF H; obtain ⟨v85, rfl⟩ : ∃ x, x = g := ⟨g, rfl⟩; refine (Dr.run rfl (d_lit (c := (cInt .i64)) (xs := [x81, x83]) hE rfl (lit51_2 _ _) rfl rfl (fun J h iJ s => rowsC (cs := [(.int .i64 x81)]) rfl (rowsC (cs := [(.int .i64 x83)]) rfl (rows0))) H)).mono fun v w hR => ?_; obtain ⟨v85, rfl⟩ : ∃ x, x = v := ⟨v, rfl⟩; have H : St z I w (OwnSl (cInt .i64) v85 ([x81, x83]) :: Bl q73 102 [u1_0, (.int .u64 a1.Cost)] :: Bl q72 102 [u0_0, (.int .u64 a0.Cost)] :: ImR (cInt .i64) u1_0 a1.Nodes :: ImR (cInt .i64) u0_0 a0.Nodes :: r) := hR; exact ⟨v85, H, Dr.lkSub ⟨rfl, trivial⟩⟩,
    by intro a w g hE hF H; obtain ⟨v85, rfl⟩ : ∃ x, x = g := ⟨g, rfl⟩; have hE := Dr.env_both hE hF; refine (Dr.run rfl (d_call c102 hE rfl (f102_ok k ([x81, x83]) hc87 (Rd.own 0 rfl) H))).mono fun v w hR => ?_; obtain ⟨hv_, H⟩ := hR; have hv_ := hv_.symm; subst hv_; exact ⟨v85, H, Dr.lkSub ⟨rfl, rfl, trivial⟩⟩,
    by intro a w g hE hF H; obtain ⟨v85, rfl⟩ : ∃ x, x = g := ⟨g, rfl⟩; have hE := Dr.env_both hE hF; refine (Dr.run rfl (d_assign hE rfl)).mono fun v w' hR => ?_; obtain ⟨hv_, rfl⟩ := hR; have hv_ := hv_.symm; subst hv_; exact ⟨v85, H, Dr.lkSub ⟨rfl, rfl, rfl, trivial⟩⟩,
    trivial⟩
  · intro a w g hE H
    obtain ⟨v85, rfl⟩ : ∃ x, x = g := ⟨g, rfl⟩
    have H : St z I w (OwnSl (cInt .i64) v85 ([x81, x83]) :: Bl q73 102 [u1_0, (.int .u64 a1.Cost)] :: Bl q72 102 [u0_0, (.int .u64 a0.Cost)] :: ImR (cInt .i64) u1_0 a1.Nodes :: ImR (cInt .i64) u0_0 a0.Nodes :: r) := H
    refine wp_ret ?_
    cases hm
    have H := St.del H 0
    have H := St.del H 0
    have H := St.del H 0
    have H := St.del H 0
    have H := St.del H 0
    exact ret1 rfl hE rfl ⟨_, rfl, rfl, H⟩
def m92_l0 (F_ : (List S_api_Arc) → Int → (List S_api_Path) → S_api_Path → Option (List S_api_Path)) (a1 : S_api_Path) (x869 : Int) (a0_to : Int) (a0_arcs : List S_api_Arc) : Nat → (List S_api_Path) → Int → Option (List S_api_Path)
  | 0, _, _ => none
  | k + 1, l1038, y1039 => if y1039 < (a0_arcs.length : Int) then (Option.bind (rdx a0_arcs y1039) fun x1251 => Option.bind (α := Bool) (if x1251.From = x869 then (Option.bind (m91 k a1.Nodes x1251.To) fun x1260 => some (!x1260)) else (some false)) fun s1258 => Option.bind (α := (List S_api_Path)) (if s1258 = true then (Option.bind (m150 a1.Nodes) fun x1303 => Option.bind (appd 17592186044416 x1303 ([x1251.To])) fun l1307 => Option.bind (m89 a1.Cost (IntKind.u64.wrap x1251.Cost)) fun x1310 => Option.bind (F_ a0_arcs a0_to l1038 (⟨l1307, x1310⟩ : S_api_Path)) fun x1312 => some x1312) else (some l1038)) fun s1289 => m92_l0 F_ a1 x869 a0_to a0_arcs k s1289 (IntKind.i64.wrap (y1039 + 1))) else (some l1038)
def m92b (F_ : (List S_api_Arc) → Int → (List S_api_Path) → S_api_Path → Option (List S_api_Path)) (k : Nat) (a0_arcs : List S_api_Arc) (a0_to : Int) (a0_out : List S_api_Path) (a1 : S_api_Path) : Option (List S_api_Path) := Option.bind (rdx a1.Nodes (IntKind.i64.wrap ((a1.Nodes.length : Int) - 1))) fun x869 => if x869 = a0_to then (Option.bind (m150 a1.Nodes) fun x894 => Option.bind (appd 4398046511104 a0_out ([(⟨x894, a1.Cost⟩ : S_api_Path)])) fun l898 => some l898) else (Option.bind (m92_l0 F_ a1 x869 a0_to a0_arcs k a0_out 0) fun s1178 => some s1178)
def m92 : Nat → (List S_api_Arc) → Int → (List S_api_Path) → S_api_Path → Option (List S_api_Path)
  | 0, _, _, _, _ => none
  | k + 1, a0_arcs, a0_to, a0_out, a1 => m92b (m92 k) k a0_arcs a0_to a0_out a1
set_option maxRecDepth 20000 in
set_option maxHeartbeats 4000000 in
theorem f92_b (F_ : (List S_api_Arc) → Int → (List S_api_Path) → S_api_Path → Option (List S_api_Path)) (hRec : ∀ {q0 : Nat} {u0_arcs : Value} (a0_arcs : List S_api_Arc) (a0_to : Int) {u0_out : Value} (a0_out : List S_api_Path) (a1 : S_api_Path) {u1_0 : Value} {res : (List S_api_Path)}, F_ a0_arcs a0_to a0_out a1 = some res → ∀ {z w : World} {I : Hp} {r : List Asn}, Rd c_api_Arc I r u0_arcs a0_arcs → Imm (cInt .i64) I r u1_0 a1.Nodes → St z I w (Bl q0 144 [u0_arcs, (.int .i64 a0_to), u0_out] :: OwnSl c_api_Path u0_out a0_out :: r) → Calls Try.prog 92 #[(.pointer (some (ad q0 0))), (.agg #[u1_0, (.int .u64 a1.Cost)])] w (Rt fun v w' => ∃ v863 : Value, v = (.tuple #[]) ∧ St z I w' (Bl q0 144 [u0_arcs, (.int .i64 a0_to), v863] :: OwnSl c_api_Path v863 res :: r))) (k : Nat) {q0 : Nat} {u0_arcs : Value} (a0_arcs : List S_api_Arc) (a0_to : Int) {u0_out : Value} (a0_out : List S_api_Path) (a1 : S_api_Path) {u1_0 : Value} {res : (List S_api_Path)} (hm : m92b F_ k a0_arcs a0_to a0_out a1 = some res) {z w : World} {I : Hp} {r : List Asn} (hr0_arcs : Rd c_api_Arc I r u0_arcs a0_arcs) (hm1_0 : Imm (cInt .i64) I r u1_0 a1.Nodes) (H : St z I w (Bl q0 144 [u0_arcs, (.int .i64 a0_to), u0_out] :: OwnSl c_api_Path u0_out a0_out :: r)) :
    Calls Try.prog 92 #[(.pointer (some (ad q0 0))), (.agg #[u1_0, (.int .u64 a1.Cost)])] w (Rt fun v w' => ∃ v863 : Value, v = (.tuple #[]) ∧ St z I w' (Bl q0 144 [u0_arcs, (.int .i64 a0_to), v863] :: OwnSl c_api_Path v863 res :: r)) := by
  unfold m92b at hm
  refine enter (args := [(.pointer (some (ad q0 0))), (.agg #[u1_0, (.int .u64 a1.Cost)])]) Try.func92 rfl Try.ntmps92 rfl fun a hE => ?_
  have H := St.imm (Imm.cons (Imm.cons hm1_0)) H
  refine wp_seq ?_
  refine wp_region_lit ?_
  refine s2 hE rfl (d_box hE rfl H) fun a v w hR hE => ?_
  obtain ⟨q866, rfl, H⟩ := hR
  have H : St z I w (Bl q866 102 [u1_0, (.int .u64 a1.Cost)] :: ImR (cInt .i64) u1_0 a1.Nodes :: Bl q0 144 [u0_arcs, (.int .i64 a0_to), u0_out] :: OwnSl c_api_Path u0_out a0_out :: r) := H
  refine wpList_nil ?_
  refine wp_seq ?_
  refine wp_region_lit ?_
  refine s1 hE rfl (d_fieldAddr fld102_0 hE rfl) fun a hE => ?_
  refine s1 hE rfl (d_load sc51 hE rfl H 0 rfl rfl) fun a hE => ?_
  refine s1 hE rfl (d_fieldAddr fld102_0 hE rfl) fun a hE => ?_
  refine s1 hE rfl (d_load sc51 hE rfl H 0 rfl rfl) fun a hE => ?_
  refine s1 hE rfl (d_lenS Try.underlying51 hE rfl H (Rd.im 1 rfl)) fun a hE => ?_
  refine s1 hE rfl (d_sub hE rfl rfl) fun a hE => ?_
  obtain ⟨x869, hx870, hm⟩ := bnd hm
  refine s1 hE rfl (d_indexS sl51 hE rfl rfl H (Rd.im 1 rfl) hx870) fun a hE => ?_
  refine s1 hE rfl (d_loadS1 sc3 hE rfl H (Rd.im 1 rfl) hx870 (fun _ _ e => e)) fun a hE => ?_
  refine s1 hE rfl (d_assign hE rfl) fun a hE => ?_
  refine wpList_nil ?_
  refine wp_seq ?_
  refine wp_seq ?_
  refine wp_region_lit ?_
  refine s1 hE rfl (d_move hE rfl) fun a hE => ?_
  refine s1 hE rfl (d_move hE rfl) fun a hE => ?_
  refine s1 hE rfl (d_nilCheck hE rfl) fun a hE => ?_
  refine s1 hE rfl (d_fieldAddr fld144_1 hE rfl) fun a hE => ?_
  refine s1 hE rfl (d_load sc3 hE rfl H 2 rfl rfl) fun a hE => ?_
  refine s1 hE rfl (d_eql hE rfl rfl) fun a hE => ?_
  refine wpList_nil ?_
  by_cases c886 : x869 = a0_to
  · rw [if_pos c886] at hm
    refine cT hE rfl (decide_eq_true c886) ?_
    refine wp_seq ?_
    obtain ⟨x894, hc895, hm⟩ := bnd hm
    obtain ⟨l898, ha899, hm⟩ := bnd hm
    refine Dr.region (γ := Value × Value × Value) (pre := [[], [], [1], [1, 2], [1, 2, 3], [], [5], [5, 6], [], [8], [5, 6, 7, 8, 9], [5, 6, 7, 8, 9, 10], [1, 2, 3, 4, 5, 6, 7, 8, 9, 10, 11], [0, 1, 2, 3, 4, 5, 6, 7, 8, 9, 10, 11, 12], [0, 1, 2, 3, 4, 5, 6, 7, 8, 9, 10, 11, 12, 13], [0, 1, 2, 3, 4, 5, 6, 7, 8, 9, 10, 11, 12, 13, 14]]) (val := [some (.pointer (some (ad q0 0))), some (.pointer (some (ad q0 0))), some (.pointer (some (ad q0 0))), some (.pointer (some (ad q0 (0 + 2)))), some u0_out, some (.pointer (some (ad q866 (0 + 0)))), some u1_0, none, some (.pointer (some (ad q866 (0 + 1)))), some (.int .u64 a1.Cost), none, none, none, some (.pointer (some (ad q0 0))), some (.pointer (some (ad q0 (0 + 2)))), none]) (eff := [7, 10, 11, 12, 15]) (mask := [[], [7], [7, 10], [7, 10, 11], [7, 10, 11, 12], [7, 10, 11, 12, 15]]) (keys := [[], [28], [31, 28], [32, 31, 28], [33, 32, 31, 28], [33, 32, 31, 28]]) (src := [[.base 0], [.base 0], [.op 1], [.op 2], [.op 3], [.base 3], [.op 5], [.op 6], [.base 3], [.op 8], [.op 9], [], [.op 4], [.op 0], [.op 13], [.op 14]]) (z := z) (ef := fun p g => ([[], [(28, g.1)], [(31, (.agg #[g.1, (.int .u64 a1.Cost)])), (28, g.1)], [(32, g.2.1), (31, (.agg #[g.1, (.int .u64 a1.Cost)])), (28, g.1)], [(33, g.2.2), (32, g.2.1), (31, (.agg #[g.1, (.int .u64 a1.Cost)])), (28, g.1)], [(33, g.2.2), (32, g.2.1), (31, (.agg #[g.1, (.int .u64 a1.Cost)])), (28, g.1)]] : List (List (Nat × Value))).getD p []) (hi := fun _ _ => I) (rs := fun p g => ([Bl q866 102 [u1_0, (.int .u64 a1.Cost)] :: ImR (cInt .i64) u1_0 a1.Nodes :: Bl q0 144 [u0_arcs, (.int .i64 a0_to), u0_out] :: OwnSl c_api_Path u0_out a0_out :: r, OwnSl (cInt .i64) g.1 x894 :: Bl q866 102 [u1_0, (.int .u64 a1.Cost)] :: ImR (cInt .i64) u1_0 a1.Nodes :: Bl q0 144 [u0_arcs, (.int .i64 a0_to), u0_out] :: OwnSl c_api_Path u0_out a0_out :: r, OwnSl (cInt .i64) g.1 x894 :: Bl q866 102 [u1_0, (.int .u64 a1.Cost)] :: ImR (cInt .i64) u1_0 a1.Nodes :: Bl q0 144 [u0_arcs, (.int .i64 a0_to), u0_out] :: OwnSl c_api_Path u0_out a0_out :: r, OwnSl c_api_Path g.2.1 ([(⟨x894, a1.Cost⟩ : S_api_Path)]) :: ImR (cInt .i64) g.1 x894 :: Bl q866 102 [u1_0, (.int .u64 a1.Cost)] :: ImR (cInt .i64) u1_0 a1.Nodes :: Bl q0 144 [u0_arcs, (.int .i64 a0_to), u0_out] :: OwnSl c_api_Path u0_out a0_out :: r, OwnSl c_api_Path g.2.2 l898 :: ImR (cInt .i64) g.1 x894 :: Bl q866 102 [u1_0, (.int .u64 a1.Cost)] :: ImR (cInt .i64) u1_0 a1.Nodes :: Bl q0 144 [u0_arcs, (.int .i64 a0_to), u0_out] :: r, Bl q0 144 [u0_arcs, (.int .i64 a0_to), g.2.2] :: OwnSl c_api_Path g.2.2 l898 :: ImR (cInt .i64) g.1 x894 :: Bl q866 102 [u1_0, (.int .u64 a1.Cost)] :: ImR (cInt .i64) u1_0 a1.Nodes :: r] : List (List Asn)).getD p []) [(0, 0), (1, 0), (2, 0), (3, 0), (4, 0), (5, 0), (6, 0), (8, 0), (9, 0), (0, 1), (1, 1), (2, 1), (3, 1), (4, 1), (8, 1), (9, 1), (0, 2), (1, 2), (2, 2), (3, 2), (4, 2), (0, 3), (1, 3), (2, 3), (3, 3), (4, 3), (0, 4), (13, 4), (14, 4)] [(0, 7, 1), (1, 10, 2), (2, 11, 3), (3, 12, 4), (4, 15, 5)] [0, 1, 2, 3, 4, 5, 6, 8, 9, 13, 14] 5 mo hE (undef, undef, undef) rfl H (by kernel_rfl) (by kernel_rfl) (fun p g => by rcases p with _ | _ | _ | _ | _ | _ | p <;> rfl) ?_ ?_ (by kernel_rfl) (by kernel_rfl) ?_
    · exact ⟨by intro a w g hE H; obtain ⟨v896, v897, v900⟩ := g; exact Dr.is H rfl (Dr.run rfl (d_move hE rfl)),
    by intro a w g hE H; obtain ⟨v896, v897, v900⟩ := g; exact Dr.is H rfl (Dr.run rfl (d_move hE rfl)),
    by intro a w g hE H; obtain ⟨v896, v897, v900⟩ := g; exact Dr.is H rfl (Dr.run rfl (d_nilCheck hE rfl)),
    by intro a w g hE H; obtain ⟨v896, v897, v900⟩ := g; exact Dr.is H rfl (Dr.run rfl (d_fieldAddr fld144_2 hE rfl)),
    by intro a w g hE H; obtain ⟨v896, v897, v900⟩ := g; exact Dr.is H rfl (Dr.run rfl (d_load sc74 hE rfl H 2 rfl rfl)),
    by intro a w g hE H; obtain ⟨v896, v897, v900⟩ := g; exact Dr.is H rfl (Dr.run rfl (d_fieldAddr fld102_0 hE rfl)),
    by intro a w g hE H; obtain ⟨v896, v897, v900⟩ := g; exact Dr.is H rfl (Dr.run rfl (d_load sc51 hE rfl H 0 rfl rfl)),
    by intro a w g hE H; obtain ⟨v896, v897, v900⟩ := g; exact Dr.is H rfl (Dr.run rfl (d_fieldAddr fld102_1 hE rfl)),
    by intro a w g hE H; obtain ⟨v896, v897, v900⟩ := g; exact Dr.is H rfl (Dr.run rfl (d_load sc61 hE rfl H 0 rfl rfl)),
    by intro a w g hE H; obtain ⟨v896, v897, v900⟩ := g; exact Dr.is H rfl (Dr.run rfl (d_move hE rfl)),
    by intro a w g hE H; obtain ⟨v896, v897, v900⟩ := g; exact Dr.is H rfl (Dr.run rfl (d_move hE rfl)),
    by intro a w g hE H; obtain ⟨v896, v897, v900⟩ := g; exact Dr.is H rfl (Dr.run rfl (d_nilCheck hE rfl)),
    by intro a w g hE H; obtain ⟨v896, v897, v900⟩ := g; exact Dr.is H rfl (Dr.run rfl (d_fieldAddr fld144_2 hE rfl)),
    by intro a w g hE H; obtain ⟨v896, v897, v900⟩ := g; exact Dr.is H rfl (Dr.run rfl (d_load sc74 hE rfl H 3 rfl rfl)),
    by intro a w g hE H; obtain ⟨v896, v897, v900⟩ := g; exact Dr.is H rfl (Dr.run rfl (d_fieldAddr fld102_1 hE rfl)),
    by intro a w g hE H; obtain ⟨v896, v897, v900⟩ := g; exact Dr.is H rfl (Dr.run rfl (d_load sc61 hE rfl H 1 rfl rfl)),
    by intro a w g hE H; obtain ⟨v896, v897, v900⟩ := g; exact Dr.is H rfl (Dr.run rfl (d_move hE rfl)),
    by intro a w g hE H; obtain ⟨v896, v897, v900⟩ := g; exact Dr.is H rfl (Dr.run rfl (d_move hE rfl)),
    by intro a w g hE H; obtain ⟨v896, v897, v900⟩ := g; exact Dr.is H rfl (Dr.run rfl (d_nilCheck hE rfl)),
    by intro a w g hE H; obtain ⟨v896, v897, v900⟩ := g; exact Dr.is H rfl (Dr.run rfl (d_fieldAddr fld144_2 hE rfl)),
    by intro a w g hE H; obtain ⟨v896, v897, v900⟩ := g; exact Dr.is H rfl (Dr.run rfl (d_load sc74 hE rfl H 3 rfl rfl)),
    by intro a w g hE H; obtain ⟨v896, v897, v900⟩ := g; exact Dr.is H rfl (Dr.run rfl (d_move hE rfl)),
    by intro a w g hE H; obtain ⟨v896, v897, v900⟩ := g; exact Dr.is H rfl (Dr.run rfl (d_move hE rfl)),
    by intro a w g hE H; obtain ⟨v896, v897, v900⟩ := g; exact Dr.is H rfl (Dr.run rfl (d_nilCheck hE rfl)),
    by intro a w g hE H; obtain ⟨v896, v897, v900⟩ := g; exact Dr.is H rfl (Dr.run rfl (d_fieldAddr fld144_2 hE rfl)),
    by intro a w g hE H; obtain ⟨v896, v897, v900⟩ := g; exact Dr.is H rfl (Dr.run rfl (d_load sc74 hE rfl H 4 rfl rfl)),
    by intro a w g hE H; obtain ⟨v896, v897, v900⟩ := g; exact Dr.is H rfl (Dr.run rfl (d_move hE rfl)),
    by intro a w g hE H; obtain ⟨v896, v897, v900⟩ := g; exact Dr.is H rfl (Dr.run rfl (d_nilCheck hE rfl)),
    by intro a w g hE H; obtain ⟨v896, v897, v900⟩ := g; exact Dr.is H rfl (Dr.run rfl (d_fieldAddr fld144_2 hE rfl)),
    trivial⟩
    · exact ⟨by intro a w g hE hF H; obtain ⟨v896, v897, v900⟩ := g; refine (Dr.run rfl (d_call c150 hE rfl (f150_ok a1.Nodes hc895 (Rd.im 1 rfl) H))).mono fun v w hR => ?_; obtain ⟨v896, hv_, H⟩ := hR; have hv_ := hv_.symm; subst hv_; exact ⟨(v896, v897, v900), H, Dr.lkSub ⟨rfl, trivial⟩⟩,
    by intro a w g hE hF H; obtain ⟨v896, v897, v900⟩ := g; have hE := Dr.env_both hE hF; refine (Dr.run rfl (d_build hE rfl (bld102_0Sl_1In _ _ (Rd.slice H (Rd.own 0 rfl))))).mono fun v w' hR => ?_; obtain ⟨hv_, rfl⟩ := hR; have hv_ := hv_.symm; subst hv_; exact ⟨(v896, v897, v900), H, Dr.lkSub ⟨rfl, rfl, trivial⟩⟩,
    by intro a w g hE hF H; obtain ⟨v896, v897, v900⟩ := g; have hE := Dr.env_both hE hF; have H := St.give H; have H : St z I w (ImR (cInt .i64) v896 x894 :: Bl q866 102 [u1_0, (.int .u64 a1.Cost)] :: ImR (cInt .i64) u1_0 a1.Nodes :: Bl q0 144 [u0_arcs, (.int .i64 a0_to), u0_out] :: OwnSl c_api_Path u0_out a0_out :: r) := H; refine (Dr.run rfl (d_lit (c := c_api_Path) (xs := [(⟨x894, a1.Cost⟩ : S_api_Path)]) hE rfl (lit74_1_v_v _ _) rfl rfl (fun J h iJ s => rowsC (cs := [v896, (.int .u64 a1.Cost)]) ⟨_, rfl, (Sat.im s 0 rfl)⟩ (rows0)) H)).mono fun v w hR => ?_; obtain ⟨v897, rfl⟩ : ∃ x, x = v := ⟨v, rfl⟩; have H : St z I w (OwnSl c_api_Path v897 ([(⟨x894, a1.Cost⟩ : S_api_Path)]) :: ImR (cInt .i64) v896 x894 :: Bl q866 102 [u1_0, (.int .u64 a1.Cost)] :: ImR (cInt .i64) u1_0 a1.Nodes :: Bl q0 144 [u0_arcs, (.int .i64 a0_to), u0_out] :: OwnSl c_api_Path u0_out a0_out :: r) := hR; exact ⟨(v896, v897, v900), H, Dr.lkSub ⟨rfl, rfl, rfl, trivial⟩⟩,
    by intro a w g hE hF H; obtain ⟨v896, v897, v900⟩ := g; have hE := Dr.env_both hE hF; have H := St.get H 5 rfl; have H : St z I w (OwnSl c_api_Path u0_out a0_out :: OwnSl c_api_Path v897 ([(⟨x894, a1.Cost⟩ : S_api_Path)]) :: ImR (cInt .i64) v896 x894 :: Bl q866 102 [u1_0, (.int .u64 a1.Cost)] :: ImR (cInt .i64) u1_0 a1.Nodes :: Bl q0 144 [u0_arcs, (.int .i64 a0_to), u0_out] :: r) := H; refine (Dr.run rfl (d_appendO (lim := 4398046511104) el74 (by decide) (by decide) hE rfl rfl H ha899)).mono fun v w hR => ?_; obtain ⟨v900, rfl⟩ : ∃ x, x = v := ⟨v, rfl⟩; have H : St z I w (OwnSl c_api_Path v900 l898 :: ImR (cInt .i64) v896 x894 :: Bl q866 102 [u1_0, (.int .u64 a1.Cost)] :: ImR (cInt .i64) u1_0 a1.Nodes :: Bl q0 144 [u0_arcs, (.int .i64 a0_to), u0_out] :: r) := hR; exact ⟨(v896, v897, v900), H, Dr.lkSub ⟨rfl, rfl, rfl, rfl, trivial⟩⟩,
    by intro a w g hE hF H; obtain ⟨v896, v897, v900⟩ := g; have hE := Dr.env_both hE hF; have H := St.get H 4 rfl; refine (Dr.run rfl (d_store1 sc74 hE rfl rfl (one_slice (Rd.slice H (Rd.own 1 rfl))) H rfl)).mono fun v w hR => ?_; have H : St z I w (Bl q0 144 [u0_arcs, (.int .i64 a0_to), v900] :: OwnSl c_api_Path v900 l898 :: ImR (cInt .i64) v896 x894 :: Bl q866 102 [u1_0, (.int .u64 a1.Cost)] :: ImR (cInt .i64) u1_0 a1.Nodes :: r) := hR; exact ⟨(v896, v897, v900), H, Dr.lkSub ⟨rfl, rfl, rfl, rfl, trivial⟩⟩,
    trivial⟩
    · intro a w g hE H
      obtain ⟨v896, v897, v900⟩ := g
      have H : St z I w (Bl q0 144 [u0_arcs, (.int .i64 a0_to), v900] :: OwnSl c_api_Path v900 l898 :: ImR (cInt .i64) v896 x894 :: Bl q866 102 [u1_0, (.int .u64 a1.Cost)] :: ImR (cInt .i64) u1_0 a1.Nodes :: r) := H
      refine wp_ret ?_
      cases hm
      have H := St.del H 2
      have H := St.del H 2
      have H := St.del H 2
      exact ret0 rfl hE  ⟨_, rfl, v900, rfl, H⟩
  · rw [if_neg c886] at hm
    refine cF hE rfl (decide_eq_false c886) ?_
    refine wp_skip ?_
    refine wp_seq ?_
    refine wp_region_lit ?_
    refine s1 hE rfl (d_move hE rfl) fun a hE => ?_
    refine s1 hE rfl (d_nilCheck hE rfl) fun a hE => ?_
    refine s1 hE rfl (d_fieldAddr fld144_0 hE rfl) fun a hE => ?_
    refine s1 hE rfl (d_load sc55 hE rfl H 2 rfl rfl) fun a hE => ?_
    refine s1 hE rfl (d_lenS Try.underlying55 hE rfl H (Rd.cons (Rd.cons (Rd.cons (Rd.cons hr0_arcs))))) fun a hE => ?_
    refine s1 hE rfl (d_move hE rfl) fun a hE => ?_
    refine wpList_nil ?_
    obtain ⟨s1178, hj1178, hm⟩ := bnd hm
    refine cut2 (fun a w => ∃ v1176 : Value, Env a 74 [] ∧ St z I w (Bl q0 144 [u0_arcs, (.int .i64 a0_to), v1176] :: OwnSl c_api_Path v1176 s1178 :: r)) ?_ ?_
    · refine wp_block ?_
      refine loopI (fun k a w => ∃ l1038 : List S_api_Path, ∃ y1039 : Int, m92_l0 F_ a1 x869 a0_to a0_arcs k l1038 y1039 = some s1178 ∧ ∃ v1037 : Value, Env a 74 [(0, (.pointer (some (ad q0 0)))), (3, (.pointer (some (ad q866 0)))), (4, (.int .i64 x869)), (39, u0_arcs), (40, (.int .i64 (a0_arcs.length : Int))), (41, (.int .i64 y1039))] ∧ St z I w (Bl q0 144 [u0_arcs, (.int .i64 a0_to), v1037] :: OwnSl c_api_Path v1037 l1038 :: Bl q866 102 [u1_0, (.int .u64 a1.Cost)] :: ImR (cInt .i64) u1_0 a1.Nodes :: r)) ?_ k _ _ ?_
      · rintro k a w ⟨l1038, y1039, hm, v1037, hE, H⟩
        cases k with
        | zero => rw [m92_l0] at hm; cases hm
        | succ k =>
          rw [m92_l0] at hm
          refine wp_seq ?_
          refine wp_region_lit ?_
          refine s1 hE rfl (d_lss hE rfl rfl) fun a hE => ?_
          refine wpList_nil ?_
          refine wp_seq ?_
          by_cases c1180 : y1039 < (a0_arcs.length : Int)
          · rw [if_pos c1180] at hm
            refine cT hE rfl (decide_eq_true c1180) ?_
            refine wp_skip ?_
            refine wp_seq ?_
            refine wp_block ?_
            refine wp_seq ?_
            refine wp_region_lit ?_
            obtain ⟨x1251, hx1252, hm⟩ := bnd hm
            refine s1 hE rfl (d_indexS sl55 hE rfl rfl H (Rd.cons (Rd.cons (Rd.cons (Rd.cons hr0_arcs)))) hx1252) fun a hE => ?_
            refine s1 hE rfl (d_loadSA ag60 rfl hE rfl H (Rd.cons (Rd.cons (Rd.cons (Rd.cons hr0_arcs)))) hx1252 (fun _ _ e => e)) fun a hE => ?_
            refine s2 hE rfl (d_alloc al60 H) fun a v w hR hE => ?_
            obtain ⟨q1253, rfl, H⟩ := hR
            refine s3 (d_store sz60 hE rfl rfl rfl (oneAll rfl) H rfl) fun v w hR => ?_
            have H : St z I w (Bl q1253 60 [(.int .i64 x1251.From), (.int .i64 x1251.To), (.int .i64 x1251.Cost)] :: Bl q0 144 [u0_arcs, (.int .i64 a0_to), v1037] :: OwnSl c_api_Path v1037 l1038 :: Bl q866 102 [u1_0, (.int .u64 a1.Cost)] :: ImR (cInt .i64) u1_0 a1.Nodes :: r) := hR
            refine wpList_nil ?_
            refine wp_seq ?_
            obtain ⟨s1258, hj1258, hm⟩ := bnd hm
            refine cut2 (fun a w => Env a 74 [(0, (.pointer (some (ad q0 0)))), (3, (.pointer (some (ad q866 0)))), (4, (.int .i64 x869)), (6, (.pointer (some (ad q1253 0)))), (39, u0_arcs), (40, (.int .i64 (a0_arcs.length : Int))), (41, (.int .i64 y1039)), (56, (.bool s1258))] ∧ St z I w (Bl q0 144 [u0_arcs, (.int .i64 a0_to), v1037] :: OwnSl c_api_Path v1037 l1038 :: Bl q866 102 [u1_0, (.int .u64 a1.Cost)] :: ImR (cInt .i64) u1_0 a1.Nodes :: Bl q1253 60 [(.int .i64 x1251.From), (.int .i64 x1251.To), (.int .i64 x1251.Cost)] :: r)) ?_ ?_
            · have hm := hj1258
              refine wp_region_lit ?_
              refine s1 hE rfl (d_fieldAddr fld60_0 hE rfl) fun a hE => ?_
              refine s1 hE rfl (d_load sc3 hE rfl H 0 rfl rfl) fun a hE => ?_
              refine s1 hE rfl (d_move hE rfl) fun a hE => ?_
              refine s1 hE rfl (d_eql hE rfl rfl) fun a hE => ?_
              refine s1 hE rfl (d_move hE rfl) fun a hE => ?_
              by_cases c1259 : x1251.From = x869
              · rw [if_pos c1259] at hm
                refine gR hE rfl rfl (decide_eq_true c1259) ?_
                refine s1 hE rfl (d_fieldAddr fld102_0 hE rfl) fun a hE => ?_
                refine gR hE rfl rfl (decide_eq_true c1259) ?_
                refine s1 hE rfl (d_load sc51 hE rfl H 3 rfl rfl) fun a hE => ?_
                refine gR hE rfl rfl (decide_eq_true c1259) ?_
                refine s1 hE rfl (d_fieldAddr fld60_1 hE rfl) fun a hE => ?_
                refine gR hE rfl rfl (decide_eq_true c1259) ?_
                refine s1 hE rfl (d_load sc3 hE rfl H 0 rfl rfl) fun a hE => ?_
                refine gR hE rfl rfl (decide_eq_true c1259) ?_
                obtain ⟨x1260, hc1261, hm⟩ := bnd hm
                refine s2 hE rfl (d_call c91 hE rfl (f91_ok k a1.Nodes x1251.To hc1261 (Rd.im 4 rfl) H)) fun a v w hR hE => ?_
                obtain ⟨hv_, H⟩ := hR
                have hv_ := hv_.symm
                subst hv_
                refine gR hE rfl rfl (decide_eq_true c1259) ?_
                refine s1 hE rfl (d_not hE rfl) fun a hE => ?_
                refine s1 hE rfl (d_pT hE rfl (decide_eq_true c1259) rfl) fun a hE => ?_
                refine wpList_nil ?_
                cases hm
                have H := St.get H 4 rfl
                have H := St.get H 4 rfl
                have H := St.get H 4 rfl
                have H := St.get H 4 rfl
                exact ⟨hE.sub ⟨rfl, rfl, rfl, rfl, rfl, rfl, rfl, rfl, trivial⟩, H⟩
              · rw [if_neg c1259] at hm
                refine gP hE rfl rfl rfl (decide_eq_false c1259) fun a hE => ?_
                refine gP hE rfl rfl rfl (decide_eq_false c1259) fun a hE => ?_
                refine gP hE rfl rfl rfl (decide_eq_false c1259) fun a hE => ?_
                refine gP hE rfl rfl rfl (decide_eq_false c1259) fun a hE => ?_
                refine gP hE rfl rfl rfl (decide_eq_false c1259) fun a hE => ?_
                refine gP hE rfl rfl rfl (decide_eq_false c1259) fun a hE => ?_
                refine s1 hE rfl (d_pF hE rfl (decide_eq_false c1259) rfl) fun a hE => ?_
                refine wpList_nil ?_
                cases hm
                have H := St.get H 4 rfl
                have H := St.get H 4 rfl
                have H := St.get H 4 rfl
                have H := St.get H 4 rfl
                exact ⟨hE.sub ⟨rfl, rfl, rfl, rfl, rfl, rfl, rfl, rfl, trivial⟩, H⟩
            · rintro a w ⟨hE, H⟩
              obtain ⟨s1289, hj1289, hm⟩ := bnd hm
              refine cut2 (fun a w => ∃ v1287 : Value, Env a 74 [(0, (.pointer (some (ad q0 0)))), (3, (.pointer (some (ad q866 0)))), (4, (.int .i64 x869)), (39, u0_arcs), (40, (.int .i64 (a0_arcs.length : Int))), (41, (.int .i64 y1039))] ∧ St z I w (Bl q0 144 [u0_arcs, (.int .i64 a0_to), v1287] :: OwnSl c_api_Path v1287 s1289 :: Bl q866 102 [u1_0, (.int .u64 a1.Cost)] :: ImR (cInt .i64) u1_0 a1.Nodes :: r)) ?_ ?_
              · have hm := hj1289
                by_cases c1290 : s1258 = true
                · rw [if_pos c1290] at hm
                  refine cT hE rfl c1290 ?_
                  obtain ⟨x1303, hc1304, hm⟩ := bnd hm
                  obtain ⟨l1307, ha1308, hm⟩ := bnd hm
                  obtain ⟨x1310, hc1311, hm⟩ := bnd hm
                  obtain ⟨x1312, hc1313, hm⟩ := bnd hm
                  refine Dr.region (γ := Value × Value × Value × Value) (pre := [[], [], [1], [1, 2], [], [4], [4, 5], [1, 2, 3, 4, 5, 6], [], [8], [], [10], [10, 11], [1, 2, 3, 4, 5, 6, 7, 8, 9, 10, 11, 12], [1, 2, 3, 4, 5, 6, 7, 8, 9, 10, 11, 12, 13], [0, 1, 2, 3, 4, 5, 6, 7, 8, 9, 10, 11, 12, 13, 14]]) (val := [some (.pointer (some (ad q0 0))), some (.pointer (some (ad q866 (0 + 0)))), some u1_0, none, some (.pointer (some (ad q1253 (0 + 1)))), some (.int .i64 x1251.To), none, none, some (.pointer (some (ad q866 (0 + 1)))), some (.int .u64 a1.Cost), some (.pointer (some (ad q1253 (0 + 2)))), some (.int .i64 x1251.Cost), some (.int .u64 (IntKind.u64.wrap x1251.Cost)), some (.int .u64 x1310), none, none]) (eff := [3, 6, 7, 14, 15]) (mask := [[], [3], [6], [3, 6], [3, 6, 7], [3, 6, 7, 14], [3, 6, 7, 14, 15]]) (keys := [[], [60], [63], [63, 60], [64, 63, 60], [71, 64, 63, 60], [72, 71, 64, 63, 60]]) (src := [[.base 0], [.base 3], [.op 1], [.op 2], [.base 6], [.op 4], [.op 5], [], [.base 3], [.op 8], [.base 6], [.op 10], [.op 11], [.op 9, .op 12], [.op 13], [.op 0]]) (z := z) (ef := fun p g => ([[], [(60, g.1)], [(63, g.2.1)], [(63, g.2.1), (60, g.1)], [(64, g.2.2.1), (63, g.2.1), (60, g.1)], [(71, (.agg #[g.2.2.1, (.int .u64 x1310)])), (64, g.2.2.1), (63, g.2.1), (60, g.1)], [(72, (.tuple #[])), (71, (.agg #[g.2.2.1, (.int .u64 x1310)])), (64, g.2.2.1), (63, g.2.1), (60, g.1)]] : List (List (Nat × Value))).getD p []) (hi := fun _ _ => I) (rs := fun p g => ([Bl q0 144 [u0_arcs, (.int .i64 a0_to), v1037] :: OwnSl c_api_Path v1037 l1038 :: Bl q866 102 [u1_0, (.int .u64 a1.Cost)] :: ImR (cInt .i64) u1_0 a1.Nodes :: Bl q1253 60 [(.int .i64 x1251.From), (.int .i64 x1251.To), (.int .i64 x1251.Cost)] :: r, OwnSl (cInt .i64) g.1 x1303 :: Bl q0 144 [u0_arcs, (.int .i64 a0_to), v1037] :: OwnSl c_api_Path v1037 l1038 :: Bl q866 102 [u1_0, (.int .u64 a1.Cost)] :: ImR (cInt .i64) u1_0 a1.Nodes :: Bl q1253 60 [(.int .i64 x1251.From), (.int .i64 x1251.To), (.int .i64 x1251.Cost)] :: r, OwnSl (cInt .i64) g.2.1 ([x1251.To]) :: Bl q0 144 [u0_arcs, (.int .i64 a0_to), v1037] :: OwnSl c_api_Path v1037 l1038 :: Bl q866 102 [u1_0, (.int .u64 a1.Cost)] :: ImR (cInt .i64) u1_0 a1.Nodes :: Bl q1253 60 [(.int .i64 x1251.From), (.int .i64 x1251.To), (.int .i64 x1251.Cost)] :: r, OwnSl (cInt .i64) g.2.1 ([x1251.To]) :: OwnSl (cInt .i64) g.1 x1303 :: Bl q0 144 [u0_arcs, (.int .i64 a0_to), v1037] :: OwnSl c_api_Path v1037 l1038 :: Bl q866 102 [u1_0, (.int .u64 a1.Cost)] :: ImR (cInt .i64) u1_0 a1.Nodes :: Bl q1253 60 [(.int .i64 x1251.From), (.int .i64 x1251.To), (.int .i64 x1251.Cost)] :: r, OwnSl (cInt .i64) g.2.2.1 l1307 :: Bl q0 144 [u0_arcs, (.int .i64 a0_to), v1037] :: OwnSl c_api_Path v1037 l1038 :: Bl q866 102 [u1_0, (.int .u64 a1.Cost)] :: ImR (cInt .i64) u1_0 a1.Nodes :: Bl q1253 60 [(.int .i64 x1251.From), (.int .i64 x1251.To), (.int .i64 x1251.Cost)] :: r, OwnSl (cInt .i64) g.2.2.1 l1307 :: Bl q0 144 [u0_arcs, (.int .i64 a0_to), v1037] :: OwnSl c_api_Path v1037 l1038 :: Bl q866 102 [u1_0, (.int .u64 a1.Cost)] :: ImR (cInt .i64) u1_0 a1.Nodes :: Bl q1253 60 [(.int .i64 x1251.From), (.int .i64 x1251.To), (.int .i64 x1251.Cost)] :: r, Bl q0 144 [u0_arcs, (.int .i64 a0_to), g.2.2.2] :: OwnSl c_api_Path g.2.2.2 x1312 :: ImR (cInt .i64) g.2.2.1 l1307 :: Bl q866 102 [u1_0, (.int .u64 a1.Cost)] :: ImR (cInt .i64) u1_0 a1.Nodes :: Bl q1253 60 [(.int .i64 x1251.From), (.int .i64 x1251.To), (.int .i64 x1251.Cost)] :: r] : List (List Asn)).getD p []) [(0, 0), (1, 0), (2, 0), (4, 0), (5, 0), (8, 0), (9, 0), (10, 0), (11, 0), (12, 0), (0, 1), (4, 1), (5, 1), (8, 1), (9, 1), (10, 1), (11, 1), (12, 1), (0, 2), (1, 2), (2, 2), (8, 2), (9, 2), (10, 2), (11, 2), (12, 2), (0, 3), (8, 3), (9, 3), (10, 3), (11, 3), (12, 3), (0, 4), (8, 4), (9, 4), (10, 4), (11, 4), (12, 4), (13, 4), (0, 5)] [(0, 3, 1), (0, 6, 2), (1, 6, 3), (2, 3, 3), (3, 7, 4), (4, 14, 5), (5, 15, 6)] [0, 1, 2, 4, 5, 8, 9, 10, 11, 12, 13] 6 mo hE (undef, undef, undef, undef) rfl H (by kernel_rfl) (by kernel_rfl) (fun p g => by rcases p with _ | _ | _ | _ | _ | _ | _ | p <;> rfl) ?_ ?_ (by kernel_rfl) (by kernel_rfl) ?_
                  · exact ⟨by intro a w g hE H; obtain ⟨v1305, v1306, v1309, v1314⟩ := g; exact Dr.is H rfl (Dr.run rfl (d_move hE rfl)),
    by intro a w g hE H; obtain ⟨v1305, v1306, v1309, v1314⟩ := g; exact Dr.is H rfl (Dr.run rfl (d_fieldAddr fld102_0 hE rfl)),
    by intro a w g hE H; obtain ⟨v1305, v1306, v1309, v1314⟩ := g; exact Dr.is H rfl (Dr.run rfl (d_load sc51 hE rfl H 2 rfl rfl)),
    by intro a w g hE H; obtain ⟨v1305, v1306, v1309, v1314⟩ := g; exact Dr.is H rfl (Dr.run rfl (d_fieldAddr fld60_1 hE rfl)),
    by intro a w g hE H; obtain ⟨v1305, v1306, v1309, v1314⟩ := g; exact Dr.is H rfl (Dr.run rfl (d_load sc3 hE rfl H 4 rfl rfl)),
    by intro a w g hE H; obtain ⟨v1305, v1306, v1309, v1314⟩ := g; exact Dr.is H rfl (Dr.run rfl (d_fieldAddr fld102_1 hE rfl)),
    by intro a w g hE H; obtain ⟨v1305, v1306, v1309, v1314⟩ := g; exact Dr.is H rfl (Dr.run rfl (d_load sc61 hE rfl H 2 rfl rfl)),
    by intro a w g hE H; obtain ⟨v1305, v1306, v1309, v1314⟩ := g; exact Dr.is H rfl (Dr.run rfl (d_fieldAddr fld60_2 hE rfl)),
    by intro a w g hE H; obtain ⟨v1305, v1306, v1309, v1314⟩ := g; exact Dr.is H rfl (Dr.run rfl (d_load sc3 hE rfl H 4 rfl rfl)),
    by intro a w g hE H; obtain ⟨v1305, v1306, v1309, v1314⟩ := g; exact Dr.is H rfl (Dr.run rfl (d_convert hE rfl (cv3_61 _))),
    by intro a w g hE H; obtain ⟨v1305, v1306, v1309, v1314⟩ := g; exact Dr.is H rfl (Dr.run rfl (d_move hE rfl)),
    by intro a w g hE H; obtain ⟨v1305, v1306, v1309, v1314⟩ := g; exact Dr.is H rfl (Dr.run rfl (d_fieldAddr fld60_1 hE rfl)),
    by intro a w g hE H; obtain ⟨v1305, v1306, v1309, v1314⟩ := g; exact Dr.is H rfl (Dr.run rfl (d_load sc3 hE rfl H 5 rfl rfl)),
    by intro a w g hE H; obtain ⟨v1305, v1306, v1309, v1314⟩ := g; exact Dr.is H rfl (Dr.run rfl (d_fieldAddr fld102_1 hE rfl)),
    by intro a w g hE H; obtain ⟨v1305, v1306, v1309, v1314⟩ := g; exact Dr.is H rfl (Dr.run rfl (d_load sc61 hE rfl H 3 rfl rfl)),
    by intro a w g hE H; obtain ⟨v1305, v1306, v1309, v1314⟩ := g; exact Dr.is H rfl (Dr.run rfl (d_fieldAddr fld60_2 hE rfl)),
    by intro a w g hE H; obtain ⟨v1305, v1306, v1309, v1314⟩ := g; exact Dr.is H rfl (Dr.run rfl (d_load sc3 hE rfl H 5 rfl rfl)),
    by intro a w g hE H; obtain ⟨v1305, v1306, v1309, v1314⟩ := g; exact Dr.is H rfl (Dr.run rfl (d_convert hE rfl (cv3_61 _))),
    by intro a w g hE H; obtain ⟨v1305, v1306, v1309, v1314⟩ := g; exact Dr.is H rfl (Dr.run rfl (d_move hE rfl)),
    by intro a w g hE H; obtain ⟨v1305, v1306, v1309, v1314⟩ := g; exact Dr.is H rfl (Dr.run rfl (d_fieldAddr fld102_0 hE rfl)),
    by intro a w g hE H; obtain ⟨v1305, v1306, v1309, v1314⟩ := g; exact Dr.is H rfl (Dr.run rfl (d_load sc51 hE rfl H 3 rfl rfl)),
    by intro a w g hE H; obtain ⟨v1305, v1306, v1309, v1314⟩ := g; exact Dr.is H rfl (Dr.run rfl (d_fieldAddr fld102_1 hE rfl)),
    by intro a w g hE H; obtain ⟨v1305, v1306, v1309, v1314⟩ := g; exact Dr.is H rfl (Dr.run rfl (d_load sc61 hE rfl H 3 rfl rfl)),
    by intro a w g hE H; obtain ⟨v1305, v1306, v1309, v1314⟩ := g; exact Dr.is H rfl (Dr.run rfl (d_fieldAddr fld60_2 hE rfl)),
    by intro a w g hE H; obtain ⟨v1305, v1306, v1309, v1314⟩ := g; exact Dr.is H rfl (Dr.run rfl (d_load sc3 hE rfl H 5 rfl rfl)),
    by intro a w g hE H; obtain ⟨v1305, v1306, v1309, v1314⟩ := g; exact Dr.is H rfl (Dr.run rfl (d_convert hE rfl (cv3_61 _))),
    by intro a w g hE H; obtain ⟨v1305, v1306, v1309, v1314⟩ := g; exact Dr.is H rfl (Dr.run rfl (d_move hE rfl)),
    by intro a w g hE H; obtain ⟨v1305, v1306, v1309, v1314⟩ := g; exact Dr.is H rfl (Dr.run rfl (d_fieldAddr fld102_1 hE rfl)),
    by intro a w g hE H; obtain ⟨v1305, v1306, v1309, v1314⟩ := g; exact Dr.is H rfl (Dr.run rfl (d_load sc61 hE rfl H 4 rfl rfl)),
    by intro a w g hE H; obtain ⟨v1305, v1306, v1309, v1314⟩ := g; exact Dr.is H rfl (Dr.run rfl (d_fieldAddr fld60_2 hE rfl)),
    by intro a w g hE H; obtain ⟨v1305, v1306, v1309, v1314⟩ := g; exact Dr.is H rfl (Dr.run rfl (d_load sc3 hE rfl H 6 rfl rfl)),
    by intro a w g hE H; obtain ⟨v1305, v1306, v1309, v1314⟩ := g; exact Dr.is H rfl (Dr.run rfl (d_convert hE rfl (cv3_61 _))),
    by intro a w g hE H; obtain ⟨v1305, v1306, v1309, v1314⟩ := g; exact Dr.is H rfl (Dr.run rfl (d_move hE rfl)),
    by intro a w g hE H; obtain ⟨v1305, v1306, v1309, v1314⟩ := g; exact Dr.is H rfl (Dr.run rfl (d_fieldAddr fld102_1 hE rfl)),
    by intro a w g hE H; obtain ⟨v1305, v1306, v1309, v1314⟩ := g; exact Dr.is H rfl (Dr.run rfl (d_load sc61 hE rfl H 3 rfl rfl)),
    by intro a w g hE H; obtain ⟨v1305, v1306, v1309, v1314⟩ := g; exact Dr.is H rfl (Dr.run rfl (d_fieldAddr fld60_2 hE rfl)),
    by intro a w g hE H; obtain ⟨v1305, v1306, v1309, v1314⟩ := g; exact Dr.is H rfl (Dr.run rfl (d_load sc3 hE rfl H 5 rfl rfl)),
    by intro a w g hE H; obtain ⟨v1305, v1306, v1309, v1314⟩ := g; exact Dr.is H rfl (Dr.run rfl (d_convert hE rfl (cv3_61 _))),
    by intro a w g hE H; obtain ⟨v1305, v1306, v1309, v1314⟩ := g; exact (Dr.run rfl (d_call c89 hE rfl (f89_ok a1.Cost (IntKind.u64.wrap x1251.Cost) hc1311  H))).mono fun v w' hR => by obtain ⟨rfl, H⟩ := hR; exact ⟨rfl, H⟩,
    by intro a w g hE H; obtain ⟨v1305, v1306, v1309, v1314⟩ := g; exact Dr.is H rfl (Dr.run rfl (d_move hE rfl)),
    trivial⟩
                  · exact ⟨by intro a w g hE hF H; obtain ⟨v1305, v1306, v1309, v1314⟩ := g; refine (Dr.run rfl (d_call c150 hE rfl (f150_ok a1.Nodes hc1304 (Rd.im 3 rfl) H))).mono fun v w hR => ?_; obtain ⟨v1305, hv_, H⟩ := hR; have hv_ := hv_.symm; subst hv_; exact ⟨(v1305, v1306, v1309, v1314), H, Dr.lkSub ⟨rfl, trivial⟩⟩,
    by intro a w g hE hF H; obtain ⟨v1305, v1306, v1309, v1314⟩ := g; refine (Dr.run rfl (d_lit (c := (cInt .i64)) (xs := [x1251.To]) hE rfl (lit51_1 _) rfl rfl (fun J h iJ s => rowsC (cs := [(.int .i64 x1251.To)]) rfl (rows0)) H)).mono fun v w hR => ?_; obtain ⟨v1306, rfl⟩ : ∃ x, x = v := ⟨v, rfl⟩; have H : St z I w (OwnSl (cInt .i64) v1306 ([x1251.To]) :: Bl q0 144 [u0_arcs, (.int .i64 a0_to), v1037] :: OwnSl c_api_Path v1037 l1038 :: Bl q866 102 [u1_0, (.int .u64 a1.Cost)] :: ImR (cInt .i64) u1_0 a1.Nodes :: Bl q1253 60 [(.int .i64 x1251.From), (.int .i64 x1251.To), (.int .i64 x1251.Cost)] :: r) := hR; exact ⟨(v1305, v1306, v1309, v1314), H, Dr.lkSub ⟨rfl, trivial⟩⟩,
    by intro a w g hE hF H; obtain ⟨v1305, v1306, v1309, v1314⟩ := g; refine (Dr.run rfl (d_lit (c := (cInt .i64)) (xs := [x1251.To]) hE rfl (lit51_1 _) rfl rfl (fun J h iJ s => rowsC (cs := [(.int .i64 x1251.To)]) rfl (rows0)) H)).mono fun v w hR => ?_; obtain ⟨v1306, rfl⟩ : ∃ x, x = v := ⟨v, rfl⟩; have H : St z I w (OwnSl (cInt .i64) v1306 ([x1251.To]) :: OwnSl (cInt .i64) v1305 x1303 :: Bl q0 144 [u0_arcs, (.int .i64 a0_to), v1037] :: OwnSl c_api_Path v1037 l1038 :: Bl q866 102 [u1_0, (.int .u64 a1.Cost)] :: ImR (cInt .i64) u1_0 a1.Nodes :: Bl q1253 60 [(.int .i64 x1251.From), (.int .i64 x1251.To), (.int .i64 x1251.Cost)] :: r) := hR; exact ⟨(v1305, v1306, v1309, v1314), H, Dr.lkSub ⟨rfl, rfl, trivial⟩⟩,
    by intro a w g hE hF H; obtain ⟨v1305, v1306, v1309, v1314⟩ := g; refine (Dr.run rfl (d_call c150 hE rfl (f150_ok a1.Nodes hc1304 (Rd.im 4 rfl) H))).mono fun v w hR => ?_; obtain ⟨v1305, hv_, H⟩ := hR; have hv_ := hv_.symm; subst hv_; have H := St.get H 6 rfl; have H := St.get H 6 rfl; have H := St.get H 6 rfl; have H := St.get H 6 rfl; have H := St.get H 6 rfl; have H := St.get H 5 rfl; have H := St.get H 6 rfl; exact ⟨(v1305, v1306, v1309, v1314), H, Dr.lkSub ⟨rfl, rfl, trivial⟩⟩,
    by intro a w g hE hF H; obtain ⟨v1305, v1306, v1309, v1314⟩ := g; have hE := Dr.env_both hE hF; have H := St.get H 1 rfl; have H : St z I w (OwnSl (cInt .i64) v1305 x1303 :: OwnSl (cInt .i64) v1306 ([x1251.To]) :: Bl q0 144 [u0_arcs, (.int .i64 a0_to), v1037] :: OwnSl c_api_Path v1037 l1038 :: Bl q866 102 [u1_0, (.int .u64 a1.Cost)] :: ImR (cInt .i64) u1_0 a1.Nodes :: Bl q1253 60 [(.int .i64 x1251.From), (.int .i64 x1251.To), (.int .i64 x1251.Cost)] :: r) := H; refine (Dr.run rfl (d_appendO (lim := 17592186044416) el51 (by decide) (by decide) hE rfl rfl H ha1308)).mono fun v w hR => ?_; obtain ⟨v1309, rfl⟩ : ∃ x, x = v := ⟨v, rfl⟩; have H : St z I w (OwnSl (cInt .i64) v1309 l1307 :: Bl q0 144 [u0_arcs, (.int .i64 a0_to), v1037] :: OwnSl c_api_Path v1037 l1038 :: Bl q866 102 [u1_0, (.int .u64 a1.Cost)] :: ImR (cInt .i64) u1_0 a1.Nodes :: Bl q1253 60 [(.int .i64 x1251.From), (.int .i64 x1251.To), (.int .i64 x1251.Cost)] :: r) := hR; exact ⟨(v1305, v1306, v1309, v1314), H, Dr.lkSub ⟨rfl, rfl, rfl, trivial⟩⟩,
    by intro a w g hE hF H; obtain ⟨v1305, v1306, v1309, v1314⟩ := g; have hE := Dr.env_both hE hF; refine (Dr.run rfl (d_build hE rfl (bld102_0Sl_1In _ _ (Rd.slice H (Rd.own 0 rfl))))).mono fun v w' hR => ?_; obtain ⟨hv_, rfl⟩ := hR; have hv_ := hv_.symm; subst hv_; exact ⟨(v1305, v1306, v1309, v1314), H, Dr.lkSub ⟨rfl, rfl, rfl, rfl, trivial⟩⟩,
    by intro a w g hE hF H; obtain ⟨v1305, v1306, v1309, v1314⟩ := g; have hE := Dr.env_both hE hF; have H := St.give H; have H : St z I w (ImR (cInt .i64) v1309 l1307 :: Bl q0 144 [u0_arcs, (.int .i64 a0_to), v1037] :: OwnSl c_api_Path v1037 l1038 :: Bl q866 102 [u1_0, (.int .u64 a1.Cost)] :: ImR (cInt .i64) u1_0 a1.Nodes :: Bl q1253 60 [(.int .i64 x1251.From), (.int .i64 x1251.To), (.int .i64 x1251.Cost)] :: r) := H; have H := St.get H 2 rfl; have H := St.get H 2 rfl; have H : St z I w (Bl q0 144 [u0_arcs, (.int .i64 a0_to), v1037] :: OwnSl c_api_Path v1037 l1038 :: ImR (cInt .i64) v1309 l1307 :: Bl q866 102 [u1_0, (.int .u64 a1.Cost)] :: ImR (cInt .i64) u1_0 a1.Nodes :: Bl q1253 60 [(.int .i64 x1251.From), (.int .i64 x1251.To), (.int .i64 x1251.Cost)] :: r) := H; refine (Dr.run rfl (d_call c92 hE rfl (hRec a0_arcs a0_to l1038 (⟨l1307, x1310⟩ : S_api_Path) hc1313 (Rd.cons (Rd.cons (Rd.cons (Rd.cons hr0_arcs)))) (Imm.im 0 rfl) H))).mono fun v w hR => ?_; obtain ⟨v1314, hv_, H⟩ := hR; have hv_ := hv_.symm; subst hv_; exact ⟨(v1305, v1306, v1309, v1314), H, Dr.lkSub ⟨rfl, rfl, rfl, rfl, rfl, trivial⟩⟩,
    trivial⟩
                  · intro a w g hE H
                    obtain ⟨v1305, v1306, v1309, v1314⟩ := g
                    have H : St z I w (Bl q0 144 [u0_arcs, (.int .i64 a0_to), v1314] :: OwnSl c_api_Path v1314 x1312 :: ImR (cInt .i64) v1309 l1307 :: Bl q866 102 [u1_0, (.int .u64 a1.Cost)] :: ImR (cInt .i64) u1_0 a1.Nodes :: Bl q1253 60 [(.int .i64 x1251.From), (.int .i64 x1251.To), (.int .i64 x1251.Cost)] :: r) := H
                    cases hm
                    have H := St.get H 4 rfl
                    have H := St.get H 4 rfl
                    have H := St.get H 3 rfl
                    have H := St.get H 3 rfl
                    have H := St.del H 4
                    have H := St.del H 4
                    exact ⟨v1314, hE.sub ⟨rfl, rfl, rfl, rfl, rfl, rfl, trivial⟩, H⟩
                · rw [if_neg c1290] at hm
                  refine cF hE rfl (b_f c1290) ?_
                  refine wp_skip ?_
                  cases hm
                  have H := St.del H 4
                  exact ⟨v1037, hE.sub ⟨rfl, rfl, rfl, rfl, rfl, rfl, trivial⟩, H⟩
              · rintro a w ⟨v1287, hE, H⟩
                refine wp_region_lit ?_
                refine s1 hE rfl (d_add hE rfl rfl) fun a hE => ?_
                refine s1 hE rfl (d_move hE rfl) fun a hE => ?_
                refine wpList_nil ?_
                exact ⟨k, Nat.lt_succ_self k, s1289, IntKind.i64.wrap (y1039 + 1), hm, v1287, hE.sub ⟨rfl, rfl, rfl, rfl, rfl, rfl, trivial⟩, H⟩
          · rw [if_neg c1180] at hm
            refine cF hE rfl (decide_eq_false c1180) ?_
            refine wp_exit ?_
            cases hm
            have H := St.del H 2
            have H := St.del H 2
            exact ⟨v1037, hE.sub trivial, H⟩
      · have H := St.get H 1 rfl
        have H := St.get H 1 rfl
        have H := St.get H 3 rfl
        have H := St.get H 3 rfl
        exact ⟨a0_out, 0, hj1178, u0_out, hE.sub ⟨rfl, rfl, rfl, rfl, rfl, rfl, trivial⟩, H⟩
    · rintro a w ⟨v1176, hE, H⟩
      cases hm
      exact end0 rfl hE  ⟨_, rfl, v1176, rfl, H⟩
theorem f92_ok (k : Nat) : ∀ {q0 : Nat} {u0_arcs : Value} (a0_arcs : List S_api_Arc) (a0_to : Int) {u0_out : Value} (a0_out : List S_api_Path) (a1 : S_api_Path) {u1_0 : Value} {res : (List S_api_Path)}, m92 k a0_arcs a0_to a0_out a1 = some res → ∀ {z w : World} {I : Hp} {r : List Asn}, Rd c_api_Arc I r u0_arcs a0_arcs → Imm (cInt .i64) I r u1_0 a1.Nodes → St z I w (Bl q0 144 [u0_arcs, (.int .i64 a0_to), u0_out] :: OwnSl c_api_Path u0_out a0_out :: r) → Calls Try.prog 92 #[(.pointer (some (ad q0 0))), (.agg #[u1_0, (.int .u64 a1.Cost)])] w (Rt fun v w' => ∃ v863 : Value, v = (.tuple #[]) ∧ St z I w' (Bl q0 144 [u0_arcs, (.int .i64 a0_to), v863] :: OwnSl c_api_Path v863 res :: r)) := by
  induction k with
  | zero => intros; rename_i hm _ _ _ _ _ _ _; cases hm
  | succ k ih =>
    intro q0 u0_arcs a0_arcs a0_to u0_out a0_out a1 u1_0 res hm z w I r hr0_arcs hm1_0 H
    exact f92_b (m92 k) ih k a0_arcs a0_to a0_out a1 hm hr0_arcs hm1_0 H
theorem cmpok94 (k : Nat) : CmpOk Try.prog 94 c_api_Path (fun x y => m94 k x y) := by
  intro x y a hm cs ds w hx hy
  obtain ⟨xv0, rfl, xh0⟩ := hx
  obtain ⟨yv0, rfl, yh0⟩ := hy
  exact f94_ok k x y hm (z := w) (I := hp w) (r := []) (Imm.of xh0) (Imm.of yh0) (St.all w)
theorem srt93_94 (k : Nat) {v : Value} {xs ys : List S_api_Path} (hs : sortF (fun x y => m94 k x y) xs = some ys) {z w : World} {I : Hp} {r : List Asn} (H : St z I w (OwnSl c_api_Path v xs :: r)) : Calls Try.prog 93 #[v, .func (.func 94) #[] #[]] w (Rt fun u w' => u = .tuple #[] ∧ St z I w' (OwnSl c_api_Path v ys :: r)) :=
  sortF_row (ρ := Try.sortf93_ren) Try.sortf93 ag102 (run_callFunc c94) (cmpok94 k ) hs H
def m41 (k : Nat) (a0 : List S_api_Arc) (a1 : Int) (a2 : Int) (a3 : Int) : Option (List S_api_Path) := Option.bind (m86 k a0) fun x103 => Option.bind (α := Bool) (if a1 = a2 then (some true) else (if a3 < 1 then (some true) else (if 8 < (x103.length : Int) then (some true) else (Option.bind (m91 k x103 a1) fun x120 => if x120 = true then (Option.bind (m91 k x103 a2) fun x123 => some (!x123)) else (some true))))) fun s116 => if s116 = true then (some []) else (Option.bind (m92 k a0 a2 [] (⟨[a1], 0⟩ : S_api_Path)) fun x134 => Option.bind (sortF (fun x y => m94 k x y) x134) fun l139 => Option.bind (cutx l139 0 (if 20 < (if a3 < (l139.length : Int) then a3 else (l139.length : Int)) then 20 else (if a3 < (l139.length : Int) then a3 else (l139.length : Int)))) fun l143 => some l143)
set_option maxRecDepth 20000 in
set_option maxHeartbeats 4000000 in
theorem f41_ok (k : Nat) {u0 : Value} (a0 : List S_api_Arc) (a1 : Int) (a2 : Int) (a3 : Int) {res : (List S_api_Path)} (hm : m41 k a0 a1 a2 a3 = some res) {z w : World} {I : Hp} {r : List Asn} (hr0 : Rd c_api_Arc I r u0 a0) (hz : z.drawn = 0) (H : St z I w (r)) :
    Calls Try.prog 41 #[u0, (.int .i64 a1), (.int .i64 a2), (.int .i64 a3)] w (Rt fun v w' => ∃ v98 : Value, v = v98 ∧ St z I w' (OwnSl c_api_Path v98 res :: r)) := by
  unfold m41 at hm
  refine enter (args := [u0, (.int .i64 a1), (.int .i64 a2), (.int .i64 a3)]) Try.func41 rfl Try.ntmps41 rfl fun a hE => ?_
  refine wp_seq ?_
  refine wp_region_lit ?_
  refine s1 hE rfl (d_assign hE rfl) fun a hE => ?_
  refine wpList_nil ?_
  refine wp_seq ?_
  refine wp_region_lit ?_
  refine s1 hE rfl (d_move hE rfl) fun a hE => ?_
  obtain ⟨x103, hc104, hm⟩ := bnd hm
  refine s2 hE rfl (d_call c86 hE rfl (f86_ok k a0 hc104 hr0 hz H)) fun a v w hR hE => ?_
  obtain ⟨v105, hv_, H⟩ := hR
  have hv_ := hv_.symm
  subst hv_
  refine s1 hE rfl (d_assign hE rfl) fun a hE => ?_
  refine wpList_nil ?_
  refine wp_seq ?_
  refine wp_seq ?_
  obtain ⟨s116, hj116, hm⟩ := bnd hm
  refine cut2 (fun a w => Env a 63 [(0, u0), (1, (.int .i64 a1)), (2, (.int .i64 a2)), (3, (.int .i64 a3)), (36, (.bool s116))] ∧ St z I w (r)) ?_ ?_
  · have hm := hj116
    refine wp_region_lit ?_
    refine s1 hE rfl (d_move hE rfl) fun a hE => ?_
    refine s1 hE rfl (d_move hE rfl) fun a hE => ?_
    refine s1 hE rfl (d_eql hE rfl rfl) fun a hE => ?_
    refine s1 hE rfl (d_move hE rfl) fun a hE => ?_
    by_cases c117 : a1 = a2
    · rw [if_pos c117] at hm
      refine gP hE rfl rfl rfl (decide_eq_true c117) fun a hE => ?_
      refine gP hE rfl rfl rfl (decide_eq_true c117) fun a hE => ?_
      refine s1 hE rfl (d_pT hE rfl (decide_eq_true c117) rfl) fun a hE => ?_
      refine s1 hE rfl (d_move hE rfl) fun a hE => ?_
      refine gP hE rfl rfl rfl rfl fun a hE => ?_
      refine gP hE rfl rfl rfl rfl fun a hE => ?_
      refine gP hE rfl rfl rfl rfl fun a hE => ?_
      refine s1 hE rfl (d_pT hE rfl rfl rfl) fun a hE => ?_
      refine s1 hE rfl (d_move hE rfl) fun a hE => ?_
      refine gP hE rfl rfl rfl rfl fun a hE => ?_
      refine gP hE rfl rfl rfl rfl fun a hE => ?_
      refine gP hE rfl rfl rfl rfl fun a hE => ?_
      refine gP hE rfl rfl rfl rfl fun a hE => ?_
      refine s1 hE rfl (d_pT hE rfl rfl rfl) fun a hE => ?_
      refine s1 hE rfl (d_move hE rfl) fun a hE => ?_
      refine gP hE rfl rfl rfl rfl fun a hE => ?_
      refine gP hE rfl rfl rfl rfl fun a hE => ?_
      refine gP hE rfl rfl rfl rfl fun a hE => ?_
      refine gP hE rfl rfl rfl rfl fun a hE => ?_
      refine s1 hE rfl (d_pT hE rfl rfl rfl) fun a hE => ?_
      refine wpList_nil ?_
      cases hm
      have H := St.del H 0
      exact ⟨hE.sub ⟨rfl, rfl, rfl, rfl, rfl, trivial⟩, H⟩
    · rw [if_neg c117] at hm
      refine gR hE rfl rfl (decide_eq_false c117) ?_
      refine s1 hE rfl (d_move hE rfl) fun a hE => ?_
      refine gR hE rfl rfl (decide_eq_false c117) ?_
      refine s1 hE rfl (d_lss hE rfl rfl) fun a hE => ?_
      refine s1 hE rfl (d_pF hE rfl (decide_eq_false c117) rfl) fun a hE => ?_
      refine s1 hE rfl (d_move hE rfl) fun a hE => ?_
      by_cases c118 : a3 < 1
      · rw [if_pos c118] at hm
        refine gP hE rfl rfl rfl (decide_eq_true c118) fun a hE => ?_
        refine gP hE rfl rfl rfl (decide_eq_true c118) fun a hE => ?_
        refine gP hE rfl rfl rfl (decide_eq_true c118) fun a hE => ?_
        refine s1 hE rfl (d_pT hE rfl (decide_eq_true c118) rfl) fun a hE => ?_
        refine s1 hE rfl (d_move hE rfl) fun a hE => ?_
        refine gP hE rfl rfl rfl rfl fun a hE => ?_
        refine gP hE rfl rfl rfl rfl fun a hE => ?_
        refine gP hE rfl rfl rfl rfl fun a hE => ?_
        refine gP hE rfl rfl rfl rfl fun a hE => ?_
        refine s1 hE rfl (d_pT hE rfl rfl rfl) fun a hE => ?_
        refine s1 hE rfl (d_move hE rfl) fun a hE => ?_
        refine gP hE rfl rfl rfl rfl fun a hE => ?_
        refine gP hE rfl rfl rfl rfl fun a hE => ?_
        refine gP hE rfl rfl rfl rfl fun a hE => ?_
        refine gP hE rfl rfl rfl rfl fun a hE => ?_
        refine s1 hE rfl (d_pT hE rfl rfl rfl) fun a hE => ?_
        refine wpList_nil ?_
        cases hm
        have H := St.del H 0
        exact ⟨hE.sub ⟨rfl, rfl, rfl, rfl, rfl, trivial⟩, H⟩
      · rw [if_neg c118] at hm
        refine gR hE rfl rfl (decide_eq_false c118) ?_
        refine s1 hE rfl (d_move hE rfl) fun a hE => ?_
        refine gR hE rfl rfl (decide_eq_false c118) ?_
        refine s1 hE rfl (d_lenS Try.underlying51 hE rfl H (Rd.own 0 rfl)) fun a hE => ?_
        refine gR hE rfl rfl (decide_eq_false c118) ?_
        refine s1 hE rfl (d_gtr hE rfl rfl) fun a hE => ?_
        refine s1 hE rfl (d_pF hE rfl (decide_eq_false c118) rfl) fun a hE => ?_
        refine s1 hE rfl (d_move hE rfl) fun a hE => ?_
        by_cases c119 : 8 < (x103.length : Int)
        · rw [if_pos c119] at hm
          refine gP hE rfl rfl rfl (decide_eq_true c119) fun a hE => ?_
          refine gP hE rfl rfl rfl (decide_eq_true c119) fun a hE => ?_
          refine gP hE rfl rfl rfl (decide_eq_true c119) fun a hE => ?_
          refine gP hE rfl rfl rfl (decide_eq_true c119) fun a hE => ?_
          refine s1 hE rfl (d_pT hE rfl (decide_eq_true c119) rfl) fun a hE => ?_
          refine s1 hE rfl (d_move hE rfl) fun a hE => ?_
          refine gP hE rfl rfl rfl rfl fun a hE => ?_
          refine gP hE rfl rfl rfl rfl fun a hE => ?_
          refine gP hE rfl rfl rfl rfl fun a hE => ?_
          refine gP hE rfl rfl rfl rfl fun a hE => ?_
          refine s1 hE rfl (d_pT hE rfl rfl rfl) fun a hE => ?_
          refine wpList_nil ?_
          cases hm
          have H := St.del H 0
          exact ⟨hE.sub ⟨rfl, rfl, rfl, rfl, rfl, trivial⟩, H⟩
        · rw [if_neg c119] at hm
          refine gR hE rfl rfl (decide_eq_false c119) ?_
          refine s1 hE rfl (d_move hE rfl) fun a hE => ?_
          refine gR hE rfl rfl (decide_eq_false c119) ?_
          refine s1 hE rfl (d_move hE rfl) fun a hE => ?_
          refine gR hE rfl rfl (decide_eq_false c119) ?_
          obtain ⟨x120, hc121, hm⟩ := bnd hm
          refine s2 hE rfl (d_call c91 hE rfl (f91_ok k x103 a1 hc121 (Rd.own 0 rfl) H)) fun a v w hR hE => ?_
          obtain ⟨hv_, H⟩ := hR
          have hv_ := hv_.symm
          subst hv_
          refine gR hE rfl rfl (decide_eq_false c119) ?_
          refine s1 hE rfl (d_not hE rfl) fun a hE => ?_
          refine s1 hE rfl (d_pF hE rfl (decide_eq_false c119) rfl) fun a hE => ?_
          refine s1 hE rfl (d_move hE rfl) fun a hE => ?_
          by_cases c122 : x120 = true
          · rw [if_pos c122] at hm
            refine gR hE rfl rfl (not_f c122) ?_
            refine s1 hE rfl (d_move hE rfl) fun a hE => ?_
            refine gR hE rfl rfl (not_f c122) ?_
            refine s1 hE rfl (d_move hE rfl) fun a hE => ?_
            refine gR hE rfl rfl (not_f c122) ?_
            obtain ⟨x123, hc124, hm⟩ := bnd hm
            refine s2 hE rfl (d_call c91 hE rfl (f91_ok k x103 a2 hc124 (Rd.own 0 rfl) H)) fun a v w hR hE => ?_
            obtain ⟨hv_, H⟩ := hR
            have hv_ := hv_.symm
            subst hv_
            refine gR hE rfl rfl (not_f c122) ?_
            refine s1 hE rfl (d_not hE rfl) fun a hE => ?_
            refine s1 hE rfl (d_pF hE rfl (not_f c122) rfl) fun a hE => ?_
            refine wpList_nil ?_
            cases hm
            have H := St.del H 0
            exact ⟨hE.sub ⟨rfl, rfl, rfl, rfl, rfl, trivial⟩, H⟩
          · rw [if_neg c122] at hm
            refine gP hE rfl rfl rfl (not_t (b_f c122)) fun a hE => ?_
            refine gP hE rfl rfl rfl (not_t (b_f c122)) fun a hE => ?_
            refine gP hE rfl rfl rfl (not_t (b_f c122)) fun a hE => ?_
            refine gP hE rfl rfl rfl (not_t (b_f c122)) fun a hE => ?_
            refine s1 hE rfl (d_pT hE rfl (not_t (b_f c122)) rfl) fun a hE => ?_
            refine wpList_nil ?_
            cases hm
            have H := St.del H 0
            exact ⟨hE.sub ⟨rfl, rfl, rfl, rfl, rfl, trivial⟩, H⟩
  · rintro a w ⟨hE, H⟩
    by_cases c126 : s116 = true
    · rw [if_pos c126] at hm
      refine cT hE rfl c126 ?_
      refine wp_seq ?_
      refine wp_region_lit ?_
      refine s1 hE rfl (d_assign hE rfl) fun a hE => ?_
      refine wpList_nil ?_
      refine wp_ret ?_
      cases hm
      have H := St.nil (c := c_api_Path) H none
      exact ret1 rfl hE rfl ⟨_, rfl, (.slice none 0 0), rfl, H⟩
    · rw [if_neg c126] at hm
      refine cF hE rfl (b_f c126) ?_
      refine wp_skip ?_
      refine wp_seq ?_
      refine wp_region_lit ?_
      refine s1 hE rfl (d_move hE rfl) fun a hE => ?_
      refine s1 hE rfl (d_move hE rfl) fun a hE => ?_
      refine s1 hE rfl (d_build hE rfl (bld144_0Sl_1In _ _ (Rd.slice H hr0))) fun a hE => ?_
      refine s2 hE rfl (d_box hE rfl H) fun a v w hR hE => ?_
      obtain ⟨q128, rfl, H⟩ := hR
      have H : St z I w (Bl q128 144 [u0, (.int .i64 a2), (.slice none 0 0)] :: r) := H
      refine s1 hE rfl (d_assign hE rfl) fun a hE => ?_
      refine wpList_nil ?_
      refine wp_seq ?_
      refine wp_region_lit ?_
      refine s1 hE rfl (d_move hE rfl) fun a hE => ?_
      refine s1 hE rfl (d_move hE rfl) fun a hE => ?_
      refine s2 hE rfl (d_lit (c := (cInt .i64)) (xs := [a1]) hE rfl (lit51_1 _) rfl rfl (fun J h iJ s => rowsC (cs := [(.int .i64 a1)]) rfl (rows0)) H) fun a v w hR hE => ?_
      obtain ⟨v133, rfl⟩ : ∃ x, x = v := ⟨v, rfl⟩
      have H : St z I w (OwnSl (cInt .i64) v133 ([a1]) :: Bl q128 144 [u0, (.int .i64 a2), (.slice none 0 0)] :: r) := hR
      refine s1 hE rfl (d_build hE rfl (bld102_0Sl _ (Rd.slice H (Rd.own 0 rfl)))) fun a hE => ?_
      obtain ⟨x134, hc135, hm⟩ := bnd hm
      have H := St.give H
      have H : St z I w (ImR (cInt .i64) v133 ([a1]) :: Bl q128 144 [u0, (.int .i64 a2), (.slice none 0 0)] :: r) := H
      have H := St.nil (c := c_api_Path) H none
      have H := St.get H 2 rfl
      have H : St z I w (Bl q128 144 [u0, (.int .i64 a2), (.slice none 0 0)] :: OwnSl c_api_Path (.slice none 0 0) [] :: ImR (cInt .i64) v133 ([a1]) :: r) := H
      refine s2 hE rfl (d_call c92 hE rfl (f92_ok k a0 a2 [] (⟨[a1], 0⟩ : S_api_Path) hc135 (Rd.cons hr0) (Imm.im 0 rfl) H)) fun a v w hR hE => ?_
      obtain ⟨v136, hv_, H⟩ := hR
      have hv_ := hv_.symm
      subst hv_
      refine wpList_nil ?_
      refine wp_seq ?_
      refine wp_region_lit ?_
      refine s1 hE rfl (d_move hE rfl) fun a hE => ?_
      refine s1 hE rfl (d_nilCheck hE rfl) fun a hE => ?_
      refine s1 hE rfl (d_fieldAddr fld144_2 hE rfl) fun a hE => ?_
      refine s1 hE rfl (d_load sc74 hE rfl H 0 rfl rfl) fun a hE => ?_
      obtain ⟨l139, hl140, hm⟩ := bnd hm
      have H := St.get H 1 rfl
      refine s2 hE rfl (d_call c93 hE rfl (srt93_94 k hl140 H)) fun a v w hR hE => ?_
      obtain ⟨rfl, H⟩ := hR
      have H : St z I w (OwnSl c_api_Path v136 l139 :: Bl q128 144 [u0, (.int .i64 a2), v136] :: ImR (cInt .i64) v133 ([a1]) :: r) := H
      refine wpList_nil ?_
      refine wp_seq ?_
      obtain ⟨l143, hl144, hm⟩ := bnd hm
      refine Dr.region (γ := Unit) (pre := [[], [0], [0, 1], [0, 1, 2], [], [4], [4, 5], [4, 5, 6], [4, 5, 6, 7], [], [4, 5, 6, 7, 8, 9], [0, 1, 2, 3, 4, 5, 6, 7, 8, 9, 10], [0, 1, 2, 3, 4, 5, 6, 7, 8, 9, 10, 11]]) (val := [some (.pointer (some (ad q128 0))), some (.pointer (some (ad q128 0))), some (.pointer (some (ad q128 (0 + 2)))), some v136, some (.pointer (some (ad q128 0))), some (.pointer (some (ad q128 0))), some (.pointer (some (ad q128 (0 + 2)))), some v136, some (.int .i64 (l139.length : Int)), some (.int .i64 a3), some (.int .i64 (if 20 < (if a3 < (l139.length : Int) then a3 else (l139.length : Int)) then 20 else (if a3 < (l139.length : Int) then a3 else (l139.length : Int)))), some (slv 2 v136 0 (if 20 < (if a3 < (l139.length : Int) then a3 else (l139.length : Int)) then 20 else (if a3 < (l139.length : Int) then a3 else (l139.length : Int)))), some (slv 2 v136 0 (if 20 < (if a3 < (l139.length : Int) then a3 else (l139.length : Int)) then 20 else (if a3 < (l139.length : Int) then a3 else (l139.length : Int))))]) (eff := []) (mask := [[]]) (keys := [[]]) (src := [[.base 10], [.op 0], [.op 1], [.op 2], [.base 10], [.op 4], [.op 5], [.op 6], [.op 7], [.base 3], [.op 8, .op 9], [.op 3, .op 10], [.op 11]]) (z := z) (ef := fun p g => ([[]] : List (List (Nat × Value))).getD p []) (hi := fun _ _ => I) (rs := fun p g => ([OwnSl c_api_Path v136 l139 :: Bl q128 144 [u0, (.int .i64 a2), v136] :: ImR (cInt .i64) v133 ([a1]) :: r] : List (List Asn)).getD p []) [(0, 0), (1, 0), (2, 0), (3, 0), (4, 0), (5, 0), (6, 0), (7, 0), (8, 0), (9, 0), (10, 0), (11, 0), (12, 0)] [] [0, 1, 2, 3, 4, 5, 6, 7, 8, 9, 10, 11, 12] 0 mo hE () rfl H (by kernel_rfl) (by kernel_rfl) (fun p g => by cases p <;> rfl) ?_ ?_ (by kernel_rfl) (by kernel_rfl) ?_
      · exact ⟨by intro a w g hE H; exact Dr.is H rfl (Dr.run rfl (d_move hE rfl)),
    by intro a w g hE H; exact Dr.is H rfl (Dr.run rfl (d_nilCheck hE rfl)),
    by intro a w g hE H; exact Dr.is H rfl (Dr.run rfl (d_fieldAddr fld144_2 hE rfl)),
    by intro a w g hE H; exact Dr.is H rfl (Dr.run rfl (d_load sc74 hE rfl H 1 rfl rfl)),
    by intro a w g hE H; exact Dr.is H rfl (Dr.run rfl (d_move hE rfl)),
    by intro a w g hE H; exact Dr.is H rfl (Dr.run rfl (d_nilCheck hE rfl)),
    by intro a w g hE H; exact Dr.is H rfl (Dr.run rfl (d_fieldAddr fld144_2 hE rfl)),
    by intro a w g hE H; exact Dr.is H rfl (Dr.run rfl (d_load sc74 hE rfl H 1 rfl rfl)),
    by intro a w g hE H; exact Dr.is H rfl (Dr.run rfl (d_lenS Try.underlying74 hE rfl H (Rd.own 0 rfl))),
    by intro a w g hE H; exact Dr.is H rfl (Dr.run rfl (d_move hE rfl)),
    by intro a w g hE H; exact Dr.is H rfl (Dr.run rfl (d_min3 hE rfl rfl rfl)),
    by intro a w g hE H; exact Dr.is H rfl (Dr.run rfl (d_sliceR (c := c_api_Path) (lo := 0) (hi := (if 20 < (if a3 < (l139.length : Int) then a3 else (l139.length : Int)) then 20 else (if a3 < (l139.length : Int) then a3 else (l139.length : Int)))) sl74 hE rfl (.inr ⟨rfl, rfl⟩) (.inl ⟨_, rfl, rfl⟩) hl144 H (Rd.own 0 rfl))),
    by intro a w g hE H; exact Dr.is H rfl (Dr.run rfl (d_assign hE rfl)),
    trivial⟩
      · trivial
      · intro a w g hE H
        have H : St z I w (OwnSl c_api_Path v136 l139 :: Bl q128 144 [u0, (.int .i64 a2), v136] :: ImR (cInt .i64) v133 ([a1]) :: r) := H
        refine wp_ret ?_
        have H := St.ownCut hl144 H
        have H : St z I w (OwnSl c_api_Path (slv 2 v136 0 (if 20 < (if a3 < (l139.length : Int) then a3 else (l139.length : Int)) then 20 else (if a3 < (l139.length : Int) then a3 else (l139.length : Int)))) l143 :: Bl q128 144 [u0, (.int .i64 a2), v136] :: ImR (cInt .i64) v133 ([a1]) :: r) := H
        cases hm
        have H := St.del H 1
        have H := St.del H 1
        exact ret1 rfl hE rfl ⟨_, rfl, (slv 2 v136 0 (if 20 < (if a3 < (l139.length : Int) then a3 else (l139.length : Int)) then 20 else (if a3 < (l139.length : Int) then a3 else (l139.length : Int)))), rfl, H⟩
def m95_l1 (a0 : List S_api_Arc) (a1 : List Int) (y1730 : Int) : Nat → Int → Int → Option Int
  | 0, _, _ => none
  | k + 1, y2427, y2428 => if y2428 < (a0.length : Int) then (Option.bind (α := Bool) (Option.bind (rdx a0 y2428) fun x2542 => Option.bind (rdx a1 y1730) fun x2544 => if x2542.From = x2544 then (Option.bind (rdx a0 y2428) fun x2547 => Option.bind (rdx a1 (IntKind.i64.wrap (y1730 + 1))) fun x2549 => some (decide (x2547.To = x2549))) else (some false)) fun s2541 => Option.bind (α := Int) (if s2541 = true then (Option.bind (rdx a0 y2428) fun x2561 => some x2561.Cost) else (some y2427)) fun s2557 => m95_l1 a0 a1 y1730 k s2557 (IntKind.i64.wrap (y2428 + 1))) else (some y2427)
def m95_l0 (a0 : List S_api_Arc) (a1 : List Int) : Nat → Int → Int → Option (Out (Int × Bool) Int)
  | 0, _, _ => none
  | k + 1, y1729, y1730 => if (IntKind.i64.wrap (y1730 + 1)) < (a1.length : Int) then (Option.bind (m95_l1 a0 a1 y1730 k 0 0) fun s2496 => if s2496 = 0 then (some (.ret (0, false))) else (Option.bind (m39 y1729 (IntKind.u64.wrap s2496)) fun x2567 => m95_l0 a0 a1 k x2567 (IntKind.i64.wrap (y1730 + 1)))) else (some (.go y1729))
def m95 (k : Nat) (a0 : List S_api_Arc) (a1 : List Int) : Option (Int × Bool) := Option.bind (m95_l0 a0 a1 k 0 0) fun s2150 => s2150.on (fun q_ => some q_) fun s2150 => some (s2150, true)
set_option maxRecDepth 20000 in
set_option maxHeartbeats 4000000 in
theorem f95_ok (k : Nat) {u0 : Value} (a0 : List S_api_Arc) {u1 : Value} (a1 : List Int) {res : Int × Bool} (hm : m95 k a0 a1 = some res) {z w : World} {I : Hp} {r : List Asn} (hr0 : Rd c_api_Arc I r u0 a0) (hr1 : Rd (cInt .i64) I r u1 a1) (H : St z I w (r)) :
    Calls Try.prog 95 #[u0, u1] w (Rt fun v w' => v = (.tuple #[(.int .u64 res.1), (.bool res.2)]) ∧ St z I w' (r)) := by
  unfold m95 at hm
  refine enter (args := [u0, u1]) Try.func95 rfl Try.ntmps95 rfl fun a hE => ?_
  refine wp_seq ?_
  refine wp_region_lit ?_
  refine s1 hE rfl (d_assign hE rfl) fun a hE => ?_
  refine s1 hE rfl (d_assign hE rfl) fun a hE => ?_
  refine wpList_nil ?_
  refine wp_seq ?_
  refine wp_region_lit ?_
  refine s1 hE rfl (d_assign hE rfl) fun a hE => ?_
  refine wpList_nil ?_
  refine wp_seq ?_
  refine wp_seq ?_
  refine wp_region_lit ?_
  refine s1 hE rfl (d_assign hE rfl) fun a hE => ?_
  refine wpList_nil ?_
  obtain ⟨s2150, hj2150, hq2150⟩ := bnd hm
  refine cut2 (fun a w => ∃ s_ : Int, s2150 = .go s_ ∧ Env a 58 [(6, (.int .u64 s_))] ∧ St z I w (r)) ?_ ?_
  · refine wp_block ?_
    refine loopI (fun k a w => ∃ y1729 : Int, ∃ y1730 : Int, m95_l0 a0 a1 k y1729 y1730 = some s2150 ∧ Env a 58 [(0, u0), (1, u1), (6, (.int .u64 y1729)), (7, (.int .i64 y1730))] ∧ St z I w (r)) ?_ k _ _ ?_
    · rintro k a w ⟨y1729, y1730, hm, hE, H⟩
      cases k with
      | zero => rw [m95_l0] at hm; cases hm
      | succ k =>
        rw [m95_l0] at hm
        refine wp_seq ?_
        refine wp_seq ?_
        refine wp_region_lit ?_
        refine s1 hE rfl (d_move hE rfl) fun a hE => ?_
        refine s1 hE rfl (d_add hE rfl rfl) fun a hE => ?_
        refine s1 hE rfl (d_move hE rfl) fun a hE => ?_
        refine s1 hE rfl (d_lenS Try.underlying51 hE rfl H hr1) fun a hE => ?_
        refine s1 hE rfl (d_lss hE rfl rfl) fun a hE => ?_
        refine wpList_nil ?_
        by_cases c2152 : (IntKind.i64.wrap (y1730 + 1)) < (a1.length : Int)
        · rw [if_pos c2152] at hm
          refine cT hE rfl (decide_eq_true c2152) ?_
          refine wp_skip ?_
          refine wp_seq ?_
          refine wp_block ?_
          refine wp_seq ?_
          refine wp_region_lit ?_
          refine s1 hE rfl (d_assign hE rfl) fun a hE => ?_
          refine wpList_nil ?_
          refine wp_seq ?_
          refine wp_seq ?_
          refine wp_region_lit ?_
          refine s1 hE rfl (d_assign hE rfl) fun a hE => ?_
          refine wpList_nil ?_
          obtain ⟨s2496, hj2496, hm⟩ := bnd hm
          refine cut2 (fun a w => Env a 58 [(0, u0), (1, u1), (6, (.int .u64 y1729)), (7, (.int .i64 y1730)), (8, (.int .i64 s2496))] ∧ St z I w (r)) ?_ ?_
          · refine wp_block ?_
            refine loopI (fun k a w => ∃ y2427 : Int, ∃ y2428 : Int, m95_l1 a0 a1 y1730 k y2427 y2428 = some s2496 ∧ Env a 58 [(0, u0), (1, u1), (6, (.int .u64 y1729)), (7, (.int .i64 y1730)), (8, (.int .i64 y2427)), (9, (.int .i64 y2428))] ∧ St z I w (r)) ?_ k _ _ ?_
            · rintro k a w ⟨y2427, y2428, hm, hE, H⟩
              cases k with
              | zero => rw [m95_l1] at hm; cases hm
              | succ k =>
                rw [m95_l1] at hm
                refine wp_seq ?_
                refine wp_seq ?_
                refine wp_region_lit ?_
                refine s1 hE rfl (d_move hE rfl) fun a hE => ?_
                refine s1 hE rfl (d_move hE rfl) fun a hE => ?_
                refine s1 hE rfl (d_lenS Try.underlying55 hE rfl H hr0) fun a hE => ?_
                refine s1 hE rfl (d_lss hE rfl rfl) fun a hE => ?_
                refine wpList_nil ?_
                by_cases c2498 : y2428 < (a0.length : Int)
                · rw [if_pos c2498] at hm
                  refine cT hE rfl (decide_eq_true c2498) ?_
                  refine wp_skip ?_
                  refine wp_seq ?_
                  refine wp_block ?_
                  refine wp_seq ?_
                  obtain ⟨s2541, hj2541, hm⟩ := bnd hm
                  refine cut2 (fun a w => Env a 58 [(0, u0), (1, u1), (6, (.int .u64 y1729)), (7, (.int .i64 y1730)), (8, (.int .i64 y2427)), (9, (.int .i64 y2428)), (45, (.bool s2541))] ∧ St z I w (r)) ?_ ?_
                  · have hm := hj2541
                    obtain ⟨x2542, hx2543, hm⟩ := bnd hm
                    obtain ⟨x2544, hx2545, hm⟩ := bnd hm
                    by_cases c2546 : x2542.From = x2544
                    · rw [if_pos c2546] at hm
                      obtain ⟨x2547, hx2548, hm⟩ := bnd hm
                      obtain ⟨x2549, hx2550, hm⟩ := bnd hm
                      refine Dr.region (γ := Unit) (pre := [[], [], [0, 1], [0, 1, 2], [0, 1, 2, 3], [], [], [5, 6], [5, 6, 7], [0, 1, 2, 3, 4, 5, 6, 7, 8], [0, 1, 2, 3, 4, 5, 6, 7, 8, 9], [0, 1, 2, 3, 4, 5, 6, 7, 8, 9, 10], [0, 1, 2, 3, 4, 5, 6, 7, 8, 9, 10], [0, 1, 2, 3, 4, 5, 6, 7, 8, 9, 10, 11, 12], [0, 1, 2, 3, 4, 5, 6, 7, 8, 9, 10, 11, 12, 13], [0, 1, 2, 3, 4, 5, 6, 7, 8, 9, 10, 11, 12, 13, 14], [0, 1, 2, 3, 4, 5, 6, 7, 8, 9, 10], [0, 1, 2, 3, 4, 5, 6, 7, 8, 9, 10], [0, 1, 2, 3, 4, 5, 6, 7, 8, 9, 10, 17], [0, 1, 2, 3, 4, 5, 6, 7, 8, 9, 10, 16, 17, 18], [0, 1, 2, 3, 4, 5, 6, 7, 8, 9, 10, 16, 17, 18, 19], [0, 1, 2, 3, 4, 5, 6, 7, 8, 9, 10, 11, 12, 13, 14, 15, 16, 17, 18, 19, 20], [0, 1, 2, 3, 4, 5, 6, 7, 8, 9, 10, 11, 12, 13, 14, 15, 16, 17, 18, 19, 20, 21]]) (val := [some u0, some (.int .i64 y2428), some (.pointer (some (ad (sb u0) (so u0 + (Int.toNat y2428) * c_api_Arc.n)))), some (.pointer (some (ad (sb u0) (so u0 + (Int.toNat y2428) * c_api_Arc.n + 0)))), some (.int .i64 x2542.From), some u1, some (.int .i64 y1730), some (.pointer (some (ad (sb u1) (so u1 + (Int.toNat y1730) * (cInt .i64).n)))), some (.int .i64 x2544), some (.bool (decide (x2542.From = x2544))), some (.bool (decide (x2542.From = x2544))), some u0, some (.int .i64 y2428), some (.pointer (some (ad (sb u0) (so u0 + (Int.toNat y2428) * c_api_Arc.n)))), some (.pointer (some (ad (sb u0) (so u0 + (Int.toNat y2428) * c_api_Arc.n + 1)))), some (.int .i64 x2547.To), some u1, some (.int .i64 y1730), some (.int .i64 (IntKind.i64.wrap (y1730 + 1))), some (.pointer (some (ad (sb u1) (so u1 + (Int.toNat (IntKind.i64.wrap (y1730 + 1))) * (cInt .i64).n)))), some (.int .i64 x2549), some (.bool (decide (x2547.To = x2549))), some (.bool (decide (x2547.To = x2549)))]) (eff := []) (mask := [[]]) (keys := [[]]) (src := [[.base 0], [.base 9], [.op 0, .op 1], [.op 2], [.op 3], [.base 1], [.base 7], [.op 5, .op 6], [.op 7], [.op 4, .op 8], [.op 9], [.base 0, .op 10], [.base 9, .op 10], [.op 10, .op 11, .op 12], [.op 10, .op 13], [.op 10, .op 14], [.base 1, .op 10], [.base 7, .op 10], [.op 10, .op 17], [.op 10, .op 16, .op 18], [.op 10, .op 19], [.op 10, .op 15, .op 20], [.op 10, .op 21]]) (z := z) (ef := fun p g => ([[]] : List (List (Nat × Value))).getD p []) (hi := fun _ _ => I) (rs := fun p g => ([r] : List (List Asn)).getD p []) [(0, 0), (1, 0), (2, 0), (3, 0), (4, 0), (5, 0), (6, 0), (7, 0), (8, 0), (9, 0), (10, 0), (11, 0), (12, 0), (13, 0), (14, 0), (15, 0), (16, 0), (17, 0), (18, 0), (19, 0), (20, 0), (21, 0), (22, 0)] [] [0, 1, 2, 3, 4, 5, 6, 7, 8, 9, 10, 11, 12, 13, 14, 15, 16, 17, 18, 19, 20, 21, 22] 0 mo hE () rfl H (by kernel_rfl) (by kernel_rfl) (fun p g => by cases p <;> rfl) ?_ ?_ (by kernel_rfl) (by kernel_rfl) ?_
                      · exact ⟨by intro a w g hE H; exact Dr.is H rfl (Dr.run rfl (d_move hE rfl)),
    by intro a w g hE H; exact Dr.is H rfl (Dr.run rfl (d_move hE rfl)),
    by intro a w g hE H; exact Dr.is H rfl (Dr.run rfl (d_indexS sl55 hE rfl rfl H hr0 hx2543)),
    by intro a w g hE H; exact Dr.is H rfl (Dr.run rfl (d_fieldAddr fld60_0 hE rfl)),
    by intro a w g hE H; exact Dr.is H rfl (Dr.run rfl (d_loadSf (j := 0) sc3 hE rfl H hr0 hx2543 (fun _ _ e => by rw [e]; rfl))),
    by intro a w g hE H; exact Dr.is H rfl (Dr.run rfl (d_move hE rfl)),
    by intro a w g hE H; exact Dr.is H rfl (Dr.run rfl (d_move hE rfl)),
    by intro a w g hE H; exact Dr.is H rfl (Dr.run rfl (d_indexS sl51 hE rfl rfl H hr1 hx2545)),
    by intro a w g hE H; exact Dr.is H rfl (Dr.run rfl (d_loadS1 sc3 hE rfl H hr1 hx2545 (fun _ _ e => e))),
    by intro a w g hE H; exact Dr.is H rfl (Dr.run rfl (d_eql hE rfl rfl)),
    by intro a w g hE H; exact Dr.is H rfl (Dr.run rfl (d_move hE rfl)),
    by intro a w g hE H; exact Dr.is H rfl (Dr.rG rfl hE rfl rfl (decide_eq_true c2546) (d_move hE rfl)),
    by intro a w g hE H; exact Dr.is H rfl (Dr.rG rfl hE rfl rfl (decide_eq_true c2546) (d_move hE rfl)),
    by intro a w g hE H; exact Dr.is H rfl (Dr.rG rfl hE rfl rfl (decide_eq_true c2546) (d_indexS sl55 hE rfl rfl H hr0 hx2548)),
    by intro a w g hE H; exact Dr.is H rfl (Dr.rG rfl hE rfl rfl (decide_eq_true c2546) (d_fieldAddr fld60_1 hE rfl)),
    by intro a w g hE H; exact Dr.is H rfl (Dr.rG rfl hE rfl rfl (decide_eq_true c2546) (d_loadSf (j := 1) sc3 hE rfl H hr0 hx2548 (fun _ _ e => by rw [e]; rfl))),
    by intro a w g hE H; exact Dr.is H rfl (Dr.rG rfl hE rfl rfl (decide_eq_true c2546) (d_move hE rfl)),
    by intro a w g hE H; exact Dr.is H rfl (Dr.rG rfl hE rfl rfl (decide_eq_true c2546) (d_move hE rfl)),
    by intro a w g hE H; exact Dr.is H rfl (Dr.rG rfl hE rfl rfl (decide_eq_true c2546) (d_add hE rfl rfl)),
    by intro a w g hE H; exact Dr.is H rfl (Dr.rG rfl hE rfl rfl (decide_eq_true c2546) (d_indexS sl51 hE rfl rfl H hr1 hx2550)),
    by intro a w g hE H; exact Dr.is H rfl (Dr.rG rfl hE rfl rfl (decide_eq_true c2546) (d_loadS1 sc3 hE rfl H hr1 hx2550 (fun _ _ e => e))),
    by intro a w g hE H; exact Dr.is H rfl (Dr.rG rfl hE rfl rfl (decide_eq_true c2546) (d_eql hE rfl rfl)),
    by intro a w g hE H; exact Dr.is H rfl (Dr.run rfl (d_pT hE rfl (decide_eq_true c2546) rfl)),
    trivial⟩
                      · trivial
                      · intro a w g hE H
                        have H : St z I w (r) := H
                        cases hm
                        exact ⟨hE.sub ⟨rfl, rfl, rfl, rfl, rfl, rfl, rfl, trivial⟩, H⟩
                    · rw [if_neg c2546] at hm
                      refine Dr.region (γ := Unit) (pre := [[], [], [0, 1], [0, 1, 2], [0, 1, 2, 3], [], [], [5, 6], [5, 6, 7], [0, 1, 2, 3, 4, 5, 6, 7, 8], [0, 1, 2, 3, 4, 5, 6, 7, 8, 9], [0, 1, 2, 3, 4, 5, 6, 7, 8, 9, 10], [0, 1, 2, 3, 4, 5, 6, 7, 8, 9, 10], [0, 1, 2, 3, 4, 5, 6, 7, 8, 9, 10, 11, 12], [0, 1, 2, 3, 4, 5, 6, 7, 8, 9, 10, 11, 12, 13], [0, 1, 2, 3, 4, 5, 6, 7, 8, 9, 10, 11, 12, 13, 14], [0, 1, 2, 3, 4, 5, 6, 7, 8, 9, 10], [0, 1, 2, 3, 4, 5, 6, 7, 8, 9, 10], [0, 1, 2, 3, 4, 5, 6, 7, 8, 9, 10, 17], [0, 1, 2, 3, 4, 5, 6, 7, 8, 9, 10, 16, 17, 18], [0, 1, 2, 3, 4, 5, 6, 7, 8, 9, 10, 16, 17, 18, 19], [0, 1, 2, 3, 4, 5, 6, 7, 8, 9, 10, 11, 12, 13, 14, 15, 16, 17, 18, 19, 20], [0, 1, 2, 3, 4, 5, 6, 7, 8, 9, 10, 11, 12, 13, 14, 15, 16, 17, 18, 19, 20, 21]]) (val := [some u0, some (.int .i64 y2428), some (.pointer (some (ad (sb u0) (so u0 + (Int.toNat y2428) * c_api_Arc.n)))), some (.pointer (some (ad (sb u0) (so u0 + (Int.toNat y2428) * c_api_Arc.n + 0)))), some (.int .i64 x2542.From), some u1, some (.int .i64 y1730), some (.pointer (some (ad (sb u1) (so u1 + (Int.toNat y1730) * (cInt .i64).n)))), some (.int .i64 x2544), some (.bool (decide (x2542.From = x2544))), some (.bool (decide (x2542.From = x2544))), some undef, some undef, some undef, some undef, some undef, some undef, some undef, some undef, some undef, some undef, some undef, some (.bool false)]) (eff := []) (mask := [[]]) (keys := [[]]) (src := [[.base 0], [.base 9], [.op 0, .op 1], [.op 2], [.op 3], [.base 1], [.base 7], [.op 5, .op 6], [.op 7], [.op 4, .op 8], [.op 9], [.base 0, .op 10], [.base 9, .op 10], [.op 10, .op 11, .op 12], [.op 10, .op 13], [.op 10, .op 14], [.base 1, .op 10], [.base 7, .op 10], [.op 10, .op 17], [.op 10, .op 16, .op 18], [.op 10, .op 19], [.op 10, .op 15, .op 20], [.op 10, .op 21]]) (z := z) (ef := fun p g => ([[]] : List (List (Nat × Value))).getD p []) (hi := fun _ _ => I) (rs := fun p g => ([r] : List (List Asn)).getD p []) [(0, 0), (1, 0), (2, 0), (3, 0), (4, 0), (5, 0), (6, 0), (7, 0), (8, 0), (9, 0), (10, 0), (11, 0), (12, 0), (13, 0), (14, 0), (15, 0), (16, 0), (17, 0), (18, 0), (19, 0), (20, 0), (21, 0), (22, 0)] [] [0, 1, 2, 3, 4, 5, 6, 7, 8, 9, 10, 11, 12, 13, 14, 15, 16, 17, 18, 19, 20, 21, 22] 0 mo hE () rfl H (by kernel_rfl) (by kernel_rfl) (fun p g => by cases p <;> rfl) ?_ ?_ (by kernel_rfl) (by kernel_rfl) ?_
                      · exact ⟨by intro a w g hE H; exact Dr.is H rfl (Dr.run rfl (d_move hE rfl)),
    by intro a w g hE H; exact Dr.is H rfl (Dr.run rfl (d_move hE rfl)),
    by intro a w g hE H; exact Dr.is H rfl (Dr.run rfl (d_indexS sl55 hE rfl rfl H hr0 hx2543)),
    by intro a w g hE H; exact Dr.is H rfl (Dr.run rfl (d_fieldAddr fld60_0 hE rfl)),
    by intro a w g hE H; exact Dr.is H rfl (Dr.run rfl (d_loadSf (j := 0) sc3 hE rfl H hr0 hx2543 (fun _ _ e => by rw [e]; rfl))),
    by intro a w g hE H; exact Dr.is H rfl (Dr.run rfl (d_move hE rfl)),
    by intro a w g hE H; exact Dr.is H rfl (Dr.run rfl (d_move hE rfl)),
    by intro a w g hE H; exact Dr.is H rfl (Dr.run rfl (d_indexS sl51 hE rfl rfl H hr1 hx2545)),
    by intro a w g hE H; exact Dr.is H rfl (Dr.run rfl (d_loadS1 sc3 hE rfl H hr1 hx2545 (fun _ _ e => e))),
    by intro a w g hE H; exact Dr.is H rfl (Dr.run rfl (d_eql hE rfl rfl)),
    by intro a w g hE H; exact Dr.is H rfl (Dr.run rfl (d_move hE rfl)),
    by intro a w g hE H; exact Dr.is H rfl (Dr.pG rfl hE rfl rfl (decide_eq_false c2546) ⟨rfl, rfl⟩),
    by intro a w g hE H; exact Dr.is H rfl (Dr.pG rfl hE rfl rfl (decide_eq_false c2546) ⟨rfl, rfl⟩),
    by intro a w g hE H; exact Dr.is H rfl (Dr.pG rfl hE rfl rfl (decide_eq_false c2546) ⟨rfl, rfl⟩),
    by intro a w g hE H; exact Dr.is H rfl (Dr.pG rfl hE rfl rfl (decide_eq_false c2546) ⟨rfl, rfl⟩),
    by intro a w g hE H; exact Dr.is H rfl (Dr.pG rfl hE rfl rfl (decide_eq_false c2546) ⟨rfl, rfl⟩),
    by intro a w g hE H; exact Dr.is H rfl (Dr.pG rfl hE rfl rfl (decide_eq_false c2546) ⟨rfl, rfl⟩),
    by intro a w g hE H; exact Dr.is H rfl (Dr.pG rfl hE rfl rfl (decide_eq_false c2546) ⟨rfl, rfl⟩),
    by intro a w g hE H; exact Dr.is H rfl (Dr.pG rfl hE rfl rfl (decide_eq_false c2546) ⟨rfl, rfl⟩),
    by intro a w g hE H; exact Dr.is H rfl (Dr.pG rfl hE rfl rfl (decide_eq_false c2546) ⟨rfl, rfl⟩),
    by intro a w g hE H; exact Dr.is H rfl (Dr.pG rfl hE rfl rfl (decide_eq_false c2546) ⟨rfl, rfl⟩),
    by intro a w g hE H; exact Dr.is H rfl (Dr.pG rfl hE rfl rfl (decide_eq_false c2546) ⟨rfl, rfl⟩),
    by intro a w g hE H; exact Dr.is H rfl (Dr.run rfl (d_pF hE rfl (decide_eq_false c2546) rfl)),
    trivial⟩
                      · trivial
                      · intro a w g hE H
                        have H : St z I w (r) := H
                        cases hm
                        exact ⟨hE.sub ⟨rfl, rfl, rfl, rfl, rfl, rfl, rfl, trivial⟩, H⟩
                  · rintro a w ⟨hE, H⟩
                    obtain ⟨s2557, hj2557, hm⟩ := bnd hm
                    refine cut2 (fun a w => Env a 58 [(0, u0), (1, u1), (6, (.int .u64 y1729)), (7, (.int .i64 y1730)), (8, (.int .i64 s2557)), (9, (.int .i64 y2428))] ∧ St z I w (r)) ?_ ?_
                    · have hm := hj2557
                      by_cases c2558 : s2541 = true
                      · rw [if_pos c2558] at hm
                        refine cT hE rfl c2558 ?_
                        refine wp_region_lit ?_
                        refine s1 hE rfl (d_move hE rfl) fun a hE => ?_
                        refine s1 hE rfl (d_move hE rfl) fun a hE => ?_
                        obtain ⟨x2561, hx2562, hm⟩ := bnd hm
                        refine s1 hE rfl (d_indexS sl55 hE rfl rfl H hr0 hx2562) fun a hE => ?_
                        refine s1 hE rfl (d_fieldAddr fld60_2 hE rfl) fun a hE => ?_
                        refine s1 hE rfl (d_loadSf (j := 2) sc3 hE rfl H hr0 hx2562 (fun _ _ e => by rw [e]; rfl)) fun a hE => ?_
                        refine s1 hE rfl (d_assign hE rfl) fun a hE => ?_
                        refine wpList_nil ?_
                        cases hm
                        exact ⟨hE.sub ⟨rfl, rfl, rfl, rfl, rfl, rfl, trivial⟩, H⟩
                      · rw [if_neg c2558] at hm
                        refine cF hE rfl (b_f c2558) ?_
                        refine wp_skip ?_
                        cases hm
                        exact ⟨hE.sub ⟨rfl, rfl, rfl, rfl, rfl, rfl, trivial⟩, H⟩
                    · rintro a w ⟨hE, H⟩
                      refine wp_region_lit ?_
                      refine s1 hE rfl (d_move hE rfl) fun a hE => ?_
                      refine s1 hE rfl (d_add hE rfl rfl) fun a hE => ?_
                      refine s1 hE rfl (d_assign hE rfl) fun a hE => ?_
                      refine wpList_nil ?_
                      exact ⟨k, Nat.lt_succ_self k, s2557, IntKind.i64.wrap (y2428 + 1), hm, hE.sub ⟨rfl, rfl, rfl, rfl, rfl, rfl, trivial⟩, H⟩
                · rw [if_neg c2498] at hm
                  refine cF hE rfl (decide_eq_false c2498) ?_
                  refine wp_exit ?_
                  cases hm
                  exact ⟨hE.sub ⟨rfl, rfl, rfl, rfl, rfl, trivial⟩, H⟩
            · exact ⟨0, 0, hj2496, hE.sub ⟨rfl, rfl, rfl, rfl, rfl, rfl, trivial⟩, H⟩
          · rintro a w ⟨hE, H⟩
            refine wp_seq ?_
            refine wp_seq ?_
            refine wp_region_lit ?_
            refine s1 hE rfl (d_move hE rfl) fun a hE => ?_
            refine s1 hE rfl (d_eql hE rfl rfl) fun a hE => ?_
            refine wpList_nil ?_
            by_cases c2564 : s2496 = 0
            · rw [if_pos c2564] at hm
              refine cT hE rfl (decide_eq_true c2564) ?_
              refine wp_seq ?_
              refine wp_region_lit ?_
              refine s1 hE rfl (d_assign hE rfl) fun a hE => ?_
              refine s1 hE rfl (d_assign hE rfl) fun a hE => ?_
              refine wpList_nil ?_
              refine wp_ret ?_
              cases hm
              have hm := hq2150
              simp only [Out.on] at hm
              cases hm
              exact ret2 rfl hE rfl rfl ⟨_, rfl, rfl, H⟩
            · rw [if_neg c2564] at hm
              refine cF hE rfl (decide_eq_false c2564) ?_
              refine wp_skip ?_
              refine wp_region_lit ?_
              refine s1 hE rfl (d_move hE rfl) fun a hE => ?_
              refine s1 hE rfl (d_move hE rfl) fun a hE => ?_
              refine s1 hE rfl (d_convert hE rfl (cv3_61 _)) fun a hE => ?_
              obtain ⟨x2567, hc2568, hm⟩ := bnd hm
              refine s2 hE rfl (d_call c39 hE rfl (f39_ok y1729 (IntKind.u64.wrap s2496) hc2568  H)) fun a v w hR hE => ?_
              obtain ⟨hv_, H⟩ := hR
              have hv_ := hv_.symm
              subst hv_
              refine s1 hE rfl (d_assign hE rfl) fun a hE => ?_
              refine wpList_nil ?_
              refine wp_region_lit ?_
              refine s1 hE rfl (d_move hE rfl) fun a hE => ?_
              refine s1 hE rfl (d_add hE rfl rfl) fun a hE => ?_
              refine s1 hE rfl (d_assign hE rfl) fun a hE => ?_
              refine wpList_nil ?_
              exact ⟨k, Nat.lt_succ_self k, x2567, IntKind.i64.wrap (y1730 + 1), hm, hE.sub ⟨rfl, rfl, rfl, rfl, trivial⟩, H⟩
        · rw [if_neg c2152] at hm
          refine cF hE rfl (decide_eq_false c2152) ?_
          refine wp_exit ?_
          cases hm
          exact ⟨_, rfl, hE.sub ⟨rfl, trivial⟩, H⟩
    · exact ⟨0, 0, hj2150, hE.sub ⟨rfl, rfl, rfl, rfl, trivial⟩, H⟩
  · rintro a w ⟨s2150, rfl, hE, H⟩
    have hm := hq2150
    simp only [Out.on] at hm
    refine wp_seq ?_
    refine wp_region_lit ?_
    refine s1 hE rfl (d_move hE rfl) fun a hE => ?_
    refine s1 hE rfl (d_assign hE rfl) fun a hE => ?_
    refine s1 hE rfl (d_assign hE rfl) fun a hE => ?_
    refine wpList_nil ?_
    refine wp_ret ?_
    cases hm
    exact ret2 rfl hE rfl rfl ⟨_, rfl, rfl, H⟩
def m96_l0 (a0 : S_api_Path) (a1 : S_api_Path) : Nat → Int → Option (Out Bool Unit)
  | 0, _ => none
  | k + 1, y298 => Option.bind (α := Bool) (if y298 < (a0.Nodes.length : Int) then (some (decide (y298 < (a1.Nodes.length : Int)))) else (some false)) fun s360 => if s360 = true then (Option.bind (rdx a0.Nodes y298) fun x394 => Option.bind (rdx a1.Nodes y298) fun x396 => if x394 = x396 then (m96_l0 a0 a1 k (IntKind.i64.wrap (y298 + 1))) else (Option.bind (rdx a0.Nodes y298) fun x412 => Option.bind (rdx a1.Nodes y298) fun x414 => some (.ret (decide (x412 < x414))))) else (some (.go ()))
def m96 (k : Nat) (a0 : S_api_Path) (a1 : S_api_Path) : Option Bool := if a0.Cost = a1.Cost then (Option.bind (m96_l0 a0 a1 k 0) fun s357 => s357.on (fun q_ => some q_) fun s357 => some (decide ((a0.Nodes.length : Int) < (a1.Nodes.length : Int)))) else (some (decide (a0.Cost < a1.Cost)))
set_option maxRecDepth 20000 in
set_option maxHeartbeats 4000000 in
theorem f96_ok (k : Nat) (a0 : S_api_Path) {u0_0 : Value} (a1 : S_api_Path) {u1_0 : Value} {res : Bool} (hm : m96 k a0 a1 = some res) {z w : World} {I : Hp} {r : List Asn} (hm0_0 : Imm (cInt .i64) I r u0_0 a0.Nodes) (hm1_0 : Imm (cInt .i64) I r u1_0 a1.Nodes) (H : St z I w (r)) :
    Calls Try.prog 96 #[(.agg #[u0_0, (.int .u64 a0.Cost)]), (.agg #[u1_0, (.int .u64 a1.Cost)])] w (Rt fun v w' => v = (.bool res) ∧ St z I w' (r)) := by
  unfold m96 at hm
  refine enter (args := [(.agg #[u0_0, (.int .u64 a0.Cost)]), (.agg #[u1_0, (.int .u64 a1.Cost)])]) Try.func96 rfl Try.ntmps96 rfl fun a hE => ?_
  have H := St.imm hm0_0 H
  have H := St.imm (Imm.cons hm1_0) H
  refine wp_seq ?_
  refine wp_region_lit ?_
  refine s2 hE rfl (d_box hE rfl H) fun a v w hR hE => ?_
  obtain ⟨q236, rfl, H⟩ := hR
  have H : St z I w (Bl q236 102 [u0_0, (.int .u64 a0.Cost)] :: ImR (cInt .i64) u1_0 a1.Nodes :: ImR (cInt .i64) u0_0 a0.Nodes :: r) := H
  refine s2 hE rfl (d_box hE rfl H) fun a v w hR hE => ?_
  obtain ⟨q237, rfl, H⟩ := hR
  have H : St z I w (Bl q237 102 [u1_0, (.int .u64 a1.Cost)] :: Bl q236 102 [u0_0, (.int .u64 a0.Cost)] :: ImR (cInt .i64) u1_0 a1.Nodes :: ImR (cInt .i64) u0_0 a0.Nodes :: r) := H
  refine s1 hE rfl (d_assign hE rfl) fun a hE => ?_
  refine wpList_nil ?_
  refine wp_seq ?_
  refine wp_seq ?_
  refine wp_region_lit ?_
  refine s1 hE rfl (d_fieldAddr fld102_1 hE rfl) fun a hE => ?_
  refine s1 hE rfl (d_load sc61 hE rfl H 1 rfl rfl) fun a hE => ?_
  refine s1 hE rfl (d_fieldAddr fld102_1 hE rfl) fun a hE => ?_
  refine s1 hE rfl (d_load sc61 hE rfl H 0 rfl rfl) fun a hE => ?_
  refine s1 hE rfl (d_neq hE rfl rfl) fun a hE => ?_
  refine wpList_nil ?_
  by_cases c239 : a0.Cost = a1.Cost
  · rw [if_pos c239] at hm
    refine cF hE rfl (not_f (decide_eq_true c239)) ?_
    refine wp_skip ?_
    refine wp_seq ?_
    refine wp_seq ?_
    refine wp_region_lit ?_
    refine s1 hE rfl (d_assign hE rfl) fun a hE => ?_
    refine wpList_nil ?_
    obtain ⟨s357, hj357, hq357⟩ := bnd hm
    refine cut2 (fun a w => ∃ s_ : Unit, s357 = .go s_ ∧ Env a 59 [(2, (.pointer (some (ad q236 0)))), (3, (.pointer (some (ad q237 0))))] ∧ St z I w (Bl q236 102 [u0_0, (.int .u64 a0.Cost)] :: ImR (cInt .i64) u0_0 a0.Nodes :: Bl q237 102 [u1_0, (.int .u64 a1.Cost)] :: ImR (cInt .i64) u1_0 a1.Nodes :: r)) ?_ ?_
    · refine wp_block ?_
      refine loopI (fun k a w => ∃ y298 : Int, m96_l0 a0 a1 k y298 = some s357 ∧ Env a 59 [(2, (.pointer (some (ad q236 0)))), (3, (.pointer (some (ad q237 0)))), (5, (.int .i64 y298))] ∧ St z I w (Bl q236 102 [u0_0, (.int .u64 a0.Cost)] :: ImR (cInt .i64) u0_0 a0.Nodes :: Bl q237 102 [u1_0, (.int .u64 a1.Cost)] :: ImR (cInt .i64) u1_0 a1.Nodes :: r)) ?_ k _ _ ?_
      · rintro k a w ⟨y298, hm, hE, H⟩
        cases k with
        | zero => rw [m96_l0] at hm; cases hm
        | succ k =>
          rw [m96_l0] at hm
          refine wp_seq ?_
          refine wp_seq ?_
          obtain ⟨s360, hj360, hm⟩ := bnd hm
          refine cut2 (fun a w => Env a 59 [(2, (.pointer (some (ad q236 0)))), (3, (.pointer (some (ad q237 0)))), (5, (.int .i64 y298)), (27, (.bool s360))] ∧ St z I w (Bl q236 102 [u0_0, (.int .u64 a0.Cost)] :: ImR (cInt .i64) u0_0 a0.Nodes :: Bl q237 102 [u1_0, (.int .u64 a1.Cost)] :: ImR (cInt .i64) u1_0 a1.Nodes :: r)) ?_ ?_
          · have hm := hj360
            refine wp_region_lit ?_
            refine s1 hE rfl (d_move hE rfl) fun a hE => ?_
            refine s1 hE rfl (d_fieldAddr fld102_0 hE rfl) fun a hE => ?_
            refine s1 hE rfl (d_load sc51 hE rfl H 0 rfl rfl) fun a hE => ?_
            refine s1 hE rfl (d_lenS Try.underlying51 hE rfl H (Rd.im 1 rfl)) fun a hE => ?_
            refine s1 hE rfl (d_lss hE rfl rfl) fun a hE => ?_
            refine s1 hE rfl (d_move hE rfl) fun a hE => ?_
            by_cases c361 : y298 < (a0.Nodes.length : Int)
            · rw [if_pos c361] at hm
              refine gR hE rfl rfl (decide_eq_true c361) ?_
              refine s1 hE rfl (d_move hE rfl) fun a hE => ?_
              refine gR hE rfl rfl (decide_eq_true c361) ?_
              refine s1 hE rfl (d_fieldAddr fld102_0 hE rfl) fun a hE => ?_
              refine gR hE rfl rfl (decide_eq_true c361) ?_
              refine s1 hE rfl (d_load sc51 hE rfl H 2 rfl rfl) fun a hE => ?_
              refine gR hE rfl rfl (decide_eq_true c361) ?_
              refine s1 hE rfl (d_lenS Try.underlying51 hE rfl H (Rd.im 3 rfl)) fun a hE => ?_
              refine gR hE rfl rfl (decide_eq_true c361) ?_
              refine s1 hE rfl (d_lss hE rfl rfl) fun a hE => ?_
              refine s1 hE rfl (d_pT hE rfl (decide_eq_true c361) rfl) fun a hE => ?_
              refine wpList_nil ?_
              cases hm
              exact ⟨hE.sub ⟨rfl, rfl, rfl, rfl, trivial⟩, H⟩
            · rw [if_neg c361] at hm
              refine gP hE rfl rfl rfl (decide_eq_false c361) fun a hE => ?_
              refine gP hE rfl rfl rfl (decide_eq_false c361) fun a hE => ?_
              refine gP hE rfl rfl rfl (decide_eq_false c361) fun a hE => ?_
              refine gP hE rfl rfl rfl (decide_eq_false c361) fun a hE => ?_
              refine gP hE rfl rfl rfl (decide_eq_false c361) fun a hE => ?_
              refine s1 hE rfl (d_pF hE rfl (decide_eq_false c361) rfl) fun a hE => ?_
              refine wpList_nil ?_
              cases hm
              exact ⟨hE.sub ⟨rfl, rfl, rfl, rfl, trivial⟩, H⟩
          · rintro a w ⟨hE, H⟩
            by_cases c363 : s360 = true
            · rw [if_pos c363] at hm
              refine cT hE rfl c363 ?_
              refine wp_skip ?_
              refine wp_seq ?_
              refine wp_block ?_
              refine wp_seq ?_
              obtain ⟨x394, hx395, hm⟩ := bnd hm
              obtain ⟨x396, hx397, hm⟩ := bnd hm
              refine Dr.region (γ := Unit) (pre := [[], [0], [], [0, 1, 2], [0, 1, 2, 3], [], [5], [], [5, 6, 7], [5, 6, 7, 8], [0, 1, 2, 3, 4, 5, 6, 7, 8, 9]]) (val := [some (.pointer (some (ad q236 (0 + 0)))), some u0_0, some (.int .i64 y298), some (.pointer (some (ad (sb u0_0) (so u0_0 + (Int.toNat y298) * (cInt .i64).n)))), some (.int .i64 x394), some (.pointer (some (ad q237 (0 + 0)))), some u1_0, some (.int .i64 y298), some (.pointer (some (ad (sb u1_0) (so u1_0 + (Int.toNat y298) * (cInt .i64).n)))), some (.int .i64 x396), some (.bool (!(decide (x394 = x396))))]) (eff := []) (mask := [[]]) (keys := [[]]) (src := [[.base 2], [.op 0], [.base 5], [.op 1, .op 2], [.op 3], [.base 3], [.op 5], [.base 5], [.op 6, .op 7], [.op 8], [.op 4, .op 9]]) (z := z) (ef := fun p g => ([[]] : List (List (Nat × Value))).getD p []) (hi := fun _ _ => I) (rs := fun p g => ([Bl q236 102 [u0_0, (.int .u64 a0.Cost)] :: ImR (cInt .i64) u0_0 a0.Nodes :: Bl q237 102 [u1_0, (.int .u64 a1.Cost)] :: ImR (cInt .i64) u1_0 a1.Nodes :: r] : List (List Asn)).getD p []) [(0, 0), (1, 0), (2, 0), (3, 0), (4, 0), (5, 0), (6, 0), (7, 0), (8, 0), (9, 0), (10, 0)] [] [0, 1, 2, 3, 4, 5, 6, 7, 8, 9, 10] 0 mo hE () rfl H (by kernel_rfl) (by kernel_rfl) (fun p g => by cases p <;> rfl) ?_ ?_ (by kernel_rfl) (by kernel_rfl) ?_
              · exact ⟨by intro a w g hE H; exact Dr.is H rfl (Dr.run rfl (d_fieldAddr fld102_0 hE rfl)),
    by intro a w g hE H; exact Dr.is H rfl (Dr.run rfl (d_load sc51 hE rfl H 0 rfl rfl)),
    by intro a w g hE H; exact Dr.is H rfl (Dr.run rfl (d_move hE rfl)),
    by intro a w g hE H; exact Dr.is H rfl (Dr.run rfl (d_indexS sl51 hE rfl rfl H (Rd.im 1 rfl) hx395)),
    by intro a w g hE H; exact Dr.is H rfl (Dr.run rfl (d_loadS1 sc3 hE rfl H (Rd.im 1 rfl) hx395 (fun _ _ e => e))),
    by intro a w g hE H; exact Dr.is H rfl (Dr.run rfl (d_fieldAddr fld102_0 hE rfl)),
    by intro a w g hE H; exact Dr.is H rfl (Dr.run rfl (d_load sc51 hE rfl H 2 rfl rfl)),
    by intro a w g hE H; exact Dr.is H rfl (Dr.run rfl (d_move hE rfl)),
    by intro a w g hE H; exact Dr.is H rfl (Dr.run rfl (d_indexS sl51 hE rfl rfl H (Rd.im 3 rfl) hx397)),
    by intro a w g hE H; exact Dr.is H rfl (Dr.run rfl (d_loadS1 sc3 hE rfl H (Rd.im 3 rfl) hx397 (fun _ _ e => e))),
    by intro a w g hE H; exact Dr.is H rfl (Dr.run rfl (d_neq hE rfl rfl)),
    trivial⟩
              · trivial
              · intro a w g hE H
                have H : St z I w (Bl q236 102 [u0_0, (.int .u64 a0.Cost)] :: ImR (cInt .i64) u0_0 a0.Nodes :: Bl q237 102 [u1_0, (.int .u64 a1.Cost)] :: ImR (cInt .i64) u1_0 a1.Nodes :: r) := H
                by_cases c407 : x394 = x396
                · rw [if_pos c407] at hm
                  refine cF hE rfl (not_f (decide_eq_true c407)) ?_
                  refine wp_skip ?_
                  refine wp_region_lit ?_
                  refine s1 hE rfl (d_move hE rfl) fun a hE => ?_
                  refine s1 hE rfl (d_add hE rfl rfl) fun a hE => ?_
                  refine s1 hE rfl (d_assign hE rfl) fun a hE => ?_
                  refine wpList_nil ?_
                  exact ⟨k, Nat.lt_succ_self k, IntKind.i64.wrap (y298 + 1), hm, hE.sub ⟨rfl, rfl, rfl, trivial⟩, H⟩
                · rw [if_neg c407] at hm
                  refine cT hE rfl (not_t (decide_eq_false c407)) ?_
                  refine wp_seq ?_
                  obtain ⟨x412, hx413, hm⟩ := bnd hm
                  obtain ⟨x414, hx415, hm⟩ := bnd hm
                  refine Dr.region (γ := Unit) (pre := [[], [0], [], [0, 1, 2], [0, 1, 2, 3], [], [5], [], [5, 6, 7], [5, 6, 7, 8], [0, 1, 2, 3, 4, 5, 6, 7, 8, 9], [0, 1, 2, 3, 4, 5, 6, 7, 8, 9, 10]]) (val := [some (.pointer (some (ad q236 (0 + 0)))), some u0_0, some (.int .i64 y298), some (.pointer (some (ad (sb u0_0) (so u0_0 + (Int.toNat y298) * (cInt .i64).n)))), some (.int .i64 x412), some (.pointer (some (ad q237 (0 + 0)))), some u1_0, some (.int .i64 y298), some (.pointer (some (ad (sb u1_0) (so u1_0 + (Int.toNat y298) * (cInt .i64).n)))), some (.int .i64 x414), some (.bool (decide (x412 < x414))), some (.bool (decide (x412 < x414)))]) (eff := []) (mask := [[]]) (keys := [[]]) (src := [[.base 2], [.op 0], [.base 5], [.op 1, .op 2], [.op 3], [.base 3], [.op 5], [.base 5], [.op 6, .op 7], [.op 8], [.op 4, .op 9], [.op 10]]) (z := z) (ef := fun p g => ([[]] : List (List (Nat × Value))).getD p []) (hi := fun _ _ => I) (rs := fun p g => ([Bl q236 102 [u0_0, (.int .u64 a0.Cost)] :: ImR (cInt .i64) u0_0 a0.Nodes :: Bl q237 102 [u1_0, (.int .u64 a1.Cost)] :: ImR (cInt .i64) u1_0 a1.Nodes :: r] : List (List Asn)).getD p []) [(0, 0), (1, 0), (2, 0), (3, 0), (4, 0), (5, 0), (6, 0), (7, 0), (8, 0), (9, 0), (10, 0), (11, 0)] [] [0, 1, 2, 3, 4, 5, 6, 7, 8, 9, 10, 11] 0 mo hE () rfl H (by kernel_rfl) (by kernel_rfl) (fun p g => by cases p <;> rfl) ?_ ?_ (by kernel_rfl) (by kernel_rfl) ?_
                  · exact ⟨by intro a w g hE H; exact Dr.is H rfl (Dr.run rfl (d_fieldAddr fld102_0 hE rfl)),
    by intro a w g hE H; exact Dr.is H rfl (Dr.run rfl (d_load sc51 hE rfl H 0 rfl rfl)),
    by intro a w g hE H; exact Dr.is H rfl (Dr.run rfl (d_move hE rfl)),
    by intro a w g hE H; exact Dr.is H rfl (Dr.run rfl (d_indexS sl51 hE rfl rfl H (Rd.im 1 rfl) hx413)),
    by intro a w g hE H; exact Dr.is H rfl (Dr.run rfl (d_loadS1 sc3 hE rfl H (Rd.im 1 rfl) hx413 (fun _ _ e => e))),
    by intro a w g hE H; exact Dr.is H rfl (Dr.run rfl (d_fieldAddr fld102_0 hE rfl)),
    by intro a w g hE H; exact Dr.is H rfl (Dr.run rfl (d_load sc51 hE rfl H 2 rfl rfl)),
    by intro a w g hE H; exact Dr.is H rfl (Dr.run rfl (d_move hE rfl)),
    by intro a w g hE H; exact Dr.is H rfl (Dr.run rfl (d_indexS sl51 hE rfl rfl H (Rd.im 3 rfl) hx415)),
    by intro a w g hE H; exact Dr.is H rfl (Dr.run rfl (d_loadS1 sc3 hE rfl H (Rd.im 3 rfl) hx415 (fun _ _ e => e))),
    by intro a w g hE H; exact Dr.is H rfl (Dr.run rfl (d_lss hE rfl rfl)),
    by intro a w g hE H; exact Dr.is H rfl (Dr.run rfl (d_assign hE rfl)),
    trivial⟩
                  · trivial
                  · intro a w g hE H
                    have H : St z I w (Bl q236 102 [u0_0, (.int .u64 a0.Cost)] :: ImR (cInt .i64) u0_0 a0.Nodes :: Bl q237 102 [u1_0, (.int .u64 a1.Cost)] :: ImR (cInt .i64) u1_0 a1.Nodes :: r) := H
                    refine wp_ret ?_
                    cases hm
                    have hm := hq357
                    simp only [Out.on] at hm
                    cases hm
                    have H := St.del H 0
                    have H := St.del H 0
                    have H := St.del H 0
                    have H := St.del H 0
                    exact ret1 rfl hE rfl ⟨_, rfl, rfl, H⟩
            · rw [if_neg c363] at hm
              refine cF hE rfl (b_f c363) ?_
              refine wp_exit ?_
              cases hm
              exact ⟨_, rfl, hE.sub ⟨rfl, rfl, trivial⟩, H⟩
      · have H := St.get H 2 rfl
        have H := St.get H 1 rfl
        have H := St.get H 3 rfl
        have H := St.get H 3 rfl
        exact ⟨0, hj357, hE.sub ⟨rfl, rfl, rfl, trivial⟩, H⟩
    · rintro a w ⟨s357, rfl, hE, H⟩
      have hm := hq357
      simp only [Out.on] at hm
      refine wp_seq ?_
      refine wp_region_lit ?_
      refine s1 hE rfl (d_fieldAddr fld102_0 hE rfl) fun a hE => ?_
      refine s1 hE rfl (d_load sc51 hE rfl H 0 rfl rfl) fun a hE => ?_
      refine s1 hE rfl (d_lenS Try.underlying51 hE rfl H (Rd.im 1 rfl)) fun a hE => ?_
      refine s1 hE rfl (d_fieldAddr fld102_0 hE rfl) fun a hE => ?_
      refine s1 hE rfl (d_load sc51 hE rfl H 2 rfl rfl) fun a hE => ?_
      refine s1 hE rfl (d_lenS Try.underlying51 hE rfl H (Rd.im 3 rfl)) fun a hE => ?_
      refine s1 hE rfl (d_lss hE rfl rfl) fun a hE => ?_
      refine s1 hE rfl (d_assign hE rfl) fun a hE => ?_
      refine wpList_nil ?_
      refine wp_ret ?_
      cases hm
      have H := St.del H 0
      have H := St.del H 0
      have H := St.del H 0
      have H := St.del H 0
      exact ret1 rfl hE rfl ⟨_, rfl, rfl, H⟩
  · rw [if_neg c239] at hm
    refine cT hE rfl (not_t (decide_eq_false c239)) ?_
    refine wp_seq ?_
    refine wp_region_lit ?_
    refine s1 hE rfl (d_fieldAddr fld102_1 hE rfl) fun a hE => ?_
    refine s1 hE rfl (d_load sc61 hE rfl H 1 rfl rfl) fun a hE => ?_
    refine s1 hE rfl (d_fieldAddr fld102_1 hE rfl) fun a hE => ?_
    refine s1 hE rfl (d_load sc61 hE rfl H 0 rfl rfl) fun a hE => ?_
    refine s1 hE rfl (d_lss hE rfl rfl) fun a hE => ?_
    refine s1 hE rfl (d_assign hE rfl) fun a hE => ?_
    refine wpList_nil ?_
    refine wp_ret ?_
    cases hm
    have H := St.del H 0
    have H := St.del H 0
    have H := St.del H 0
    have H := St.del H 0
    exact ret1 rfl hE rfl ⟨_, rfl, rfl, H⟩
def m40_l1 (y1200 : Int) : Nat → (List S_api_Arc) → Int → Option (List S_api_Arc)
  | 0, _, _ => none
  | k + 1, l1667, y1668 => if y1668 ≤ 3 then (Option.bind (α := (List S_api_Arc)) (if y1200 = y1668 then (some l1667) else (Option.bind (appd 5864062014805 l1667 ([(⟨y1200, y1668, 1⟩ : S_api_Arc)])) fun l1757 => some l1757)) fun s1750 => m40_l1 y1200 k s1750 (IntKind.i64.wrap (y1668 + 1))) else (some l1667)
def m40_l0  : Nat → (List S_api_Arc) → Int → Option (List S_api_Arc)
  | 0, _, _ => none
  | k + 1, l1199, y1200 => if y1200 ≤ 3 then (Option.bind (m40_l1 y1200 k l1199 1) fun s1715 => m40_l0 k s1715 (IntKind.i64.wrap (y1200 + 1))) else (some l1199)
def m40 (k : Nat)  : Option Bool := Option.bind (m40_l0  k [] 1) fun s1481 => Option.bind (m41 k s1481 1 2 5) fun x1763 => Option.bind (α := Bool) (if (x1763.length : Int) = 2 then (Option.bind (rdx x1763 0) fun x1782 => if (x1782.Nodes.length : Int) = 2 then (Option.bind (rdx x1763 1) fun x1786 => if (x1786.Nodes.length : Int) = 3 then (Option.bind (rdx x1763 1) fun x1790 => some (decide (x1790.Cost = 2))) else (some false)) else (some false)) else (some false)) fun s1780 => some s1780
set_option maxRecDepth 20000 in
set_option maxHeartbeats 4000000 in
theorem f40_ok (k : Nat)  {res : Bool} (hm : m40 k = some res) {z w : World} {I : Hp} {r : List Asn} (hz : z.drawn = 0) (H : St z I w (r)) :
    Calls Try.prog 40 #[] w (Rt fun v w' => v = (.bool res) ∧ St z I w' (r)) := by
  unfold m40 at hm
  refine enter (args := []) Try.func40 rfl Try.ntmps40 rfl fun a hE => ?_
  refine wp_seq ?_
  refine wp_region_lit ?_
  refine s1 hE rfl (d_assign hE rfl) fun a hE => ?_
  refine wpList_nil ?_
  refine wp_seq ?_
  refine wp_region_lit ?_
  refine s2 hE rfl (d_lit (c := c_api_Arc) (xs := []) hE rfl (lit55_0) rfl rfl (fun J h iJ s => rows0) H) fun a v w hR hE => ?_
  obtain ⟨v923, rfl⟩ : ∃ x, x = v := ⟨v, rfl⟩
  have H : St z I w (OwnSl c_api_Arc v923 [] :: r) := hR
  refine s1 hE rfl (d_assign hE rfl) fun a hE => ?_
  refine wpList_nil ?_
  refine wp_seq ?_
  refine wp_seq ?_
  refine wp_region_lit ?_
  refine s1 hE rfl (d_assign hE rfl) fun a hE => ?_
  refine wpList_nil ?_
  obtain ⟨s1481, hj1481, hm⟩ := bnd hm
  refine cut2 (fun a w => ∃ v1479 : Value, Env a 51 [(1, v1479)] ∧ St z I w (OwnSl c_api_Arc v1479 s1481 :: r)) ?_ ?_
  · refine wp_block ?_
    refine loopI (fun k a w => ∃ l1199 : List S_api_Arc, ∃ y1200 : Int, m40_l0  k l1199 y1200 = some s1481 ∧ ∃ v1198 : Value, Env a 51 [(1, v1198), (2, (.int .i64 y1200))] ∧ St z I w (OwnSl c_api_Arc v1198 l1199 :: r)) ?_ k _ _ ?_
    · rintro k a w ⟨l1199, y1200, hm, v1198, hE, H⟩
      cases k with
      | zero => rw [m40_l0] at hm; cases hm
      | succ k =>
        rw [m40_l0] at hm
        refine wp_seq ?_
        refine wp_seq ?_
        refine wp_region_lit ?_
        refine s1 hE rfl (d_move hE rfl) fun a hE => ?_
        refine s1 hE rfl (d_leq hE rfl rfl) fun a hE => ?_
        refine wpList_nil ?_
        by_cases c1483 : y1200 ≤ 3
        · rw [if_pos c1483] at hm
          refine cT hE rfl (decide_eq_true c1483) ?_
          refine wp_skip ?_
          refine wp_seq ?_
          refine wp_block ?_
          refine wp_seq ?_
          refine wp_region_lit ?_
          refine s1 hE rfl (d_assign hE rfl) fun a hE => ?_
          refine wpList_nil ?_
          obtain ⟨s1715, hj1715, hm⟩ := bnd hm
          refine cut2 (fun a w => ∃ v1713 : Value, Env a 51 [(1, v1713), (2, (.int .i64 y1200))] ∧ St z I w (OwnSl c_api_Arc v1713 s1715 :: r)) ?_ ?_
          · refine wp_block ?_
            refine loopI (fun k a w => ∃ l1667 : List S_api_Arc, ∃ y1668 : Int, m40_l1 y1200 k l1667 y1668 = some s1715 ∧ ∃ v1666 : Value, Env a 51 [(1, v1666), (2, (.int .i64 y1200)), (3, (.int .i64 y1668))] ∧ St z I w (OwnSl c_api_Arc v1666 l1667 :: r)) ?_ k _ _ ?_
            · rintro k a w ⟨l1667, y1668, hm, v1666, hE, H⟩
              cases k with
              | zero => rw [m40_l1] at hm; cases hm
              | succ k =>
                rw [m40_l1] at hm
                refine wp_seq ?_
                refine wp_seq ?_
                refine wp_region_lit ?_
                refine s1 hE rfl (d_move hE rfl) fun a hE => ?_
                refine s1 hE rfl (d_leq hE rfl rfl) fun a hE => ?_
                refine wpList_nil ?_
                by_cases c1717 : y1668 ≤ 3
                · rw [if_pos c1717] at hm
                  refine cT hE rfl (decide_eq_true c1717) ?_
                  refine wp_skip ?_
                  refine wp_seq ?_
                  refine wp_block ?_
                  refine wp_seq ?_
                  refine wp_region_lit ?_
                  refine s1 hE rfl (d_move hE rfl) fun a hE => ?_
                  refine s1 hE rfl (d_move hE rfl) fun a hE => ?_
                  refine s1 hE rfl (d_neq hE rfl rfl) fun a hE => ?_
                  refine wpList_nil ?_
                  obtain ⟨s1750, hj1750, hm⟩ := bnd hm
                  refine cut2 (fun a w => ∃ v1748 : Value, Env a 51 [(1, v1748), (2, (.int .i64 y1200)), (3, (.int .i64 y1668))] ∧ St z I w (OwnSl c_api_Arc v1748 s1750 :: r)) ?_ ?_
                  · have hm := hj1750
                    by_cases c1751 : y1200 = y1668
                    · rw [if_pos c1751] at hm
                      refine cF hE rfl (not_f (decide_eq_true c1751)) ?_
                      refine wp_skip ?_
                      cases hm
                      exact ⟨v1666, hE.sub ⟨rfl, rfl, rfl, trivial⟩, H⟩
                    · rw [if_neg c1751] at hm
                      refine cT hE rfl (not_t (decide_eq_false c1751)) ?_
                      refine wp_region_lit ?_
                      refine s1 hE rfl (d_move hE rfl) fun a hE => ?_
                      refine s1 hE rfl (d_move hE rfl) fun a hE => ?_
                      refine s1 hE rfl (d_move hE rfl) fun a hE => ?_
                      refine s1 hE rfl (d_build hE rfl (bld60_0In_1In_2In _ _ _)) fun a hE => ?_
                      refine s2 hE rfl (d_lit (c := c_api_Arc) (xs := [(⟨y1200, y1668, 1⟩ : S_api_Arc)]) hE rfl (lit55_1 _ _ _) rfl rfl (fun J h iJ s => rowsC (cs := [(.int .i64 y1200), (.int .i64 y1668), (.int .i64 1)]) rfl (rows0)) H) fun a v w hR hE => ?_
                      obtain ⟨v1756, rfl⟩ : ∃ x, x = v := ⟨v, rfl⟩
                      have H : St z I w (OwnSl c_api_Arc v1756 ([(⟨y1200, y1668, 1⟩ : S_api_Arc)]) :: OwnSl c_api_Arc v1666 l1667 :: r) := hR
                      obtain ⟨l1757, ha1758, hm⟩ := bnd hm
                      have H := St.get H 1 rfl
                      have H : St z I w (OwnSl c_api_Arc v1666 l1667 :: OwnSl c_api_Arc v1756 ([(⟨y1200, y1668, 1⟩ : S_api_Arc)]) :: r) := H
                      refine s2 hE rfl (d_appendO (lim := 5864062014805) el55 (by decide) (by decide) hE rfl rfl H ha1758) fun a v w hR hE => ?_
                      obtain ⟨v1759, rfl⟩ : ∃ x, x = v := ⟨v, rfl⟩
                      have H : St z I w (OwnSl c_api_Arc v1759 l1757 :: r) := hR
                      refine s1 hE rfl (d_assign hE rfl) fun a hE => ?_
                      refine wpList_nil ?_
                      cases hm
                      exact ⟨v1759, hE.sub ⟨rfl, rfl, rfl, trivial⟩, H⟩
                  · rintro a w ⟨v1748, hE, H⟩
                    refine wp_region_lit ?_
                    refine s1 hE rfl (d_move hE rfl) fun a hE => ?_
                    refine s1 hE rfl (d_add hE rfl rfl) fun a hE => ?_
                    refine s1 hE rfl (d_assign hE rfl) fun a hE => ?_
                    refine wpList_nil ?_
                    exact ⟨k, Nat.lt_succ_self k, s1750, IntKind.i64.wrap (y1668 + 1), hm, v1748, hE.sub ⟨rfl, rfl, rfl, trivial⟩, H⟩
                · rw [if_neg c1717] at hm
                  refine cF hE rfl (decide_eq_false c1717) ?_
                  refine wp_exit ?_
                  cases hm
                  exact ⟨v1666, hE.sub ⟨rfl, rfl, trivial⟩, H⟩
            · exact ⟨l1199, 1, hj1715, v1198, hE.sub ⟨rfl, rfl, rfl, trivial⟩, H⟩
          · rintro a w ⟨v1713, hE, H⟩
            refine wp_region_lit ?_
            refine s1 hE rfl (d_move hE rfl) fun a hE => ?_
            refine s1 hE rfl (d_add hE rfl rfl) fun a hE => ?_
            refine s1 hE rfl (d_assign hE rfl) fun a hE => ?_
            refine wpList_nil ?_
            exact ⟨k, Nat.lt_succ_self k, s1715, IntKind.i64.wrap (y1200 + 1), hm, v1713, hE.sub ⟨rfl, rfl, trivial⟩, H⟩
        · rw [if_neg c1483] at hm
          refine cF hE rfl (decide_eq_false c1483) ?_
          refine wp_exit ?_
          cases hm
          exact ⟨v1198, hE.sub ⟨rfl, trivial⟩, H⟩
    · exact ⟨[], 1, hj1481, v923, hE.sub ⟨rfl, rfl, trivial⟩, H⟩
  · rintro a w ⟨v1479, hE, H⟩
    refine wp_seq ?_
    refine wp_region_lit ?_
    refine s1 hE rfl (d_move hE rfl) fun a hE => ?_
    obtain ⟨x1763, hc1764, hm⟩ := bnd hm
    refine s2 hE rfl (d_call c41 hE rfl (f41_ok k s1481 1 2 5 hc1764 (Rd.own 0 rfl) hz H)) fun a v w hR hE => ?_
    obtain ⟨v1765, hv_, H⟩ := hR
    have hv_ := hv_.symm
    subst hv_
    refine s1 hE rfl (d_assign hE rfl) fun a hE => ?_
    refine wpList_nil ?_
    refine wp_seq ?_
    obtain ⟨s1780, hj1780, hm⟩ := bnd hm
    refine cut2 (fun a w => Env a 51 [(0, (.bool s1780))] ∧ St z I w (r)) ?_ ?_
    · have hm := hj1780
      refine wp_region_lit ?_
      refine s1 hE rfl (d_move hE rfl) fun a hE => ?_
      refine s1 hE rfl (d_lenS Try.underlying74 hE rfl H (Rd.own 0 rfl)) fun a hE => ?_
      refine s1 hE rfl (d_eql hE rfl rfl) fun a hE => ?_
      refine s1 hE rfl (d_move hE rfl) fun a hE => ?_
      by_cases c1781 : (x1763.length : Int) = 2
      · rw [if_pos c1781] at hm
        refine gR hE rfl rfl (decide_eq_true c1781) ?_
        refine s1 hE rfl (d_move hE rfl) fun a hE => ?_
        refine gR hE rfl rfl (decide_eq_true c1781) ?_
        obtain ⟨x1782, hx1783, hm⟩ := bnd hm
        refine s1 hE rfl (d_indexS sl74 hE rfl rfl H (Rd.own 0 rfl) hx1783) fun a hE => ?_
        refine gR hE rfl rfl (decide_eq_true c1781) ?_
        refine s1 hE rfl (d_fieldAddr fld102_0 hE rfl) fun a hE => ?_
        refine gR hE rfl rfl (decide_eq_true c1781) ?_
        refine s2 hE rfl (d_loadSfR (c := c_api_Path) (j := 0) (Q := fun V => ImR (cInt .i64) V x1782.Nodes) sc51 hE rfl H (Rd.own 0 rfl) hx1783 (fun _ _ e => by obtain ⟨V0, rfl, h0⟩ := e; exact ⟨_, rfl, h0⟩)) fun a v w hR hE => ?_
        obtain ⟨v1784, rfl⟩ : ∃ x, x = v := ⟨v, rfl⟩
        have H : St z I w (ImR (cInt .i64) v1784 x1782.Nodes :: OwnSl c_api_Path v1765 x1763 :: OwnSl c_api_Arc v1479 s1481 :: r) := hR
        refine gR hE rfl rfl (decide_eq_true c1781) ?_
        refine s1 hE rfl (d_lenS Try.underlying51 hE rfl H (Rd.im 0 rfl)) fun a hE => ?_
        refine gR hE rfl rfl (decide_eq_true c1781) ?_
        refine s1 hE rfl (d_eql hE rfl rfl) fun a hE => ?_
        refine s1 hE rfl (d_pT hE rfl (decide_eq_true c1781) rfl) fun a hE => ?_
        refine s1 hE rfl (d_move hE rfl) fun a hE => ?_
        by_cases c1785 : (x1782.Nodes.length : Int) = 2
        · rw [if_pos c1785] at hm
          refine gR hE rfl rfl (decide_eq_true c1785) ?_
          refine s1 hE rfl (d_move hE rfl) fun a hE => ?_
          refine gR hE rfl rfl (decide_eq_true c1785) ?_
          obtain ⟨x1786, hx1787, hm⟩ := bnd hm
          refine s1 hE rfl (d_indexS sl74 hE rfl rfl H (Rd.own 1 rfl) hx1787) fun a hE => ?_
          refine gR hE rfl rfl (decide_eq_true c1785) ?_
          refine s1 hE rfl (d_fieldAddr fld102_0 hE rfl) fun a hE => ?_
          refine gR hE rfl rfl (decide_eq_true c1785) ?_
          refine s2 hE rfl (d_loadSfR (c := c_api_Path) (j := 0) (Q := fun V => ImR (cInt .i64) V x1786.Nodes) sc51 hE rfl H (Rd.own 1 rfl) hx1787 (fun _ _ e => by obtain ⟨V0, rfl, h0⟩ := e; exact ⟨_, rfl, h0⟩)) fun a v w hR hE => ?_
          obtain ⟨v1788, rfl⟩ : ∃ x, x = v := ⟨v, rfl⟩
          have H : St z I w (ImR (cInt .i64) v1788 x1786.Nodes :: ImR (cInt .i64) v1784 x1782.Nodes :: OwnSl c_api_Path v1765 x1763 :: OwnSl c_api_Arc v1479 s1481 :: r) := hR
          refine gR hE rfl rfl (decide_eq_true c1785) ?_
          refine s1 hE rfl (d_lenS Try.underlying51 hE rfl H (Rd.im 0 rfl)) fun a hE => ?_
          refine gR hE rfl rfl (decide_eq_true c1785) ?_
          refine s1 hE rfl (d_eql hE rfl rfl) fun a hE => ?_
          refine s1 hE rfl (d_pT hE rfl (decide_eq_true c1785) rfl) fun a hE => ?_
          refine s1 hE rfl (d_move hE rfl) fun a hE => ?_
          by_cases c1789 : (x1786.Nodes.length : Int) = 3
          · rw [if_pos c1789] at hm
            refine gR hE rfl rfl (decide_eq_true c1789) ?_
            refine s1 hE rfl (d_move hE rfl) fun a hE => ?_
            refine gR hE rfl rfl (decide_eq_true c1789) ?_
            obtain ⟨x1790, hx1791, hm⟩ := bnd hm
            refine s1 hE rfl (d_indexS sl74 hE rfl rfl H (Rd.own 2 rfl) hx1791) fun a hE => ?_
            refine gR hE rfl rfl (decide_eq_true c1789) ?_
            refine s1 hE rfl (d_fieldAddr fld102_1 hE rfl) fun a hE => ?_
            refine gR hE rfl rfl (decide_eq_true c1789) ?_
            refine s1 hE rfl (d_loadSf (j := 1) sc61 hE rfl H (Rd.own 2 rfl) hx1791 (fun _ _ e => by obtain ⟨_, rfl, _⟩ := e; rfl)) fun a hE => ?_
            refine gR hE rfl rfl (decide_eq_true c1789) ?_
            refine s1 hE rfl (d_eql hE rfl rfl) fun a hE => ?_
            refine s1 hE rfl (d_pT hE rfl (decide_eq_true c1789) rfl) fun a hE => ?_
            refine s1 hE rfl (d_assign hE rfl) fun a hE => ?_
            refine wpList_nil ?_
            cases hm
            have H := St.del H 0
            have H := St.del H 0
            have H := St.del H 0
            have H := St.del H 0
            exact ⟨hE.sub ⟨rfl, trivial⟩, H⟩
          · rw [if_neg c1789] at hm
            refine gP hE rfl rfl rfl (decide_eq_false c1789) fun a hE => ?_
            refine gP hE rfl rfl rfl (decide_eq_false c1789) fun a hE => ?_
            refine gP hE rfl rfl rfl (decide_eq_false c1789) fun a hE => ?_
            refine gP hE rfl rfl rfl (decide_eq_false c1789) fun a hE => ?_
            refine gP hE rfl rfl rfl (decide_eq_false c1789) fun a hE => ?_
            refine s1 hE rfl (d_pF hE rfl (decide_eq_false c1789) rfl) fun a hE => ?_
            refine s1 hE rfl (d_assign hE rfl) fun a hE => ?_
            refine wpList_nil ?_
            cases hm
            have H := St.del H 0
            have H := St.del H 0
            have H := St.del H 0
            have H := St.del H 0
            exact ⟨hE.sub ⟨rfl, trivial⟩, H⟩
        · rw [if_neg c1785] at hm
          refine gP hE rfl rfl rfl (decide_eq_false c1785) fun a hE => ?_
          refine gP hE rfl rfl rfl (decide_eq_false c1785) fun a hE => ?_
          refine gP hE rfl rfl rfl (decide_eq_false c1785) fun a hE => ?_
          refine gP hE rfl rfl rfl (decide_eq_false c1785) fun a hE => ?_
          refine gP hE rfl rfl rfl (decide_eq_false c1785) fun a hE => ?_
          refine gP hE rfl rfl rfl (decide_eq_false c1785) fun a hE => ?_
          refine s1 hE rfl (d_pF hE rfl (decide_eq_false c1785) rfl) fun a hE => ?_
          refine s1 hE rfl (d_move hE rfl) fun a hE => ?_
          refine gP hE rfl rfl rfl rfl fun a hE => ?_
          refine gP hE rfl rfl rfl rfl fun a hE => ?_
          refine gP hE rfl rfl rfl rfl fun a hE => ?_
          refine gP hE rfl rfl rfl rfl fun a hE => ?_
          refine gP hE rfl rfl rfl rfl fun a hE => ?_
          refine s1 hE rfl (d_pF hE rfl rfl rfl) fun a hE => ?_
          refine s1 hE rfl (d_assign hE rfl) fun a hE => ?_
          refine wpList_nil ?_
          cases hm
          have H := St.del H 0
          have H := St.del H 0
          have H := St.del H 0
          exact ⟨hE.sub ⟨rfl, trivial⟩, H⟩
      · rw [if_neg c1781] at hm
        refine gP hE rfl rfl rfl (decide_eq_false c1781) fun a hE => ?_
        refine gP hE rfl rfl rfl (decide_eq_false c1781) fun a hE => ?_
        refine gP hE rfl rfl rfl (decide_eq_false c1781) fun a hE => ?_
        refine gP hE rfl rfl rfl (decide_eq_false c1781) fun a hE => ?_
        refine gP hE rfl rfl rfl (decide_eq_false c1781) fun a hE => ?_
        refine gP hE rfl rfl rfl (decide_eq_false c1781) fun a hE => ?_
        refine s1 hE rfl (d_pF hE rfl (decide_eq_false c1781) rfl) fun a hE => ?_
        refine s1 hE rfl (d_move hE rfl) fun a hE => ?_
        refine gP hE rfl rfl rfl rfl fun a hE => ?_
        refine gP hE rfl rfl rfl rfl fun a hE => ?_
        refine gP hE rfl rfl rfl rfl fun a hE => ?_
        refine gP hE rfl rfl rfl rfl fun a hE => ?_
        refine gP hE rfl rfl rfl rfl fun a hE => ?_
        refine gP hE rfl rfl rfl rfl fun a hE => ?_
        refine s1 hE rfl (d_pF hE rfl rfl rfl) fun a hE => ?_
        refine s1 hE rfl (d_move hE rfl) fun a hE => ?_
        refine gP hE rfl rfl rfl rfl fun a hE => ?_
        refine gP hE rfl rfl rfl rfl fun a hE => ?_
        refine gP hE rfl rfl rfl rfl fun a hE => ?_
        refine gP hE rfl rfl rfl rfl fun a hE => ?_
        refine gP hE rfl rfl rfl rfl fun a hE => ?_
        refine s1 hE rfl (d_pF hE rfl rfl rfl) fun a hE => ?_
        refine s1 hE rfl (d_assign hE rfl) fun a hE => ?_
        refine wpList_nil ?_
        cases hm
        have H := St.del H 0
        have H := St.del H 0
        exact ⟨hE.sub ⟨rfl, trivial⟩, H⟩
    · rintro a w ⟨hE, H⟩
      refine wp_ret ?_
      cases hm
      exact ret1 rfl hE rfl ⟨_, rfl, rfl, H⟩
def m42_l0 (a3 : List S_api_Path) (l1288 : List Int) (x1280 : Int × Bool) : Nat → Int → Option Int
  | 0, _ => none
  | k + 1, y1308 => Option.bind (α := Bool) (if y1308 < (a3.length : Int) then (Option.bind (rdx a3 y1308) fun x1336 => Option.bind (m96 k x1336 (⟨l1288, x1280.1⟩ : S_api_Path)) fun x1339 => some x1339) else (some false)) fun s1334 => if s1334 = true then (m42_l0 a3 l1288 x1280 k (IntKind.i64.wrap (y1308 + 1))) else (some y1308)
def m42_l1 (F_ : (List S_api_Arc) → (List Int) → Int → (List S_api_Path) → Option (List S_api_Path)) (a0 : List S_api_Arc) (a1 : List Int) (a2 : Int) (x1171 : Int) : Nat → (List S_api_Path) → Int → Option (List S_api_Path)
  | 0, _, _ => none
  | k + 1, l1510, y1511 => if y1511 ≤ 64 then (Option.bind (m95 k a0 ([x1171, y1511])) fun x1712 => Option.bind (α := Bool) (if x1712.2 = true then (Option.bind (m30 k a1 y1511) fun x1720 => some (!x1720)) else (some false)) fun s1718 => Option.bind (α := (List S_api_Path)) (if s1718 = true then (Option.bind (appd 17592186044416 [] a1) fun l1761 => Option.bind (appd 17592186044416 l1761 ([y1511])) fun l1765 => Option.bind (F_ a0 l1765 a2 l1510) fun x1768 => some x1768) else (some l1510)) fun s1747 => m42_l1 F_ a0 a1 a2 x1171 k s1747 (IntKind.i64.wrap (y1511 + 1))) else (some l1510)
def m42b (F_ : (List S_api_Arc) → (List Int) → Int → (List S_api_Path) → Option (List S_api_Path)) (k : Nat) (a0 : List S_api_Arc) (a1 : List Int) (a2 : Int) (a3 : List S_api_Path) : Option (List S_api_Path) := Option.bind (rdx a1 (IntKind.i64.wrap ((a1.length : Int) - 1))) fun x1171 => if x1171 = a2 then (Option.bind (m95 k a0 a1) fun x1280 => Option.bind (appd 17592186044416 [] a1) fun l1288 => Option.bind (m42_l0 a3 l1288 x1280 k 0) fun s1326 => Option.bind (cutx a3 s1326 (a3.length : Int)) fun l1350 => Option.bind (appd 4398046511104 [] l1350) fun l1352 => Option.bind (cutx a3 0 s1326) fun l1369 => Option.bind (appd 4398046511104 [] l1369) fun l1371 => Option.bind (appd 4398046511104 l1371 ([(⟨l1288, x1280.1⟩ : S_api_Path)])) fun l1375 => Option.bind (appd 4398046511104 l1375 l1352) fun l1378 => some l1378) else (Option.bind (m42_l1 F_ a0 a1 a2 x1171 k a3 1) fun s1642 => some s1642)
def m42 : Nat → (List S_api_Arc) → (List Int) → Int → (List S_api_Path) → Option (List S_api_Path)
  | 0, _, _, _, _ => none
  | k + 1, a0, a1, a2, a3 => m42b (m42 k) k a0 a1 a2 a3
set_option maxRecDepth 20000 in
set_option maxHeartbeats 4000000 in
theorem f42_b (F_ : (List S_api_Arc) → (List Int) → Int → (List S_api_Path) → Option (List S_api_Path)) (hRec : ∀ {u0 : Value} (a0 : List S_api_Arc) {u1 : Value} (a1 : List Int) (a2 : Int) {u3 : Value} (a3 : List S_api_Path) {res : (List S_api_Path)}, F_ a0 a1 a2 a3 = some res → ∀ {z w : World} {I : Hp} {r : List Asn}, Rd c_api_Arc I r u0 a0 → Rd (cInt .i64) I r u1 a1 → St z I w (OwnSl c_api_Path u3 a3 :: r) → Calls Try.prog 42 #[u0, u1, (.int .i64 a2), u3] w (Rt fun v w' => ∃ v1167 : Value, v = v1167 ∧ St z I w' (OwnSl c_api_Path v1167 res :: r))) (k : Nat) {u0 : Value} (a0 : List S_api_Arc) {u1 : Value} (a1 : List Int) (a2 : Int) {u3 : Value} (a3 : List S_api_Path) {res : (List S_api_Path)} (hm : m42b F_ k a0 a1 a2 a3 = some res) {z w : World} {I : Hp} {r : List Asn} (hr0 : Rd c_api_Arc I r u0 a0) (hr1 : Rd (cInt .i64) I r u1 a1) (H : St z I w (OwnSl c_api_Path u3 a3 :: r)) :
    Calls Try.prog 42 #[u0, u1, (.int .i64 a2), u3] w (Rt fun v w' => ∃ v1167 : Value, v = v1167 ∧ St z I w' (OwnSl c_api_Path v1167 res :: r)) := by
  unfold m42b at hm
  refine enter (args := [u0, u1, (.int .i64 a2), u3]) Try.func42 rfl Try.ntmps42 rfl fun a hE => ?_
  refine wp_seq ?_
  refine wp_region_lit ?_
  refine s1 hE rfl (d_assign hE rfl) fun a hE => ?_
  refine wpList_nil ?_
  refine wp_seq ?_
  refine wp_region_lit ?_
  refine s1 hE rfl (d_move hE rfl) fun a hE => ?_
  refine s1 hE rfl (d_move hE rfl) fun a hE => ?_
  refine s1 hE rfl (d_lenS Try.underlying51 hE rfl H (Rd.cons hr1)) fun a hE => ?_
  refine s1 hE rfl (d_sub hE rfl rfl) fun a hE => ?_
  obtain ⟨x1171, hx1172, hm⟩ := bnd hm
  refine s1 hE rfl (d_indexS sl51 hE rfl rfl H (Rd.cons hr1) hx1172) fun a hE => ?_
  refine s1 hE rfl (d_loadS1 sc3 hE rfl H (Rd.cons hr1) hx1172 (fun _ _ e => e)) fun a hE => ?_
  refine s1 hE rfl (d_assign hE rfl) fun a hE => ?_
  refine wpList_nil ?_
  refine wp_seq ?_
  refine wp_seq ?_
  refine wp_region_lit ?_
  refine s1 hE rfl (d_move hE rfl) fun a hE => ?_
  refine s1 hE rfl (d_move hE rfl) fun a hE => ?_
  refine s1 hE rfl (d_eql hE rfl rfl) fun a hE => ?_
  refine wpList_nil ?_
  by_cases c1277 : x1171 = a2
  · rw [if_pos c1277] at hm
    refine cT hE rfl (decide_eq_true c1277) ?_
    refine wp_seq ?_
    refine wp_region_lit ?_
    refine s1 hE rfl (d_move hE rfl) fun a hE => ?_
    refine s1 hE rfl (d_move hE rfl) fun a hE => ?_
    obtain ⟨x1280, hc1281, hm⟩ := bnd hm
    refine s2 hE rfl (d_call c95 hE rfl (f95_ok k a0 a1 hc1281 (Rd.cons hr0) (Rd.cons hr1) H)) fun a v w hR hE => ?_
    obtain ⟨hv_, H⟩ := hR
    have hv_ := hv_.symm
    subst hv_
    refine s1 hE rfl (d_move hE rfl) fun a hE => ?_
    refine s1 hE rfl (d_extract hE rfl rfl) fun a hE => ?_
    refine s1 hE rfl (d_extract hE rfl rfl) fun a hE => ?_
    refine s1 hE rfl (d_assign hE rfl) fun a hE => ?_
    refine s1 hE rfl (d_assign hE rfl) fun a hE => ?_
    refine wpList_nil ?_
    refine wp_seq ?_
    refine wp_region_lit ?_
    refine s2 hE rfl (d_lit (c := (cInt .i64)) (xs := []) hE rfl (lit51_0) rfl rfl (fun J h iJ s => rows0) H) fun a v w hR hE => ?_
    obtain ⟨v1287, rfl⟩ : ∃ x, x = v := ⟨v, rfl⟩
    have H : St z I w (OwnSl (cInt .i64) v1287 [] :: OwnSl c_api_Path u3 a3 :: r) := hR
    refine s1 hE rfl (d_move hE rfl) fun a hE => ?_
    obtain ⟨l1288, ha1289, hm⟩ := bnd hm
    have H : St z I w (OwnSl (cInt .i64) v1287 [] :: OwnSl c_api_Path u3 a3 :: r) := H
    refine s2 hE rfl (d_appendS (lim := 17592186044416) el51 (by decide) (by decide) hE rfl rfl H (Rd.cons (Rd.cons hr1)) ha1289) fun a v w hR hE => ?_
    obtain ⟨v1290, rfl⟩ : ∃ x, x = v := ⟨v, rfl⟩
    have H : St z I w (OwnSl (cInt .i64) v1290 l1288 :: OwnSl c_api_Path u3 a3 :: r) := hR
    refine s1 hE rfl (d_move hE rfl) fun a hE => ?_
    refine s1 hE rfl (d_build hE rfl (bld102_0Sl_1In _ _ (Rd.slice H (Rd.own 0 rfl)))) fun a hE => ?_
    refine s2 hE rfl (d_alloc al102 H) fun a v w hR hE => ?_
    obtain ⟨q1291, rfl, H⟩ := hR
    refine s3 (d_store sz102 hE rfl rfl rfl (oneC (one_slice (Rd.slice H (Rd.own 1 rfl))).2 (oneC rfl oneN)) H rfl) fun v w hR => ?_
    have H : St z I w (Bl q1291 102 [v1290, (.int .u64 x1280.1)] :: OwnSl (cInt .i64) v1290 l1288 :: OwnSl c_api_Path u3 a3 :: r) := hR
    refine wpList_nil ?_
    refine wp_seq ?_
    refine wp_region_lit ?_
    refine s1 hE rfl (d_assign hE rfl) fun a hE => ?_
    refine wpList_nil ?_
    refine wp_seq ?_
    obtain ⟨s1326, hj1326, hm⟩ := bnd hm
    refine cut2 (fun a w => Env a 97 [(3, u3), (12, (.pointer (some (ad q1291 0)))), (13, (.int .i64 s1326))] ∧ St z I w (OwnSl c_api_Path u3 a3 :: Bl q1291 102 [v1290, (.int .u64 x1280.1)] :: ImR (cInt .i64) v1290 l1288 :: r)) ?_ ?_
    · refine wp_block ?_
      refine loopI (fun k a w => ∃ y1308 : Int, m42_l0 a3 l1288 x1280 k y1308 = some s1326 ∧ Env a 97 [(3, u3), (12, (.pointer (some (ad q1291 0)))), (13, (.int .i64 y1308))] ∧ St z I w (OwnSl c_api_Path u3 a3 :: Bl q1291 102 [v1290, (.int .u64 x1280.1)] :: ImR (cInt .i64) v1290 l1288 :: r)) ?_ k _ _ ?_
      · rintro k a w ⟨y1308, hm, hE, H⟩
        cases k with
        | zero => rw [m42_l0] at hm; cases hm
        | succ k =>
          rw [m42_l0] at hm
          refine wp_seq ?_
          refine wp_seq ?_
          obtain ⟨s1334, hj1334, hm⟩ := bnd hm
          refine cut2 (fun a w => Env a 97 [(3, u3), (12, (.pointer (some (ad q1291 0)))), (13, (.int .i64 y1308)), (49, (.bool s1334))] ∧ St z I w (OwnSl c_api_Path u3 a3 :: Bl q1291 102 [v1290, (.int .u64 x1280.1)] :: ImR (cInt .i64) v1290 l1288 :: r)) ?_ ?_
          · have hm := hj1334
            by_cases c1335 : y1308 < (a3.length : Int)
            · rw [if_pos c1335] at hm
              obtain ⟨x1336, hx1337, hm⟩ := bnd hm
              obtain ⟨x1339, hc1340, hm⟩ := bnd hm
              refine Dr.region (γ := Value) (pre := [[], [], [1], [0, 1, 2], [0, 1, 2, 3], [0, 1, 2, 3, 4], [0, 1, 2, 3, 4], [0, 1, 2, 3, 4, 5, 6], [0, 1, 2, 3, 4, 5, 6, 7], [0, 1, 2, 3, 4], [0, 1, 2, 3, 4, 5, 6, 7, 8, 9], [0, 1, 2, 3, 4, 5, 6, 7, 8, 9, 10]]) (val := [some (.int .i64 y1308), some u3, some (.int .i64 (a3.length : Int)), some (.bool (decide (y1308 < (a3.length : Int)))), some (.bool (decide (y1308 < (a3.length : Int)))), some u3, some (.int .i64 y1308), some (.pointer (some (ad (sb u3) (so u3 + (Int.toNat y1308) * c_api_Path.n)))), none, some (.agg #[v1290, (.int .u64 x1280.1)]), none, none]) (eff := [8, 10, 11]) (mask := [[], [8], [8, 10], [8, 10, 11]]) (keys := [[], [46], [48, 46], [49, 48, 46]]) (src := [[.base 13], [.base 3], [.op 1], [.op 0, .op 2], [.op 3], [.base 3, .op 4], [.base 13, .op 4], [.op 4, .op 5, .op 6], [.op 4, .op 7], [.base 12, .op 4], [.op 4, .op 9], [.op 4]]) (z := z) (ef := fun p g => ([[], [(46, (.agg #[g, (.int .u64 x1336.Cost)]))], [(48, (.bool x1339)), (46, (.agg #[g, (.int .u64 x1336.Cost)]))], [(49, (.bool x1339)), (48, (.bool x1339)), (46, (.agg #[g, (.int .u64 x1336.Cost)]))]] : List (List (Nat × Value))).getD p []) (hi := fun _ _ => I) (rs := fun p g => ([OwnSl c_api_Path u3 a3 :: Bl q1291 102 [v1290, (.int .u64 x1280.1)] :: ImR (cInt .i64) v1290 l1288 :: r, ImR (cInt .i64) g x1336.Nodes :: OwnSl c_api_Path u3 a3 :: Bl q1291 102 [v1290, (.int .u64 x1280.1)] :: ImR (cInt .i64) v1290 l1288 :: r, ImR (cInt .i64) g x1336.Nodes :: OwnSl c_api_Path u3 a3 :: Bl q1291 102 [v1290, (.int .u64 x1280.1)] :: ImR (cInt .i64) v1290 l1288 :: r, ImR (cInt .i64) g x1336.Nodes :: OwnSl c_api_Path u3 a3 :: Bl q1291 102 [v1290, (.int .u64 x1280.1)] :: ImR (cInt .i64) v1290 l1288 :: r] : List (List Asn)).getD p []) [(0, 0), (1, 0), (2, 0), (3, 0), (4, 0), (5, 0), (6, 0), (7, 0), (9, 0), (9, 1)] [(0, 8, 1), (1, 10, 2), (2, 11, 3)] [0, 1, 2, 3, 4, 5, 6, 7, 9] 3 mo hE (undef) rfl H (by kernel_rfl) (by kernel_rfl) (fun p g => by rcases p with _ | _ | _ | _ | p <;> rfl) ?_ ?_ (by kernel_rfl) (by kernel_rfl) ?_
              · exact ⟨by intro a w g hE H; obtain ⟨v1338, rfl⟩ : ∃ x, x = g := ⟨g, rfl⟩; exact Dr.is H rfl (Dr.run rfl (d_move hE rfl)),
    by intro a w g hE H; obtain ⟨v1338, rfl⟩ : ∃ x, x = g := ⟨g, rfl⟩; exact Dr.is H rfl (Dr.run rfl (d_move hE rfl)),
    by intro a w g hE H; obtain ⟨v1338, rfl⟩ : ∃ x, x = g := ⟨g, rfl⟩; exact Dr.is H rfl (Dr.run rfl (d_lenS Try.underlying74 hE rfl H (Rd.own 0 rfl))),
    by intro a w g hE H; obtain ⟨v1338, rfl⟩ : ∃ x, x = g := ⟨g, rfl⟩; exact Dr.is H rfl (Dr.run rfl (d_lss hE rfl rfl)),
    by intro a w g hE H; obtain ⟨v1338, rfl⟩ : ∃ x, x = g := ⟨g, rfl⟩; exact Dr.is H rfl (Dr.run rfl (d_move hE rfl)),
    by intro a w g hE H; obtain ⟨v1338, rfl⟩ : ∃ x, x = g := ⟨g, rfl⟩; exact Dr.is H rfl (Dr.rG rfl hE rfl rfl (decide_eq_true c1335) (d_move hE rfl)),
    by intro a w g hE H; obtain ⟨v1338, rfl⟩ : ∃ x, x = g := ⟨g, rfl⟩; exact Dr.is H rfl (Dr.rG rfl hE rfl rfl (decide_eq_true c1335) (d_move hE rfl)),
    by intro a w g hE H; obtain ⟨v1338, rfl⟩ : ∃ x, x = g := ⟨g, rfl⟩; exact Dr.is H rfl (Dr.rG rfl hE rfl rfl (decide_eq_true c1335) (d_indexS sl74 hE rfl rfl H (Rd.own 0 rfl) hx1337)),
    by intro a w g hE H; obtain ⟨v1338, rfl⟩ : ∃ x, x = g := ⟨g, rfl⟩; exact Dr.is H rfl (Dr.rG rfl hE rfl rfl (decide_eq_true c1335) (d_loadA ag102 hE rfl H 1 rfl rfl)),
    by intro a w g hE H; obtain ⟨v1338, rfl⟩ : ∃ x, x = g := ⟨g, rfl⟩; exact Dr.is H rfl (Dr.rG rfl hE rfl rfl (decide_eq_true c1335) (d_loadA ag102 hE rfl H 2 rfl rfl)),
    trivial⟩
              · exact ⟨by intro a w g hE hF H; obtain ⟨v1338, rfl⟩ : ∃ x, x = g := ⟨g, rfl⟩; refine (Dr.rG rfl hE rfl rfl (decide_eq_true c1335) (d_loadSR ag102 rfl hE rfl H (Rd.own 0 rfl) hx1337)).mono fun v w hR => ?_; obtain ⟨cs_, hv_, H⟩ := hR; have hv_ := hv_.symm; subst hv_; obtain ⟨v1338, he_, H'⟩ := enc_api_Path H; clear H; subst he_; have H := H'; have H : St z I w (ImR (cInt .i64) v1338 x1336.Nodes :: OwnSl c_api_Path u3 a3 :: Bl q1291 102 [v1290, (.int .u64 x1280.1)] :: ImR (cInt .i64) v1290 l1288 :: r) := H; exact ⟨v1338, H, Dr.lkSub ⟨rfl, trivial⟩⟩,
    by intro a w g hE hF H; obtain ⟨v1338, rfl⟩ : ∃ x, x = g := ⟨g, rfl⟩; have hE := Dr.env_both hE hF; refine (Dr.rG rfl hE rfl rfl (decide_eq_true c1335) (d_call c96 hE rfl (f96_ok k x1336 (⟨l1288, x1280.1⟩ : S_api_Path) hc1340 (Imm.im 0 rfl) (Imm.im 3 rfl) H))).mono fun v w hR => ?_; obtain ⟨hv_, H⟩ := hR; have hv_ := hv_.symm; subst hv_; exact ⟨v1338, H, Dr.lkSub ⟨rfl, rfl, trivial⟩⟩,
    by intro a w g hE hF H; obtain ⟨v1338, rfl⟩ : ∃ x, x = g := ⟨g, rfl⟩; have hE := Dr.env_both hE hF; refine (Dr.run rfl (d_pT hE rfl (decide_eq_true c1335) rfl)).mono fun v w' hR => ?_; obtain ⟨hv_, rfl⟩ := hR; have hv_ := hv_.symm; subst hv_; exact ⟨v1338, H, Dr.lkSub ⟨rfl, rfl, rfl, trivial⟩⟩,
    trivial⟩
              · intro a w g hE H
                obtain ⟨v1338, rfl⟩ : ∃ x, x = g := ⟨g, rfl⟩
                have H : St z I w (ImR (cInt .i64) v1338 x1336.Nodes :: OwnSl c_api_Path u3 a3 :: Bl q1291 102 [v1290, (.int .u64 x1280.1)] :: ImR (cInt .i64) v1290 l1288 :: r) := H
                cases hm
                have H := St.get H 3 rfl
                have H := St.get H 3 rfl
                have H := St.get H 3 rfl
                have H := St.del H 3
                exact ⟨hE.sub ⟨rfl, rfl, rfl, rfl, trivial⟩, H⟩
            · rw [if_neg c1335] at hm
              refine Dr.region (γ := Unit) (pre := [[], [], [1], [0, 1, 2], [0, 1, 2, 3], [0, 1, 2, 3, 4], [0, 1, 2, 3, 4], [0, 1, 2, 3, 4, 5, 6], [0, 1, 2, 3, 4, 5, 6, 7], [0, 1, 2, 3, 4], [0, 1, 2, 3, 4, 5, 6, 7, 8, 9], [0, 1, 2, 3, 4, 5, 6, 7, 8, 9, 10]]) (val := [some (.int .i64 y1308), some u3, some (.int .i64 (a3.length : Int)), some (.bool (decide (y1308 < (a3.length : Int)))), some (.bool (decide (y1308 < (a3.length : Int)))), some undef, some undef, some undef, some undef, some undef, some undef, some (.bool false)]) (eff := []) (mask := [[]]) (keys := [[]]) (src := [[.base 13], [.base 3], [.op 1], [.op 0, .op 2], [.op 3], [.base 3, .op 4], [.base 13, .op 4], [.op 4, .op 5, .op 6], [.op 4, .op 7], [.base 12, .op 4], [.op 4, .op 8, .op 9], [.op 4, .op 10]]) (z := z) (ef := fun p g => ([[]] : List (List (Nat × Value))).getD p []) (hi := fun _ _ => I) (rs := fun p g => ([OwnSl c_api_Path u3 a3 :: Bl q1291 102 [v1290, (.int .u64 x1280.1)] :: ImR (cInt .i64) v1290 l1288 :: r] : List (List Asn)).getD p []) [(0, 0), (1, 0), (2, 0), (3, 0), (4, 0), (5, 0), (6, 0), (7, 0), (8, 0), (9, 0), (10, 0), (11, 0)] [] [0, 1, 2, 3, 4, 5, 6, 7, 8, 9, 10, 11] 0 mo hE () rfl H (by kernel_rfl) (by kernel_rfl) (fun p g => by cases p <;> rfl) ?_ ?_ (by kernel_rfl) (by kernel_rfl) ?_
              · exact ⟨by intro a w g hE H; exact Dr.is H rfl (Dr.run rfl (d_move hE rfl)),
    by intro a w g hE H; exact Dr.is H rfl (Dr.run rfl (d_move hE rfl)),
    by intro a w g hE H; exact Dr.is H rfl (Dr.run rfl (d_lenS Try.underlying74 hE rfl H (Rd.own 0 rfl))),
    by intro a w g hE H; exact Dr.is H rfl (Dr.run rfl (d_lss hE rfl rfl)),
    by intro a w g hE H; exact Dr.is H rfl (Dr.run rfl (d_move hE rfl)),
    by intro a w g hE H; exact Dr.is H rfl (Dr.pG rfl hE rfl rfl (decide_eq_false c1335) ⟨rfl, rfl⟩),
    by intro a w g hE H; exact Dr.is H rfl (Dr.pG rfl hE rfl rfl (decide_eq_false c1335) ⟨rfl, rfl⟩),
    by intro a w g hE H; exact Dr.is H rfl (Dr.pG rfl hE rfl rfl (decide_eq_false c1335) ⟨rfl, rfl⟩),
    by intro a w g hE H; exact Dr.is H rfl (Dr.pG rfl hE rfl rfl (decide_eq_false c1335) ⟨rfl, rfl⟩),
    by intro a w g hE H; exact Dr.is H rfl (Dr.pG rfl hE rfl rfl (decide_eq_false c1335) ⟨rfl, rfl⟩),
    by intro a w g hE H; exact Dr.is H rfl (Dr.pG rfl hE rfl rfl (decide_eq_false c1335) ⟨rfl, rfl⟩),
    by intro a w g hE H; exact Dr.is H rfl (Dr.run rfl (d_pF hE rfl (decide_eq_false c1335) rfl)),
    trivial⟩
              · trivial
              · intro a w g hE H
                have H : St z I w (OwnSl c_api_Path u3 a3 :: Bl q1291 102 [v1290, (.int .u64 x1280.1)] :: ImR (cInt .i64) v1290 l1288 :: r) := H
                cases hm
                exact ⟨hE.sub ⟨rfl, rfl, rfl, rfl, trivial⟩, H⟩
          · rintro a w ⟨hE, H⟩
            by_cases c1342 : s1334 = true
            · rw [if_pos c1342] at hm
              refine cT hE rfl c1342 ?_
              refine wp_skip ?_
              refine wp_block ?_
              refine wp_region_lit ?_
              refine s1 hE rfl (d_move hE rfl) fun a hE => ?_
              refine s1 hE rfl (d_add hE rfl rfl) fun a hE => ?_
              refine s1 hE rfl (d_assign hE rfl) fun a hE => ?_
              refine wpList_nil ?_
              exact ⟨k, Nat.lt_succ_self k, IntKind.i64.wrap (y1308 + 1), hm, hE.sub ⟨rfl, rfl, rfl, trivial⟩, H⟩
            · rw [if_neg c1342] at hm
              refine cF hE rfl (b_f c1342) ?_
              refine wp_exit ?_
              cases hm
              exact ⟨hE.sub ⟨rfl, rfl, rfl, trivial⟩, H⟩
      · have H := St.get H 1 rfl
        have H := St.give H
        have H := St.get H 1 rfl
        have H := St.get H 2 rfl
        exact ⟨0, hj1326, hE.sub ⟨rfl, rfl, rfl, trivial⟩, H⟩
    · rintro a w ⟨hE, H⟩
      refine wp_seq ?_
      refine wp_region_lit ?_
      refine s2 hE rfl (d_lit (c := c_api_Path) (xs := []) hE rfl (lit74_0_) rfl rfl (fun J h iJ s => rows0) H) fun a v w hR hE => ?_
      obtain ⟨v1349, rfl⟩ : ∃ x, x = v := ⟨v, rfl⟩
      have H : St z I w (OwnSl c_api_Path v1349 [] :: OwnSl c_api_Path u3 a3 :: Bl q1291 102 [v1290, (.int .u64 x1280.1)] :: ImR (cInt .i64) v1290 l1288 :: r) := hR
      refine s1 hE rfl (d_move hE rfl) fun a hE => ?_
      refine s1 hE rfl (d_move hE rfl) fun a hE => ?_
      obtain ⟨l1350, hl1351, hm⟩ := bnd hm
      refine s1 hE rfl (d_sliceR (c := c_api_Path) (lo := s1326) (hi := (a3.length : Int)) sl74 hE rfl (.inl ⟨_, rfl, rfl⟩) (.inr ⟨rfl, rfl⟩) hl1351 H (Rd.own 1 rfl)) fun a hE => ?_
      obtain ⟨l1352, ha1353, hm⟩ := bnd hm
      have H : St z I w (OwnSl c_api_Path v1349 [] :: OwnSl c_api_Path u3 a3 :: Bl q1291 102 [v1290, (.int .u64 x1280.1)] :: ImR (cInt .i64) v1290 l1288 :: r) := H
      refine s2 hE rfl (d_appendS (lim := 4398046511104) el74 (by decide) (by decide) hE rfl rfl H (Rd.cut hl1351 (Rd.own 1 rfl)) ha1353) fun a v w hR hE => ?_
      obtain ⟨v1354, rfl⟩ : ∃ x, x = v := ⟨v, rfl⟩
      have H : St z I w (OwnSl c_api_Path v1354 l1352 :: OwnSl c_api_Path u3 a3 :: Bl q1291 102 [v1290, (.int .u64 x1280.1)] :: ImR (cInt .i64) v1290 l1288 :: r) := hR
      refine s1 hE rfl (d_assign hE rfl) fun a hE => ?_
      refine wpList_nil ?_
      refine wp_seq ?_
      obtain ⟨l1369, hl1370, hm⟩ := bnd hm
      obtain ⟨l1371, ha1372, hm⟩ := bnd hm
      obtain ⟨l1375, ha1376, hm⟩ := bnd hm
      obtain ⟨l1378, ha1379, hm⟩ := bnd hm
      refine Dr.region (γ := Value × Value × Value × Value × Value) (pre := [[], [], [], [1, 2], [0, 1, 2, 3], [], [5], [0, 1, 2, 3, 4, 5, 6], [], [0, 1, 2, 3, 4, 5, 6, 7, 8], [0, 1, 2, 3, 4, 5, 6, 7, 8, 9]]) (val := [none, some u3, some (.int .i64 s1326), some (slv 2 u3 0 s1326), none, some (.agg #[v1290, (.int .u64 x1280.1)]), none, none, some v1354, none, none]) (eff := [0, 4, 6, 7, 9, 10]) (mask := [[], [0], [6], [0, 4], [0, 6], [0, 4, 6], [0, 4, 6, 7], [0, 4, 6, 7, 9], [0, 4, 6, 7, 9, 10]]) (keys := [[], [57], [63], [61, 57], [63, 57], [63, 61, 57], [64, 63, 61, 57], [66, 64, 63, 61, 57], [8, 66, 64, 63, 61, 57]]) (src := [[], [.base 3], [.base 13], [.op 1, .op 2], [.op 3], [.base 12], [.op 5], [], [.base 14], [.op 8], []]) (z := z) (ef := fun p g => ([[], [(57, g.1)], [(63, g.2.2.1)], [(61, g.2.1), (57, g.1)], [(63, g.2.2.1), (57, g.1)], [(63, g.2.2.1), (61, g.2.1), (57, g.1)], [(64, g.2.2.2.1), (63, g.2.2.1), (61, g.2.1), (57, g.1)], [(66, g.2.2.2.2), (64, g.2.2.2.1), (63, g.2.2.1), (61, g.2.1), (57, g.1)], [(8, g.2.2.2.2), (66, g.2.2.2.2), (64, g.2.2.2.1), (63, g.2.2.1), (61, g.2.1), (57, g.1)]] : List (List (Nat × Value))).getD p []) (hi := fun _ _ => I) (rs := fun p g => ([OwnSl c_api_Path v1354 l1352 :: OwnSl c_api_Path u3 a3 :: Bl q1291 102 [v1290, (.int .u64 x1280.1)] :: ImR (cInt .i64) v1290 l1288 :: r, OwnSl c_api_Path g.1 [] :: OwnSl c_api_Path v1354 l1352 :: OwnSl c_api_Path u3 a3 :: Bl q1291 102 [v1290, (.int .u64 x1280.1)] :: ImR (cInt .i64) v1290 l1288 :: r, OwnSl c_api_Path g.2.2.1 ([(⟨l1288, x1280.1⟩ : S_api_Path)]) :: OwnSl c_api_Path v1354 l1352 :: OwnSl c_api_Path u3 a3 :: Bl q1291 102 [v1290, (.int .u64 x1280.1)] :: ImR (cInt .i64) v1290 l1288 :: r, OwnSl c_api_Path g.2.1 l1371 :: OwnSl c_api_Path v1354 l1352 :: OwnSl c_api_Path u3 a3 :: Bl q1291 102 [v1290, (.int .u64 x1280.1)] :: ImR (cInt .i64) v1290 l1288 :: r, OwnSl c_api_Path g.2.2.1 ([(⟨l1288, x1280.1⟩ : S_api_Path)]) :: OwnSl c_api_Path g.1 [] :: OwnSl c_api_Path v1354 l1352 :: OwnSl c_api_Path u3 a3 :: Bl q1291 102 [v1290, (.int .u64 x1280.1)] :: ImR (cInt .i64) v1290 l1288 :: r, OwnSl c_api_Path g.2.2.1 ([(⟨l1288, x1280.1⟩ : S_api_Path)]) :: OwnSl c_api_Path g.2.1 l1371 :: OwnSl c_api_Path v1354 l1352 :: OwnSl c_api_Path u3 a3 :: Bl q1291 102 [v1290, (.int .u64 x1280.1)] :: ImR (cInt .i64) v1290 l1288 :: r, OwnSl c_api_Path g.2.2.2.1 l1375 :: OwnSl c_api_Path v1354 l1352 :: OwnSl c_api_Path u3 a3 :: Bl q1291 102 [v1290, (.int .u64 x1280.1)] :: ImR (cInt .i64) v1290 l1288 :: r, OwnSl c_api_Path g.2.2.2.2 l1378 :: OwnSl c_api_Path u3 a3 :: Bl q1291 102 [v1290, (.int .u64 x1280.1)] :: ImR (cInt .i64) v1290 l1288 :: r, OwnSl c_api_Path g.2.2.2.2 l1378 :: OwnSl c_api_Path u3 a3 :: Bl q1291 102 [v1290, (.int .u64 x1280.1)] :: ImR (cInt .i64) v1290 l1288 :: r] : List (List Asn)).getD p []) [(1, 0), (2, 0), (3, 0), (5, 0), (8, 0), (1, 1), (2, 1), (3, 1), (5, 1), (8, 1), (1, 2), (2, 2), (3, 2), (8, 2), (5, 3), (8, 3), (1, 4), (2, 4), (3, 4), (8, 4), (8, 5), (8, 6)] [(0, 0, 1), (0, 6, 2), (1, 4, 3), (1, 6, 4), (2, 0, 4), (3, 6, 5), (4, 4, 5), (5, 7, 6), (6, 9, 7), (7, 10, 8)] [1, 2, 3, 5, 8] 8 mo hE (undef, undef, undef, undef, undef) rfl H (by kernel_rfl) (by kernel_rfl) (fun p g => by rcases p with _ | _ | _ | _ | _ | _ | _ | _ | _ | p <;> rfl) ?_ ?_ (by kernel_rfl) (by kernel_rfl) ?_
      · exact ⟨by intro a w g hE H; obtain ⟨v1368, v1373, v1374, v1377, v1380⟩ := g; exact Dr.is H rfl (Dr.run rfl (d_move hE rfl)),
    by intro a w g hE H; obtain ⟨v1368, v1373, v1374, v1377, v1380⟩ := g; exact Dr.is H rfl (Dr.run rfl (d_move hE rfl)),
    by intro a w g hE H; obtain ⟨v1368, v1373, v1374, v1377, v1380⟩ := g; exact Dr.is H rfl (Dr.run rfl (d_sliceR (c := c_api_Path) (lo := 0) (hi := s1326) sl74 hE rfl (.inr ⟨rfl, rfl⟩) (.inl ⟨_, rfl, rfl⟩) hl1370 H (Rd.own 1 rfl))),
    by intro a w g hE H; obtain ⟨v1368, v1373, v1374, v1377, v1380⟩ := g; exact Dr.is H rfl (Dr.run rfl (d_loadA ag102 hE rfl H 2 rfl rfl)),
    by intro a w g hE H; obtain ⟨v1368, v1373, v1374, v1377, v1380⟩ := g; exact Dr.is H rfl (Dr.run rfl (d_move hE rfl)),
    by intro a w g hE H; obtain ⟨v1368, v1373, v1374, v1377, v1380⟩ := g; exact Dr.is H rfl (Dr.run rfl (d_move hE rfl)),
    by intro a w g hE H; obtain ⟨v1368, v1373, v1374, v1377, v1380⟩ := g; exact Dr.is H rfl (Dr.run rfl (d_move hE rfl)),
    by intro a w g hE H; obtain ⟨v1368, v1373, v1374, v1377, v1380⟩ := g; exact Dr.is H rfl (Dr.run rfl (d_sliceR (c := c_api_Path) (lo := 0) (hi := s1326) sl74 hE rfl (.inr ⟨rfl, rfl⟩) (.inl ⟨_, rfl, rfl⟩) hl1370 H (Rd.own 2 rfl))),
    by intro a w g hE H; obtain ⟨v1368, v1373, v1374, v1377, v1380⟩ := g; exact Dr.is H rfl (Dr.run rfl (d_loadA ag102 hE rfl H 3 rfl rfl)),
    by intro a w g hE H; obtain ⟨v1368, v1373, v1374, v1377, v1380⟩ := g; exact Dr.is H rfl (Dr.run rfl (d_move hE rfl)),
    by intro a w g hE H; obtain ⟨v1368, v1373, v1374, v1377, v1380⟩ := g; exact Dr.is H rfl (Dr.run rfl (d_move hE rfl)),
    by intro a w g hE H; obtain ⟨v1368, v1373, v1374, v1377, v1380⟩ := g; exact Dr.is H rfl (Dr.run rfl (d_move hE rfl)),
    by intro a w g hE H; obtain ⟨v1368, v1373, v1374, v1377, v1380⟩ := g; exact Dr.is H rfl (Dr.run rfl (d_sliceR (c := c_api_Path) (lo := 0) (hi := s1326) sl74 hE rfl (.inr ⟨rfl, rfl⟩) (.inl ⟨_, rfl, rfl⟩) hl1370 H (Rd.own 2 rfl))),
    by intro a w g hE H; obtain ⟨v1368, v1373, v1374, v1377, v1380⟩ := g; exact Dr.is H rfl (Dr.run rfl (d_move hE rfl)),
    by intro a w g hE H; obtain ⟨v1368, v1373, v1374, v1377, v1380⟩ := g; exact Dr.is H rfl (Dr.run rfl (d_loadA ag102 hE rfl H 3 rfl rfl)),
    by intro a w g hE H; obtain ⟨v1368, v1373, v1374, v1377, v1380⟩ := g; exact Dr.is H rfl (Dr.run rfl (d_move hE rfl)),
    by intro a w g hE H; obtain ⟨v1368, v1373, v1374, v1377, v1380⟩ := g; exact Dr.is H rfl (Dr.run rfl (d_move hE rfl)),
    by intro a w g hE H; obtain ⟨v1368, v1373, v1374, v1377, v1380⟩ := g; exact Dr.is H rfl (Dr.run rfl (d_move hE rfl)),
    by intro a w g hE H; obtain ⟨v1368, v1373, v1374, v1377, v1380⟩ := g; exact Dr.is H rfl (Dr.run rfl (d_sliceR (c := c_api_Path) (lo := 0) (hi := s1326) sl74 hE rfl (.inr ⟨rfl, rfl⟩) (.inl ⟨_, rfl, rfl⟩) hl1370 H (Rd.own 3 rfl))),
    by intro a w g hE H; obtain ⟨v1368, v1373, v1374, v1377, v1380⟩ := g; exact Dr.is H rfl (Dr.run rfl (d_move hE rfl)),
    by intro a w g hE H; obtain ⟨v1368, v1373, v1374, v1377, v1380⟩ := g; exact Dr.is H rfl (Dr.run rfl (d_move hE rfl)),
    by intro a w g hE H; obtain ⟨v1368, v1373, v1374, v1377, v1380⟩ := g; exact Dr.is H rfl (Dr.run rfl (d_move hE rfl)),
    trivial⟩
      · exact ⟨by intro a w g hE hF H; obtain ⟨v1368, v1373, v1374, v1377, v1380⟩ := g; refine (Dr.run rfl (d_lit (c := c_api_Path) (xs := []) hE rfl (lit74_0_) rfl rfl (fun J h iJ s => rows0) H)).mono fun v w hR => ?_; obtain ⟨v1368, rfl⟩ : ∃ x, x = v := ⟨v, rfl⟩; have H : St z I w (OwnSl c_api_Path v1368 [] :: OwnSl c_api_Path v1354 l1352 :: OwnSl c_api_Path u3 a3 :: Bl q1291 102 [v1290, (.int .u64 x1280.1)] :: ImR (cInt .i64) v1290 l1288 :: r) := hR; exact ⟨(v1368, v1373, v1374, v1377, v1380), H, Dr.lkSub ⟨rfl, trivial⟩⟩,
    by intro a w g hE hF H; obtain ⟨v1368, v1373, v1374, v1377, v1380⟩ := g; refine (Dr.run rfl (d_lit (c := c_api_Path) (xs := [(⟨l1288, x1280.1⟩ : S_api_Path)]) hE rfl (lit74_1_v_v _ _) rfl rfl (fun J h iJ s => rowsC (cs := [v1290, (.int .u64 x1280.1)]) ⟨_, rfl, (Sat.im s 3 rfl)⟩ (rows0)) H)).mono fun v w hR => ?_; obtain ⟨v1374, rfl⟩ : ∃ x, x = v := ⟨v, rfl⟩; have H : St z I w (OwnSl c_api_Path v1374 ([(⟨l1288, x1280.1⟩ : S_api_Path)]) :: OwnSl c_api_Path v1354 l1352 :: OwnSl c_api_Path u3 a3 :: Bl q1291 102 [v1290, (.int .u64 x1280.1)] :: ImR (cInt .i64) v1290 l1288 :: r) := hR; exact ⟨(v1368, v1373, v1374, v1377, v1380), H, Dr.lkSub ⟨rfl, trivial⟩⟩,
    by intro a w g hE hF H; obtain ⟨v1368, v1373, v1374, v1377, v1380⟩ := g; have hE := Dr.env_both hE hF; have H : St z I w (OwnSl c_api_Path v1368 [] :: OwnSl c_api_Path v1354 l1352 :: OwnSl c_api_Path u3 a3 :: Bl q1291 102 [v1290, (.int .u64 x1280.1)] :: ImR (cInt .i64) v1290 l1288 :: r) := H; refine (Dr.run rfl (d_appendS (lim := 4398046511104) el74 (by decide) (by decide) hE rfl rfl H (Rd.cut hl1370 (Rd.own 2 rfl)) ha1372)).mono fun v w hR => ?_; obtain ⟨v1373, rfl⟩ : ∃ x, x = v := ⟨v, rfl⟩; have H : St z I w (OwnSl c_api_Path v1373 l1371 :: OwnSl c_api_Path v1354 l1352 :: OwnSl c_api_Path u3 a3 :: Bl q1291 102 [v1290, (.int .u64 x1280.1)] :: ImR (cInt .i64) v1290 l1288 :: r) := hR; exact ⟨(v1368, v1373, v1374, v1377, v1380), H, Dr.lkSub ⟨rfl, rfl, trivial⟩⟩,
    by intro a w g hE hF H; obtain ⟨v1368, v1373, v1374, v1377, v1380⟩ := g; refine (Dr.run rfl (d_lit (c := c_api_Path) (xs := [(⟨l1288, x1280.1⟩ : S_api_Path)]) hE rfl (lit74_1_v_v _ _) rfl rfl (fun J h iJ s => rowsC (cs := [v1290, (.int .u64 x1280.1)]) ⟨_, rfl, (Sat.im s 4 rfl)⟩ (rows0)) H)).mono fun v w hR => ?_; obtain ⟨v1374, rfl⟩ : ∃ x, x = v := ⟨v, rfl⟩; have H : St z I w (OwnSl c_api_Path v1374 ([(⟨l1288, x1280.1⟩ : S_api_Path)]) :: OwnSl c_api_Path v1368 [] :: OwnSl c_api_Path v1354 l1352 :: OwnSl c_api_Path u3 a3 :: Bl q1291 102 [v1290, (.int .u64 x1280.1)] :: ImR (cInt .i64) v1290 l1288 :: r) := hR; exact ⟨(v1368, v1373, v1374, v1377, v1380), H, Dr.lkSub ⟨rfl, rfl, trivial⟩⟩,
    by intro a w g hE hF H; obtain ⟨v1368, v1373, v1374, v1377, v1380⟩ := g; refine (Dr.run rfl (d_lit (c := c_api_Path) (xs := []) hE rfl (lit74_0_) rfl rfl (fun J h iJ s => rows0) H)).mono fun v w hR => ?_; obtain ⟨v1368, rfl⟩ : ∃ x, x = v := ⟨v, rfl⟩; have H : St z I w (OwnSl c_api_Path v1368 [] :: OwnSl c_api_Path v1374 ([(⟨l1288, x1280.1⟩ : S_api_Path)]) :: OwnSl c_api_Path v1354 l1352 :: OwnSl c_api_Path u3 a3 :: Bl q1291 102 [v1290, (.int .u64 x1280.1)] :: ImR (cInt .i64) v1290 l1288 :: r) := hR; have H := St.get H 5 rfl; have H := St.get H 5 rfl; have H := St.get H 5 rfl; have H := St.get H 5 rfl; have H := St.get H 4 rfl; have H := St.get H 5 rfl; exact ⟨(v1368, v1373, v1374, v1377, v1380), H, Dr.lkSub ⟨rfl, rfl, trivial⟩⟩,
    by intro a w g hE hF H; obtain ⟨v1368, v1373, v1374, v1377, v1380⟩ := g; refine (Dr.run rfl (d_lit (c := c_api_Path) (xs := [(⟨l1288, x1280.1⟩ : S_api_Path)]) hE rfl (lit74_1_v_v _ _) rfl rfl (fun J h iJ s => rowsC (cs := [v1290, (.int .u64 x1280.1)]) ⟨_, rfl, (Sat.im s 4 rfl)⟩ (rows0)) H)).mono fun v w hR => ?_; obtain ⟨v1374, rfl⟩ : ∃ x, x = v := ⟨v, rfl⟩; have H : St z I w (OwnSl c_api_Path v1374 ([(⟨l1288, x1280.1⟩ : S_api_Path)]) :: OwnSl c_api_Path v1373 l1371 :: OwnSl c_api_Path v1354 l1352 :: OwnSl c_api_Path u3 a3 :: Bl q1291 102 [v1290, (.int .u64 x1280.1)] :: ImR (cInt .i64) v1290 l1288 :: r) := hR; exact ⟨(v1368, v1373, v1374, v1377, v1380), H, Dr.lkSub ⟨rfl, rfl, rfl, trivial⟩⟩,
    by intro a w g hE hF H; obtain ⟨v1368, v1373, v1374, v1377, v1380⟩ := g; have hE := Dr.env_both hE hF; have H := St.get H 1 rfl; have H : St z I w (OwnSl c_api_Path v1368 [] :: OwnSl c_api_Path v1374 ([(⟨l1288, x1280.1⟩ : S_api_Path)]) :: OwnSl c_api_Path v1354 l1352 :: OwnSl c_api_Path u3 a3 :: Bl q1291 102 [v1290, (.int .u64 x1280.1)] :: ImR (cInt .i64) v1290 l1288 :: r) := H; refine (Dr.run rfl (d_appendS (lim := 4398046511104) el74 (by decide) (by decide) hE rfl rfl H (Rd.cut hl1370 (Rd.own 3 rfl)) ha1372)).mono fun v w hR => ?_; obtain ⟨v1373, rfl⟩ : ∃ x, x = v := ⟨v, rfl⟩; have H : St z I w (OwnSl c_api_Path v1373 l1371 :: OwnSl c_api_Path v1374 ([(⟨l1288, x1280.1⟩ : S_api_Path)]) :: OwnSl c_api_Path v1354 l1352 :: OwnSl c_api_Path u3 a3 :: Bl q1291 102 [v1290, (.int .u64 x1280.1)] :: ImR (cInt .i64) v1290 l1288 :: r) := hR; have H := St.get H 5 rfl; have H := St.get H 5 rfl; have H := St.get H 5 rfl; have H := St.get H 5 rfl; have H := St.get H 4 rfl; have H := St.get H 5 rfl; exact ⟨(v1368, v1373, v1374, v1377, v1380), H, Dr.lkSub ⟨rfl, rfl, rfl, trivial⟩⟩,
    by intro a w g hE hF H; obtain ⟨v1368, v1373, v1374, v1377, v1380⟩ := g; have hE := Dr.env_both hE hF; have H := St.get H 1 rfl; have H : St z I w (OwnSl c_api_Path v1373 l1371 :: OwnSl c_api_Path v1374 ([(⟨l1288, x1280.1⟩ : S_api_Path)]) :: OwnSl c_api_Path v1354 l1352 :: OwnSl c_api_Path u3 a3 :: Bl q1291 102 [v1290, (.int .u64 x1280.1)] :: ImR (cInt .i64) v1290 l1288 :: r) := H; refine (Dr.run rfl (d_appendO (lim := 4398046511104) el74 (by decide) (by decide) hE rfl rfl H ha1376)).mono fun v w hR => ?_; obtain ⟨v1377, rfl⟩ : ∃ x, x = v := ⟨v, rfl⟩; have H : St z I w (OwnSl c_api_Path v1377 l1375 :: OwnSl c_api_Path v1354 l1352 :: OwnSl c_api_Path u3 a3 :: Bl q1291 102 [v1290, (.int .u64 x1280.1)] :: ImR (cInt .i64) v1290 l1288 :: r) := hR; exact ⟨(v1368, v1373, v1374, v1377, v1380), H, Dr.lkSub ⟨rfl, rfl, rfl, rfl, trivial⟩⟩,
    by intro a w g hE hF H; obtain ⟨v1368, v1373, v1374, v1377, v1380⟩ := g; have hE := Dr.env_both hE hF; have H := St.get H 1 rfl; have H := St.get H 1 rfl; have H : St z I w (OwnSl c_api_Path v1377 l1375 :: OwnSl c_api_Path v1354 l1352 :: OwnSl c_api_Path u3 a3 :: Bl q1291 102 [v1290, (.int .u64 x1280.1)] :: ImR (cInt .i64) v1290 l1288 :: r) := H; refine (Dr.run rfl (d_appendO (lim := 4398046511104) el74 (by decide) (by decide) hE rfl rfl H ha1379)).mono fun v w hR => ?_; obtain ⟨v1380, rfl⟩ : ∃ x, x = v := ⟨v, rfl⟩; have H : St z I w (OwnSl c_api_Path v1380 l1378 :: OwnSl c_api_Path u3 a3 :: Bl q1291 102 [v1290, (.int .u64 x1280.1)] :: ImR (cInt .i64) v1290 l1288 :: r) := hR; exact ⟨(v1368, v1373, v1374, v1377, v1380), H, Dr.lkSub ⟨rfl, rfl, rfl, rfl, rfl, trivial⟩⟩,
    by intro a w g hE hF H; obtain ⟨v1368, v1373, v1374, v1377, v1380⟩ := g; have hE := Dr.env_both hE hF; refine (Dr.run rfl (d_assign hE rfl)).mono fun v w' hR => ?_; obtain ⟨hv_, rfl⟩ := hR; have hv_ := hv_.symm; subst hv_; exact ⟨(v1368, v1373, v1374, v1377, v1380), H, Dr.lkSub ⟨rfl, rfl, rfl, rfl, rfl, rfl, trivial⟩⟩,
    trivial⟩
      · intro a w g hE H
        obtain ⟨v1368, v1373, v1374, v1377, v1380⟩ := g
        have H : St z I w (OwnSl c_api_Path v1380 l1378 :: OwnSl c_api_Path u3 a3 :: Bl q1291 102 [v1290, (.int .u64 x1280.1)] :: ImR (cInt .i64) v1290 l1288 :: r) := H
        refine wp_ret ?_
        cases hm
        have H := St.del H 1
        have H := St.del H 1
        have H := St.del H 1
        exact ret1 rfl hE rfl ⟨_, rfl, v1380, rfl, H⟩
  · rw [if_neg c1277] at hm
    refine cF hE rfl (decide_eq_false c1277) ?_
    refine wp_skip ?_
    refine wp_seq ?_
    refine wp_seq ?_
    refine wp_region_lit ?_
    refine s1 hE rfl (d_assign hE rfl) fun a hE => ?_
    refine wpList_nil ?_
    obtain ⟨s1642, hj1642, hm⟩ := bnd hm
    refine cut2 (fun a w => ∃ v1640 : Value, Env a 97 [(3, v1640)] ∧ St z I w (OwnSl c_api_Path v1640 s1642 :: r)) ?_ ?_
    · refine wp_block ?_
      refine loopI (fun k a w => ∃ l1510 : List S_api_Path, ∃ y1511 : Int, m42_l1 F_ a0 a1 a2 x1171 k l1510 y1511 = some s1642 ∧ ∃ v1509 : Value, Env a 97 [(0, u0), (1, u1), (2, (.int .i64 a2)), (3, v1509), (9, (.int .i64 x1171)), (15, (.int .i64 y1511))] ∧ St z I w (OwnSl c_api_Path v1509 l1510 :: r)) ?_ k _ _ ?_
      · rintro k a w ⟨l1510, y1511, hm, v1509, hE, H⟩
        cases k with
        | zero => rw [m42_l1] at hm; cases hm
        | succ k =>
          rw [m42_l1] at hm
          refine wp_seq ?_
          refine wp_seq ?_
          refine wp_region_lit ?_
          refine s1 hE rfl (d_move hE rfl) fun a hE => ?_
          refine s1 hE rfl (d_leq hE rfl rfl) fun a hE => ?_
          refine wpList_nil ?_
          by_cases c1644 : y1511 ≤ 64
          · rw [if_pos c1644] at hm
            refine cT hE rfl (decide_eq_true c1644) ?_
            refine wp_skip ?_
            refine wp_seq ?_
            refine wp_block ?_
            refine wp_seq ?_
            refine wp_region_lit ?_
            refine s1 hE rfl (d_move hE rfl) fun a hE => ?_
            refine s1 hE rfl (d_move hE rfl) fun a hE => ?_
            refine s1 hE rfl (d_move hE rfl) fun a hE => ?_
            refine s2 hE rfl (d_lit (c := (cInt .i64)) (xs := [x1171, y1511]) hE rfl (lit51_2 _ _) rfl rfl (fun J h iJ s => rowsC (cs := [(.int .i64 x1171)]) rfl (rowsC (cs := [(.int .i64 y1511)]) rfl (rows0))) H) fun a v w hR hE => ?_
            obtain ⟨v1711, rfl⟩ : ∃ x, x = v := ⟨v, rfl⟩
            have H : St z I w (OwnSl (cInt .i64) v1711 ([x1171, y1511]) :: OwnSl c_api_Path v1509 l1510 :: r) := hR
            obtain ⟨x1712, hc1713, hm⟩ := bnd hm
            refine s2 hE rfl (d_call c95 hE rfl (f95_ok k a0 ([x1171, y1511]) hc1713 (Rd.cons (Rd.cons hr0)) (Rd.own 0 rfl) H)) fun a v w hR hE => ?_
            obtain ⟨hv_, H⟩ := hR
            have hv_ := hv_.symm
            subst hv_
            refine s1 hE rfl (d_move hE rfl) fun a hE => ?_
            refine s1 hE rfl (d_extract hE rfl rfl) fun a hE => ?_
            refine s1 hE rfl (d_extract hE rfl rfl) fun a hE => ?_
            refine s1 hE rfl (d_assign hE rfl) fun a hE => ?_
            refine s1 hE rfl (d_assign hE rfl) fun a hE => ?_
            refine wpList_nil ?_
            refine wp_seq ?_
            obtain ⟨s1718, hj1718, hm⟩ := bnd hm
            refine cut2 (fun a w => Env a 97 [(0, u0), (1, u1), (2, (.int .i64 a2)), (3, v1509), (9, (.int .i64 x1171)), (15, (.int .i64 y1511)), (85, (.bool s1718))] ∧ St z I w (OwnSl c_api_Path v1509 l1510 :: r)) ?_ ?_
            · have hm := hj1718
              refine wp_region_lit ?_
              refine s1 hE rfl (d_move hE rfl) fun a hE => ?_
              refine s1 hE rfl (d_move hE rfl) fun a hE => ?_
              by_cases c1719 : x1712.2 = true
              · rw [if_pos c1719] at hm
                refine gR hE rfl rfl c1719 ?_
                refine s1 hE rfl (d_move hE rfl) fun a hE => ?_
                refine gR hE rfl rfl c1719 ?_
                refine s1 hE rfl (d_move hE rfl) fun a hE => ?_
                refine gR hE rfl rfl c1719 ?_
                obtain ⟨x1720, hc1721, hm⟩ := bnd hm
                refine s2 hE rfl (d_call c30 hE rfl (f30_ok k a1 y1511 hc1721 (Rd.cons (Rd.cons hr1)) H)) fun a v w hR hE => ?_
                obtain ⟨hv_, H⟩ := hR
                have hv_ := hv_.symm
                subst hv_
                refine gR hE rfl rfl c1719 ?_
                refine s1 hE rfl (d_not hE rfl) fun a hE => ?_
                refine s1 hE rfl (d_pT hE rfl c1719 rfl) fun a hE => ?_
                refine wpList_nil ?_
                cases hm
                have H := St.get H 1 rfl
                have H := St.del H 1
                exact ⟨hE.sub ⟨rfl, rfl, rfl, rfl, rfl, rfl, rfl, trivial⟩, H⟩
              · rw [if_neg c1719] at hm
                refine gP hE rfl rfl rfl (b_f c1719) fun a hE => ?_
                refine gP hE rfl rfl rfl (b_f c1719) fun a hE => ?_
                refine gP hE rfl rfl rfl (b_f c1719) fun a hE => ?_
                refine gP hE rfl rfl rfl (b_f c1719) fun a hE => ?_
                refine s1 hE rfl (d_pF hE rfl (b_f c1719) rfl) fun a hE => ?_
                refine wpList_nil ?_
                cases hm
                have H := St.get H 1 rfl
                have H := St.del H 1
                exact ⟨hE.sub ⟨rfl, rfl, rfl, rfl, rfl, rfl, rfl, trivial⟩, H⟩
            · rintro a w ⟨hE, H⟩
              obtain ⟨s1747, hj1747, hm⟩ := bnd hm
              refine cut2 (fun a w => ∃ v1745 : Value, Env a 97 [(0, u0), (1, u1), (2, (.int .i64 a2)), (3, v1745), (9, (.int .i64 x1171)), (15, (.int .i64 y1511))] ∧ St z I w (OwnSl c_api_Path v1745 s1747 :: r)) ?_ ?_
              · have hm := hj1747
                by_cases c1748 : s1718 = true
                · rw [if_pos c1748] at hm
                  refine cT hE rfl c1748 ?_
                  refine wp_region_lit ?_
                  refine s1 hE rfl (d_move hE rfl) fun a hE => ?_
                  refine s2 hE rfl (d_lit (c := (cInt .i64)) (xs := []) hE rfl (lit51_0) rfl rfl (fun J h iJ s => rows0) H) fun a v w hR hE => ?_
                  obtain ⟨v1760, rfl⟩ : ∃ x, x = v := ⟨v, rfl⟩
                  have H : St z I w (OwnSl (cInt .i64) v1760 [] :: OwnSl c_api_Path v1509 l1510 :: r) := hR
                  refine s1 hE rfl (d_move hE rfl) fun a hE => ?_
                  obtain ⟨l1761, ha1762, hm⟩ := bnd hm
                  have H : St z I w (OwnSl (cInt .i64) v1760 [] :: OwnSl c_api_Path v1509 l1510 :: r) := H
                  refine s2 hE rfl (d_appendS (lim := 17592186044416) el51 (by decide) (by decide) hE rfl rfl H (Rd.cons (Rd.cons hr1)) ha1762) fun a v w hR hE => ?_
                  obtain ⟨v1763, rfl⟩ : ∃ x, x = v := ⟨v, rfl⟩
                  have H : St z I w (OwnSl (cInt .i64) v1763 l1761 :: OwnSl c_api_Path v1509 l1510 :: r) := hR
                  refine s1 hE rfl (d_move hE rfl) fun a hE => ?_
                  refine s2 hE rfl (d_lit (c := (cInt .i64)) (xs := [y1511]) hE rfl (lit51_1 _) rfl rfl (fun J h iJ s => rowsC (cs := [(.int .i64 y1511)]) rfl (rows0)) H) fun a v w hR hE => ?_
                  obtain ⟨v1764, rfl⟩ : ∃ x, x = v := ⟨v, rfl⟩
                  have H : St z I w (OwnSl (cInt .i64) v1764 ([y1511]) :: OwnSl (cInt .i64) v1763 l1761 :: OwnSl c_api_Path v1509 l1510 :: r) := hR
                  obtain ⟨l1765, ha1766, hm⟩ := bnd hm
                  have H := St.get H 1 rfl
                  have H : St z I w (OwnSl (cInt .i64) v1763 l1761 :: OwnSl (cInt .i64) v1764 ([y1511]) :: OwnSl c_api_Path v1509 l1510 :: r) := H
                  refine s2 hE rfl (d_appendO (lim := 17592186044416) el51 (by decide) (by decide) hE rfl rfl H ha1766) fun a v w hR hE => ?_
                  obtain ⟨v1767, rfl⟩ : ∃ x, x = v := ⟨v, rfl⟩
                  have H : St z I w (OwnSl (cInt .i64) v1767 l1765 :: OwnSl c_api_Path v1509 l1510 :: r) := hR
                  refine s1 hE rfl (d_move hE rfl) fun a hE => ?_
                  refine s1 hE rfl (d_move hE rfl) fun a hE => ?_
                  obtain ⟨x1768, hc1769, hm⟩ := bnd hm
                  have H := St.get H 1 rfl
                  have H : St z I w (OwnSl c_api_Path v1509 l1510 :: OwnSl (cInt .i64) v1767 l1765 :: r) := H
                  refine s2 hE rfl (d_call c42 hE rfl (hRec a0 l1765 a2 l1510 hc1769 (Rd.cons hr0) (Rd.own 0 rfl) H)) fun a v w hR hE => ?_
                  obtain ⟨v1770, hv_, H⟩ := hR
                  have hv_ := hv_.symm
                  subst hv_
                  refine s1 hE rfl (d_assign hE rfl) fun a hE => ?_
                  refine wpList_nil ?_
                  cases hm
                  have H := St.del H 1
                  exact ⟨v1770, hE.sub ⟨rfl, rfl, rfl, rfl, rfl, rfl, trivial⟩, H⟩
                · rw [if_neg c1748] at hm
                  refine cF hE rfl (b_f c1748) ?_
                  refine wp_skip ?_
                  cases hm
                  exact ⟨v1509, hE.sub ⟨rfl, rfl, rfl, rfl, rfl, rfl, trivial⟩, H⟩
              · rintro a w ⟨v1745, hE, H⟩
                refine wp_region_lit ?_
                refine s1 hE rfl (d_move hE rfl) fun a hE => ?_
                refine s1 hE rfl (d_add hE rfl rfl) fun a hE => ?_
                refine s1 hE rfl (d_assign hE rfl) fun a hE => ?_
                refine wpList_nil ?_
                exact ⟨k, Nat.lt_succ_self k, s1747, IntKind.i64.wrap (y1511 + 1), hm, v1745, hE.sub ⟨rfl, rfl, rfl, rfl, rfl, rfl, trivial⟩, H⟩
          · rw [if_neg c1644] at hm
            refine cF hE rfl (decide_eq_false c1644) ?_
            refine wp_exit ?_
            cases hm
            exact ⟨v1509, hE.sub ⟨rfl, trivial⟩, H⟩
      · exact ⟨a3, 1, hj1642, u3, hE.sub ⟨rfl, rfl, rfl, rfl, rfl, rfl, trivial⟩, H⟩
    · rintro a w ⟨v1640, hE, H⟩
      refine wp_seq ?_
      refine wp_region_lit ?_
      refine s1 hE rfl (d_move hE rfl) fun a hE => ?_
      refine s1 hE rfl (d_assign hE rfl) fun a hE => ?_
      refine wpList_nil ?_
      refine wp_ret ?_
      cases hm
      exact ret1 rfl hE rfl ⟨_, rfl, v1640, rfl, H⟩
theorem f42_ok (k : Nat) : ∀ {u0 : Value} (a0 : List S_api_Arc) {u1 : Value} (a1 : List Int) (a2 : Int) {u3 : Value} (a3 : List S_api_Path) {res : (List S_api_Path)}, m42 k a0 a1 a2 a3 = some res → ∀ {z w : World} {I : Hp} {r : List Asn}, Rd c_api_Arc I r u0 a0 → Rd (cInt .i64) I r u1 a1 → St z I w (OwnSl c_api_Path u3 a3 :: r) → Calls Try.prog 42 #[u0, u1, (.int .i64 a2), u3] w (Rt fun v w' => ∃ v1167 : Value, v = v1167 ∧ St z I w' (OwnSl c_api_Path v1167 res :: r)) := by
  induction k with
  | zero => intros; rename_i hm _ _ _ _ _ _ _; cases hm
  | succ k ih =>
    intro u0 a0 u1 a1 a2 u3 a3 res hm z w I r hr0 hr1 H
    exact f42_b (m42 k) ih k a0 a1 a2 a3 hm hr0 hr1 H
end Go.Proofs.Ytbielnhpfbhkgaa
