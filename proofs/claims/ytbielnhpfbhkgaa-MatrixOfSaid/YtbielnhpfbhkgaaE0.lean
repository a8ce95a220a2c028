/- Functions and what their calls do, by program (gen.py). -/
import Derived.Test.YtbielnhpfbhkgaaS0
import Derived.Test.YtbielnhpfbhkgaaShelfE
set_option linter.unusedVariables false
set_option linter.unusedSimpArgs false
namespace Go.Proofs.Ytbielnhpfbhkgaa
open Go Go.RowKit
structure S_api_Ways where
  To : Int
  Cost : Int
  Via : List Int
  Many : Int
instance : DecidableEq S_api_Ways := fun x y => decidable_of_iff (x.To = y.To ∧ x.Cost = y.Cost ∧ x.Via = y.Via ∧ x.Many = y.Many) ⟨fun h => by cases x; cases y; simp at h; simp [h], fun h => by subst h; simp⟩
def c_api_Ways : Cod S_api_Ways where
  n := 4
  rd := fun I cs x => ∃ v0 : Value, cs = [(.int .i64 x.To), (.int .u64 x.Cost), v0, (.int .u64 x.Many)] ∧ RdSl (cInt .i64) I I v0 x.Via
  mono := fun hI ⟨v0, e, h0⟩ => ⟨v0, e, h0.mono hI hI⟩
  len := fun ⟨v0, e, _⟩ => by rw [e]; rfl
  one := fun ⟨v0, e, h0⟩ u hu => by
    obtain ⟨A0, k0, q0, _⟩ := h0.form
    rw [e] at hu
    simp only [List.mem_cons, List.not_mem_nil, or_false] at hu
    rcases hu with rfl | rfl | rfl | rfl <;> first | rfl | (simp only [q0]; rfl)
theorem enc_api_Ways {z w : World} {I : Hp} {r : List Asn} {cs : List Value} {x : S_api_Ways} (H : St z I w (Enc c_api_Ways cs x :: r)) : ∃ v0 : Value, cs = [(.int .i64 x.To), (.int .u64 x.Cost), v0, (.int .u64 x.Many)] ∧ St z I w (ImR (cInt .i64) v0 x.Via :: r) := by
  obtain ⟨⟨J, _, _, v0, e, _⟩, _⟩ := H.pu
  refine ⟨v0, e, H.map fun J h i s => ?_⟩
  have hp : c_api_Ways.rd J cs x := s.pu.1
  obtain ⟨u0, e', h0⟩ := hp
  rw [e] at e'
  simp only [List.cons.injEq, and_true, true_and] at e'
  obtain rfl := e'
  exact (Sat.pu_intro h0 s.drop)
theorem c163 : Callable Try.prog 163 := ⟨Try.f163, Try.func163, by kernel_rfl, by kernel_rfl⟩
theorem lit91_0 : ∀ w : World, (Instr.buildSlice 91 0 (List.toArray [])).run Try.prog w = .ok (.slice (some (ad w.heap.size 0)) 0 0) (w.alloc (.cells (List.toArray []) 96)) := fun w => by kernel_rfl
theorem c116 : Callable Try.prog 116 := ⟨Try.f116, Try.func116, by kernel_rfl, by kernel_rfl⟩
theorem fld177_1 : Fld Try.prog 177 1 1 := fun p w => by kernel_rfl
theorem sc174 : Scal Try.prog 174 := fun w => ⟨by kernel_rfl, by kernel_rfl⟩
theorem zv61 : ∀ w : World, (zeroValue 61).run Try.prog w = .ok (.int .u64 0) w := fun w => by kernel_rfl
theorem fld177_0 : Fld Try.prog 177 0 0 := fun p w => by kernel_rfl
theorem fld177_2 : Fld Try.prog 177 2 2 := fun p w => by kernel_rfl
theorem sc175 : Scal Try.prog 175 := fun w => ⟨by kernel_rfl, by kernel_rfl⟩
theorem zv51 : ∀ w : World, (zeroValue 51).run Try.prog w = .ok (.slice none 0 0) w := fun w => by kernel_rfl
theorem fld177_3 : Fld Try.prog 177 3 3 := fun p w => by kernel_rfl
theorem fld94_2 : Fld Try.prog 94 2 2 := fun p w => by kernel_rfl
theorem sc51 : Scal Try.prog 51 := fun w => ⟨by kernel_rfl, by kernel_rfl⟩
theorem bld177_0In_1Ma_2Ma_3Ma (x0 : Int) (x1 : Nat) (x2 : Nat) (x3 : Nat)  : ∀ w : World, (Instr.build 177 (List.toArray [(0, (.int .i64 x0)), (1, (.map (some x1))), (2, (.map (some x2))), (3, (.map (some x3)))])).run Try.prog w = .ok (.agg #[(.int .i64 x0), (.map (some x1)), (.map (some x2)), (.map (some x3))]) w := by
  intro w
  kernel_rfl
theorem c113 : Callable Try.prog 113 := ⟨Try.f113, Try.func113, by kernel_rfl, by kernel_rfl⟩
theorem c115 : Callable Try.prog 115 := ⟨Try.f115, Try.func115, by kernel_rfl, by kernel_rfl⟩
theorem c114 : Callable Try.prog 114 := ⟨Try.f114, Try.func114, by kernel_rfl, by kernel_rfl⟩
theorem c117 : Callable Try.prog 117 := ⟨Try.f117, Try.func117, by kernel_rfl, by kernel_rfl⟩
theorem c118 : Callable Try.prog 118 := ⟨Try.f118, Try.func118, by kernel_rfl, by kernel_rfl⟩
theorem c119 : Callable Try.prog 119 := ⟨Try.f119, Try.func119, by kernel_rfl, by kernel_rfl⟩
theorem srtz119 {v : Value} {xs ys : List Int} (hs : srtZ xs = some ys) {z w : World} {I : Hp} {r : List Asn} (H : St z I w (OwnSl (cInt .i64) v xs :: r)) : Calls Try.prog 119 #[v] w (Rt fun u w' => u = .tuple #[] ∧ St z I w' (OwnSl (cInt .i64) v ys :: r)) := sortZ_row (ρ := Try.sort119_ren) Try.sort119 hs H
theorem c120 : Callable Try.prog 120 := ⟨Try.f120, Try.func120, by kernel_rfl, by kernel_rfl⟩
theorem unq120 {v : Value} {xs ys : List Int} (hs : uniq xs = some ys) {z w : World} {I : Hp} {r : List Asn} (H : St z I w (OwnSl (cInt .i64) v xs :: r)) : Calls Try.prog 120 #[v] w (Rt fun u w' => ∃ v', u = v' ∧ St z I w' (OwnSl (cInt .i64) v' ys :: r)) := uniq_row (ρ := Try.compact120_ren) Try.compact120 hs H
theorem bld94_0In_1In_2Sl_3In (x0 : Int) (x1 : Int) (x2 : Value) (x3 : Int) (hx2 : ∃ A n k, x2 = .slice A n k) : ∀ w : World, (Instr.build 94 (List.toArray [(0, (.int .i64 x0)), (1, (.int .u64 x1)), (2, x2), (3, (.int .u64 x3))])).run Try.prog w = .ok (.agg #[(.int .i64 x0), (.int .u64 x1), x2, (.int .u64 x3)]) w := by
  obtain ⟨Ax2, nx2, kx2, rfl⟩ := hx2
  intro w
  kernel_rfl
theorem lit87_1_v_v_v_v (x0 : Int) (x1 : Int) (x2 : Value) (x3 : Int)  : ∀ w : World, (Instr.buildSlice 87 1 (List.toArray [(0, (.agg #[(.int .i64 x0), (.int .u64 x1), x2, (.int .u64 x3)]))])).run Try.prog w = .ok (.slice (some (ad w.heap.size 0)) 1 1) (w.alloc (.cells (List.toArray [(.int .i64 x0), (.int .u64 x1), x2, (.int .u64 x3)]) 94)) := fun w => by kernel_rfl
theorem el87 : Elt Try.prog 87 94 4 48 := ⟨Try.underlying87, by kernel_rfl, by decide⟩
theorem bld60_0In_1In_2In (x0 : Int) (x1 : Int) (x2 : Int)  : ∀ w : World, (Instr.build 60 (List.toArray [(0, (.int .i64 x0)), (1, (.int .i64 x1)), (2, (.int .i64 x2))])).run Try.prog w = .ok (.agg #[(.int .i64 x0), (.int .i64 x1), (.int .i64 x2)]) w := by
  intro w
  kernel_rfl
theorem lit55_4 (x0 : Int) (x1 : Int) (x2 : Int) (x3 : Int) (x4 : Int) (x5 : Int) (x6 : Int) (x7 : Int) (x8 : Int) (x9 : Int) (x10 : Int) (x11 : Int)  : ∀ w : World, (Instr.buildSlice 55 4 (List.toArray [(0, (.agg #[(.int .i64 x0), (.int .i64 x1), (.int .i64 x2)])), (1, (.agg #[(.int .i64 x3), (.int .i64 x4), (.int .i64 x5)])), (2, (.agg #[(.int .i64 x6), (.int .i64 x7), (.int .i64 x8)])), (3, (.agg #[(.int .i64 x9), (.int .i64 x10), (.int .i64 x11)]))])).run Try.prog w = .ok (.slice (some (ad w.heap.size 0)) 4 4) (w.alloc (.cells (List.toArray [(.int .i64 x0), (.int .i64 x1), (.int .i64 x2), (.int .i64 x3), (.int .i64 x4), (.int .i64 x5), (.int .i64 x6), (.int .i64 x7), (.int .i64 x8), (.int .i64 x9), (.int .i64 x10), (.int .i64 x11)]) 60)) := fun w => by kernel_rfl
theorem c55 : Callable Try.prog 55 := ⟨Try.f55, Try.func55, by kernel_rfl, by kernel_rfl⟩
theorem sl87 : Slc Try.prog 87 94 4 := ⟨Try.underlying87, fun w => by kernel_rfl⟩
theorem fld94_3 : Fld Try.prog 94 3 3 := fun p w => by kernel_rfl
theorem fld94_1 : Fld Try.prog 94 1 1 := fun p w => by kernel_rfl
theorem ag94 : Aggr Try.prog 94 4 := fun w => ⟨by kernel_rfl, by kernel_rfl⟩
theorem c59 : Callable Try.prog 59 := ⟨Try.f59, Try.func59, by kernel_rfl, by kernel_rfl⟩
def m163 (a0 : Int) : Option Bool := some (!(decide (a0 = a0)))
set_option maxRecDepth 20000 in
set_option maxHeartbeats 4000000 in
theorem f163_ok (a0 : Int) {res : Bool} (hm : m163 a0 = some res) {z w : World} {I : Hp} {r : List Asn}  (H : St z I w (r)) :
    Calls Try.prog 163 #[(.int .u64 a0)] w (Rt fun v w' => v = (.bool res) ∧ St z I w' (r)) := by
  unfold m163 at hm
  refine enter (args := [(.int .u64 a0)]) Try.func163 rfl Try.ntmps163 rfl fun a hE => ?_
  refine wp_seq ?_
  refine wp_region_lit ?_
  refine s1 hE rfl (d_assign hE rfl) fun a hE => ?_
  refine wpList_nil ?_
  refine wp_seq ?_
  refine wp_region_lit ?_
  refine s1 hE rfl (d_move hE rfl) fun a hE => ?_
  refine s1 hE rfl (d_move hE rfl) fun a hE => ?_
  refine s1 hE rfl (d_neq hE rfl rfl) fun a hE => ?_
  refine s1 hE rfl (d_assign hE rfl) fun a hE => ?_
  refine wpList_nil ?_
  refine wp_ret ?_
  cases hm
  exact ret1 rfl hE rfl ⟨_, rfl, rfl, H⟩
def m116 (a0 : Int) (a1 : Int) : Option Int := Option.bind (m163 a0) fun x74 => Option.bind (m163 a1) fun x78 => if x74 = true then (if x78 = true then (some 0) else (some (-1))) else (if x78 = true then (some 1) else (if a0 < a1 then (some (-1)) else (if a1 < a0 then (some 1) else (some 0))))
set_option maxRecDepth 20000 in
set_option maxHeartbeats 4000000 in
theorem f116_ok (a0 : Int) (a1 : Int) {res : Int} (hm : m116 a0 a1 = some res) {z w : World} {I : Hp} {r : List Asn}  (H : St z I w (r)) :
    Calls Try.prog 116 #[(.int .u64 a0), (.int .u64 a1)] w (Rt fun v w' => v = (.int .i64 res) ∧ St z I w' (r)) := by
  unfold m116 at hm
  refine enter (args := [(.int .u64 a0), (.int .u64 a1)]) Try.func116 rfl Try.ntmps116 rfl fun a hE => ?_
  refine wp_seq ?_
  refine wp_region_lit ?_
  refine s1 hE rfl (d_assign hE rfl) fun a hE => ?_
  refine wpList_nil ?_
  refine wp_seq ?_
  refine wp_region_lit ?_
  refine s1 hE rfl (d_move hE rfl) fun a hE => ?_
  obtain ⟨x74, hc75, hm⟩ := bnd hm
  refine s2 hE rfl (d_call c163 hE rfl (f163_ok a0 hc75  H)) fun a v w hR hE => ?_
  obtain ⟨hv_, H⟩ := hR
  have hv_ := hv_.symm
  subst hv_
  refine s1 hE rfl (d_assign hE rfl) fun a hE => ?_
  refine wpList_nil ?_
  refine wp_seq ?_
  refine wp_region_lit ?_
  refine s1 hE rfl (d_move hE rfl) fun a hE => ?_
  obtain ⟨x78, hc79, hm⟩ := bnd hm
  refine s2 hE rfl (d_call c163 hE rfl (f163_ok a1 hc79  H)) fun a v w hR hE => ?_
  obtain ⟨hv_, H⟩ := hR
  have hv_ := hv_.symm
  subst hv_
  refine s1 hE rfl (d_assign hE rfl) fun a hE => ?_
  refine wpList_nil ?_
  refine wp_seq ?_
  refine wp_seq ?_
  refine wp_region_lit ?_
  refine s1 hE rfl (d_move hE rfl) fun a hE => ?_
  refine wpList_nil ?_
  by_cases c83 : x74 = true
  · rw [if_pos c83] at hm
    refine cT hE rfl c83 ?_
    refine wp_seq ?_
    refine wp_seq ?_
    refine wp_region_lit ?_
    refine s1 hE rfl (d_move hE rfl) fun a hE => ?_
    refine wpList_nil ?_
    by_cases c85 : x78 = true
    · rw [if_pos c85] at hm
      refine cT hE rfl c85 ?_
      refine wp_seq ?_
      refine wp_region_lit ?_
      refine s1 hE rfl (d_assign hE rfl) fun a hE => ?_
      refine wpList_nil ?_
      refine wp_ret ?_
      cases hm
      exact ret1 rfl hE rfl ⟨_, rfl, rfl, H⟩
    · rw [if_neg c85] at hm
      refine cF hE rfl (b_f c85) ?_
      refine wp_skip ?_
      refine wp_seq ?_
      refine wp_region_lit ?_
      refine s1 hE rfl (d_assign hE rfl) fun a hE => ?_
      refine wpList_nil ?_
      refine wp_ret ?_
      cases hm
      exact ret1 rfl hE rfl ⟨_, rfl, rfl, H⟩
  · rw [if_neg c83] at hm
    refine cF hE rfl (b_f c83) ?_
    refine wp_skip ?_
    refine wp_seq ?_
    refine wp_seq ?_
    refine wp_region_lit ?_
    refine s1 hE rfl (d_move hE rfl) fun a hE => ?_
    refine wpList_nil ?_
    by_cases c87 : x78 = true
    · rw [if_pos c87] at hm
      refine cT hE rfl c87 ?_
      refine wp_seq ?_
      refine wp_region_lit ?_
      refine s1 hE rfl (d_assign hE rfl) fun a hE => ?_
      refine wpList_nil ?_
      refine wp_ret ?_
      cases hm
      exact ret1 rfl hE rfl ⟨_, rfl, rfl, H⟩
    · rw [if_neg c87] at hm
      refine cF hE rfl (b_f c87) ?_
      refine wp_skip ?_
      refine wp_seq ?_
      refine wp_seq ?_
      refine wp_region_lit ?_
      refine s1 hE rfl (d_move hE rfl) fun a hE => ?_
      refine s1 hE rfl (d_move hE rfl) fun a hE => ?_
      refine s1 hE rfl (d_lss hE rfl rfl) fun a hE => ?_
      refine wpList_nil ?_
      by_cases c89 : a0 < a1
      · rw [if_pos c89] at hm
        refine cT hE rfl (decide_eq_true c89) ?_
        refine wp_seq ?_
        refine wp_region_lit ?_
        refine s1 hE rfl (d_assign hE rfl) fun a hE => ?_
        refine wpList_nil ?_
        refine wp_ret ?_
        cases hm
        exact ret1 rfl hE rfl ⟨_, rfl, rfl, H⟩
      · rw [if_neg c89] at hm
        refine cF hE rfl (decide_eq_false c89) ?_
        refine wp_skip ?_
        refine wp_seq ?_
        refine wp_seq ?_
        refine wp_region_lit ?_
        refine s1 hE rfl (d_move hE rfl) fun a hE => ?_
        refine s1 hE rfl (d_move hE rfl) fun a hE => ?_
        refine s1 hE rfl (d_gtr hE rfl rfl) fun a hE => ?_
        refine wpList_nil ?_
        by_cases c91 : a1 < a0
        · rw [if_pos c91] at hm
          refine cT hE rfl (decide_eq_true c91) ?_
          refine wp_seq ?_
          refine wp_region_lit ?_
          refine s1 hE rfl (d_assign hE rfl) fun a hE => ?_
          refine wpList_nil ?_
          refine wp_ret ?_
          cases hm
          exact ret1 rfl hE rfl ⟨_, rfl, rfl, H⟩
        · rw [if_neg c91] at hm
          refine cF hE rfl (decide_eq_false c91) ?_
          refine wp_skip ?_
          refine wp_seq ?_
          refine wp_region_lit ?_
          refine s1 hE rfl (d_assign hE rfl) fun a hE => ?_
          refine wpList_nil ?_
          refine wp_ret ?_
          cases hm
          exact ret1 rfl hE rfl ⟨_, rfl, rfl, H⟩
def m113 (a0 : List S_api_Route) : Option (List S_api_Route) := appd 5864062014805 [] a0
set_option maxRecDepth 20000 in
set_option maxHeartbeats 4000000 in
theorem f113_ok {u0 : Value} (a0 : List S_api_Route) {res : List S_api_Route} (hm : m113 a0 = some res) {z w : World} {I : Hp} {r : List Asn} (hr0 : Rd c_api_Route I r u0 a0) (H : St z I w r) :
    Calls Try.prog 113 #[u0] w (Rt fun v w' => ∃ v1 : Value, v = v1 ∧ St z I w' (OwnSl c_api_Route v1 res :: r)) := by
  rcases Rd.nil_cases H hr0 with ⟨hv, hx⟩ | ⟨k_, hv, hx⟩ | ⟨p_, n_, k_, hv⟩
  · subst hv; subst hx
    obtain rfl : res = [] := by simpa [m113, appd] using hm.symm
    refine enter (args := [.slice none 0 0]) Try.func113 rfl Try.ntmps113 rfl fun a hE => ?_
    refine wp_seq ?_
    refine wp_region_lit ?_
    refine s1 hE rfl (d_assign hE rfl) fun a hE => ?_
    refine wpList_nil ?_
    refine wp_seq ?_
    refine wp_seq ?_
    refine wp_region_lit ?_
    refine s1 hE rfl (d_move hE rfl) fun a hE => ?_
    refine s1 hE rfl (d_eqSl Try.underlying91 hE rfl rfl) fun a hE => ?_
    refine wpList_nil ?_
    refine cT hE rfl rfl ?_
    refine wp_seq ?_
    refine wp_region_lit ?_
    refine s1 hE rfl (d_assign hE rfl) fun a hE => ?_
    refine wpList_nil ?_
    refine wp_ret ?_
    exact ret1 rfl hE rfl ⟨_, rfl, (.slice none 0 0), rfl, St.nil H none⟩
  · subst hv; subst hx
    obtain rfl : res = [] := by simpa [m113, appd] using hm.symm
    refine enter (args := [.slice none 0 (k_ + 1)]) Try.func113 rfl Try.ntmps113 rfl fun a hE => ?_
    refine wp_seq ?_
    refine wp_region_lit ?_
    refine s1 hE rfl (d_assign hE rfl) fun a hE => ?_
    refine wpList_nil ?_
    refine wp_seq ?_
    refine wp_seq ?_
    refine wp_region_lit ?_
    refine s1 hE rfl (d_move hE rfl) fun a hE => ?_
    refine s1 hE rfl (d_eqSl Try.underlying91 hE rfl rfl) fun a hE => ?_
    refine wpList_nil ?_
    refine cT hE rfl rfl ?_
    refine wp_seq ?_
    refine wp_region_lit ?_
    refine s1 hE rfl (d_assign hE rfl) fun a hE => ?_
    refine wpList_nil ?_
    refine wp_ret ?_
    exact ret1 rfl hE rfl ⟨_, rfl, (.slice none 0 0), rfl, St.nil H none⟩
  · refine enter (args := [u0]) Try.func113 rfl Try.ntmps113 rfl fun a hE => ?_
    refine wp_seq ?_
    refine wp_region_lit ?_
    refine s1 hE rfl (d_assign hE rfl) fun a hE => ?_
    refine wpList_nil ?_
    refine wp_seq ?_
    refine wp_seq ?_
    refine wp_region_lit ?_
    refine s1 hE rfl (d_move hE rfl) fun a hE => ?_
    refine s1 hE rfl (d_eqSlS hv Try.underlying91 hE rfl rfl) fun a hE => ?_
    refine wpList_nil ?_
    refine cF hE rfl rfl ?_
    refine wp_skip ?_
    refine wp_seq ?_
    refine wp_region_lit ?_
    refine s2 hE rfl (d_lit (c := c_api_Route) (xs := []) hE rfl lit91_0 rfl rfl (fun J h iJ s => rows0) H) fun a v w hR hE => ?_
    have H : St z I w (OwnSl c_api_Route v [] :: r) := hR
    refine s1 hE rfl (d_move hE rfl) fun a hE => ?_
    refine s2 hE rfl (d_appendS (lim := 5864062014805) el91 (by decide) (by decide) hE rfl rfl H (Rd.cons hr0) hm) fun a v2 w hR hE => ?_
    have H : St z I w (OwnSl c_api_Route v2 res :: r) := hR
    refine s1 hE rfl (d_assign hE rfl) fun a hE => ?_
    refine wpList_nil ?_
    refine wp_ret ?_
    exact ret1 rfl hE rfl ⟨_, rfl, v2, rfl, H⟩
def m115 (k : Nat) (a0 : S_api_Route) (a1 : S_api_Route) : Option Int := Option.bind (m116 a0.Cost a1.Cost) fun x81 => Option.bind (m103 a0.To a1.To) fun x83 => Option.bind (m102 k ([x81, x83])) fun x86 => some x86
set_option maxRecDepth 20000 in
set_option maxHeartbeats 4000000 in
theorem f115_ok (k : Nat) (a0 : S_api_Route) (a1 : S_api_Route) {res : Int} (hm : m115 k a0 a1 = some res) {z w : World} {I : Hp} {r : List Asn}  (H : St z I w (r)) :
    Calls Try.prog 115 #[(.agg #[(.int .i64 a0.To), (.int .i64 a0.Via), (.int .u64 a0.Cost)]), (.agg #[(.int .i64 a1.To), (.int .i64 a1.Via), (.int .u64 a1.Cost)])] w (Rt fun v w' => v = (.int .i64 res) ∧ St z I w' (r)) := by
  unfold m115 at hm
  refine enter (args := [(.agg #[(.int .i64 a0.To), (.int .i64 a0.Via), (.int .u64 a0.Cost)]), (.agg #[(.int .i64 a1.To), (.int .i64 a1.Via), (.int .u64 a1.Cost)])]) Try.func115 rfl Try.ntmps115 rfl fun a hE => ?_
  refine wp_seq ?_
  refine wp_region_lit ?_
  refine s2 hE rfl (d_box hE rfl H) fun a v w hR hE => ?_
  obtain ⟨q72, rfl, H⟩ := hR
  have H : St z I w (Bl q72 96 [(.int .i64 a0.To), (.int .i64 a0.Via), (.int .u64 a0.Cost)] :: r) := H
  refine s2 hE rfl (d_box hE rfl H) fun a v w hR hE => ?_
  obtain ⟨q73, rfl, H⟩ := hR
  have H : St z I w (Bl q73 96 [(.int .i64 a1.To), (.int .i64 a1.Via), (.int .u64 a1.Cost)] :: Bl q72 96 [(.int .i64 a0.To), (.int .i64 a0.Via), (.int .u64 a0.Cost)] :: r) := H
  refine s1 hE rfl (d_assign hE rfl) fun a hE => ?_
  refine wpList_nil ?_
  refine wp_seq ?_
  obtain ⟨x81, hc82, hm⟩ := bnd hm
  obtain ⟨x83, hc84, hm⟩ := bnd hm
  obtain ⟨x86, hc87, hm⟩ := bnd hm
  refine Dr.region (γ := Value) (pre := [[], [0], [], [2], [0, 1, 2, 3], [], [5], [], [7], [0, 1, 2, 3, 4, 5, 6, 7, 8], [0, 1, 2, 3, 4, 5, 6, 7, 8, 9], [0, 1, 2, 3, 4, 5, 6, 7, 8, 9, 10], [0, 1, 2, 3, 4, 5, 6, 7, 8, 9, 10, 11]]) (val := [some (.pointer (some (ad q72 (0 + 2)))), some (.int .u64 a0.Cost), some (.pointer (some (ad q73 (0 + 2)))), some (.int .u64 a1.Cost), some (.int .i64 x81), some (.pointer (some (ad q72 (0 + 0)))), some (.int .i64 a0.To), some (.pointer (some (ad q73 (0 + 0)))), some (.int .i64 a1.To), some (.int .i64 x83), none, none, none]) (eff := [10, 11, 12]) (mask := [[], [10], [10, 11], [10, 11, 12]]) (keys := [[], [15], [16, 15], [4, 16, 15]]) (src := [[.base 2], [.op 0], [.base 3], [.op 2], [.op 1, .op 3], [.base 2], [.op 5], [.base 3], [.op 7], [.op 6, .op 8], [.op 4, .op 9], [], []]) (z := z) (ef := fun p g => ([[], [(15, g)], [(16, (.int .i64 x86)), (15, g)], [(4, (.int .i64 x86)), (16, (.int .i64 x86)), (15, g)]] : List (List (Nat × Value))).getD p []) (hi := fun _ _ => I) (rs := fun p g => ([Bl q73 96 [(.int .i64 a1.To), (.int .i64 a1.Via), (.int .u64 a1.Cost)] :: Bl q72 96 [(.int .i64 a0.To), (.int .i64 a0.Via), (.int .u64 a0.Cost)] :: r, OwnSl (cInt .i64) g ([x81, x83]) :: Bl q73 96 [(.int .i64 a1.To), (.int .i64 a1.Via), (.int .u64 a1.Cost)] :: Bl q72 96 [(.int .i64 a0.To), (.int .i64 a0.Via), (.int .u64 a0.Cost)] :: r, OwnSl (cInt .i64) g ([x81, x83]) :: Bl q73 96 [(.int .i64 a1.To), (.int .i64 a1.Via), (.int .u64 a1.Cost)] :: Bl q72 96 [(.int .i64 a0.To), (.int .i64 a0.Via), (.int .u64 a0.Cost)] :: r, OwnSl (cInt .i64) g ([x81, x83]) :: Bl q73 96 [(.int .i64 a1.To), (.int .i64 a1.Via), (.int .u64 a1.Cost)] :: Bl q72 96 [(.int .i64 a0.To), (.int .i64 a0.Via), (.int .u64 a0.Cost)] :: r] : List (List Asn)).getD p []) [(0, 0), (1, 0), (2, 0), (3, 0), (4, 0), (5, 0), (6, 0), (7, 0), (8, 0), (9, 0)] [(0, 10, 1), (1, 11, 2), (2, 12, 3)] [0, 1, 2, 3, 4, 5, 6, 7, 8, 9] 3 mo hE (undef) rfl H (by kernel_rfl) (by kernel_rfl) (fun p g => by rcases p with _ | _ | _ | _ | p <;> rfl) ?_ ?_ (by kernel_rfl) (by kernel_rfl) ?_
  · exact ⟨by intro a w g hE H; obtain ⟨v85, rfl⟩ : ∃ x, x = g := ⟨g, rfl⟩; exact Dr.is H rfl (Dr.run rfl (d_fieldAddr fld96_2 hE rfl)),
    by intro a w g hE H; obtain ⟨v85, rfl⟩ : ∃ x, x = g := ⟨g, rfl⟩; exact Dr.is H rfl (Dr.run rfl (d_load sc61 hE rfl H 1 rfl rfl)),
    by intro a w g hE H; obtain ⟨v85, rfl⟩ : ∃ x, x = g := ⟨g, rfl⟩; exact Dr.is H rfl (Dr.run rfl (d_fieldAddr fld96_2 hE rfl)),
    by intro a w g hE H; obtain ⟨v85, rfl⟩ : ∃ x, x = g := ⟨g, rfl⟩; exact Dr.is H rfl (Dr.run rfl (d_load sc61 hE rfl H 0 rfl rfl)),
    by intro a w g hE H; obtain ⟨v85, rfl⟩ : ∃ x, x = g := ⟨g, rfl⟩; exact (Dr.run rfl (d_call c116 hE rfl (f116_ok a0.Cost a1.Cost hc82  H))).mono fun v w' hR => by obtain ⟨rfl, H⟩ := hR; exact ⟨rfl, H⟩,
    by intro a w g hE H; obtain ⟨v85, rfl⟩ : ∃ x, x = g := ⟨g, rfl⟩; exact Dr.is H rfl (Dr.run rfl (d_fieldAddr fld96_0 hE rfl)),
    by intro a w g hE H; obtain ⟨v85, rfl⟩ : ∃ x, x = g := ⟨g, rfl⟩; exact Dr.is H rfl (Dr.run rfl (d_load sc3 hE rfl H 1 rfl rfl)),
    by intro a w g hE H; obtain ⟨v85, rfl⟩ : ∃ x, x = g := ⟨g, rfl⟩; exact Dr.is H rfl (Dr.run rfl (d_fieldAddr fld96_0 hE rfl)),
    by intro a w g hE H; obtain ⟨v85, rfl⟩ : ∃ x, x = g := ⟨g, rfl⟩; exact Dr.is H rfl (Dr.run rfl (d_load sc3 hE rfl H 0 rfl rfl)),
    by intro a w g hE H; obtain ⟨v85, rfl⟩ : ∃ x, x = g := ⟨g, rfl⟩; exact (Dr.run rfl (d_call c103 hE rfl (f103_ok a0.To a1.To hc84  H))).mono fun v w' hR => by obtain ⟨rfl, H⟩ := hR; exact ⟨rfl, H⟩,
    trivial⟩
  · exact ⟨by intro a w g hE hF H; obtain ⟨v85, rfl⟩ : ∃ x, x = g := ⟨g, rfl⟩; refine (Dr.run rfl (d_lit (c := (cInt .i64)) (xs := [x81, x83]) hE rfl (lit51_2 _ _) rfl rfl (fun J h iJ s => rowsC (cs := [(.int .i64 x81)]) rfl (rowsC (cs := [(.int .i64 x83)]) rfl (rows0))) H)).mono fun v w hR => ?_; obtain ⟨v85, rfl⟩ : ∃ x, x = v := ⟨v, rfl⟩; have H : St z I w (OwnSl (cInt .i64) v85 ([x81, x83]) :: Bl q73 96 [(.int .i64 a1.To), (.int .i64 a1.Via), (.int .u64 a1.Cost)] :: Bl q72 96 [(.int .i64 a0.To), (.int .i64 a0.Via), (.int .u64 a0.Cost)] :: r) := hR; exact ⟨v85, H, Dr.lkSub ⟨rfl, trivial⟩⟩,
    by intro a w g hE hF H; obtain ⟨v85, rfl⟩ : ∃ x, x = g := ⟨g, rfl⟩; have hE := Dr.env_both hE hF; refine (Dr.run rfl (d_call c102 hE rfl (f102_ok k ([x81, x83]) hc87 (Rd.own 0 rfl) H))).mono fun v w hR => ?_; obtain ⟨hv_, H⟩ := hR; have hv_ := hv_.symm; subst hv_; exact ⟨v85, H, Dr.lkSub ⟨rfl, rfl, trivial⟩⟩,
    by intro a w g hE hF H; obtain ⟨v85, rfl⟩ : ∃ x, x = g := ⟨g, rfl⟩; have hE := Dr.env_both hE hF; refine (Dr.run rfl (d_assign hE rfl)).mono fun v w' hR => ?_; obtain ⟨hv_, rfl⟩ := hR; have hv_ := hv_.symm; subst hv_; exact ⟨v85, H, Dr.lkSub ⟨rfl, rfl, rfl, trivial⟩⟩,
    trivial⟩
  · intro a w g hE H
    obtain ⟨v85, rfl⟩ : ∃ x, x = g := ⟨g, rfl⟩
    have H : St z I w (OwnSl (cInt .i64) v85 ([x81, x83]) :: Bl q73 96 [(.int .i64 a1.To), (.int .i64 a1.Via), (.int .u64 a1.Cost)] :: Bl q72 96 [(.int .i64 a0.To), (.int .i64 a0.Via), (.int .u64 a0.Cost)] :: r) := H
    refine wp_ret ?_
    cases hm
    have H := St.del H 0
    have H := St.del H 0
    have H := St.del H 0
    exact ret1 rfl hE rfl ⟨_, rfl, rfl, H⟩
def m117 (a0_root : Int) (a0_at : List (Int × Int)) (a0_vias : List (Int × (List Int))) (a0_many : List (Int × Int)) (a1 : S_api_Arc) : Option Bool := Option.bind (some ((mget a0_at a1.From).getD 0)) fun x80 => Option.bind (some ((mget a0_at a1.To).getD 0)) fun x84 => Option.bind (α := Bool) (if (mget a0_at a1.From).isSome = true then (if (mget a0_at a1.To).isSome = true then (if a1.To = a0_root then (some false) else (Option.bind (m89 x80 (IntKind.u64.wrap a1.Cost)) fun x98 => some (decide (x98 = x84)))) else (some false)) else (some false)) fun s94 => some s94
set_option maxRecDepth 20000 in
set_option maxHeartbeats 4000000 in
theorem f117_ok {q0 : Nat} (a0_root : Int) {q0_at : Nat} (a0_at : List (Int × Int)) {q0_vias : Nat} {g0_vias : List Value} (a0_vias : List (Int × (List Int))) {q0_many : Nat} (a0_many : List (Int × Int)) (a1 : S_api_Arc) {res : Bool} (hm : m117 a0_root a0_at a0_vias a0_many a1 = some res) {z w : World} {I : Hp} {r : List Asn}  (H : St z I w (Bl q0 177 [(.int .i64 a0_root), (.map (some q0_at)), (.map (some q0_vias)), (.map (some q0_many))] :: MapR (cInt .u64) false q0_at a0_at :: MapO (cInt .i64) q0_vias g0_vias a0_vias [] :: MapR (cInt .u64) false q0_many a0_many :: r)) :
    Calls Try.prog 117 #[(.pointer (some (ad q0 0))), (.agg #[(.int .i64 a1.From), (.int .i64 a1.To), (.int .i64 a1.Cost)])] w (Rt fun v w' => v = (.bool res) ∧ St z I w' (Bl q0 177 [(.int .i64 a0_root), (.map (some q0_at)), (.map (some q0_vias)), (.map (some q0_many))] :: MapR (cInt .u64) false q0_at a0_at :: MapO (cInt .i64) q0_vias g0_vias a0_vias [] :: MapR (cInt .u64) false q0_many a0_many :: r)) := by
  unfold m117 at hm
  refine enter (args := [(.pointer (some (ad q0 0))), (.agg #[(.int .i64 a1.From), (.int .i64 a1.To), (.int .i64 a1.Cost)])]) Try.func117 rfl Try.ntmps117 rfl fun a hE => ?_
  refine wp_seq ?_
  refine wp_region_lit ?_
  refine s2 hE rfl (d_box hE rfl H) fun a v w hR hE => ?_
  obtain ⟨q77, rfl, H⟩ := hR
  have H : St z I w (Bl q77 60 [(.int .i64 a1.From), (.int .i64 a1.To), (.int .i64 a1.Cost)] :: Bl q0 177 [(.int .i64 a0_root), (.map (some q0_at)), (.map (some q0_vias)), (.map (some q0_many))] :: MapR (cInt .u64) false q0_at a0_at :: MapO (cInt .i64) q0_vias g0_vias a0_vias [] :: MapR (cInt .u64) false q0_many a0_many :: r) := H
  refine s1 hE rfl (d_assign hE rfl) fun a hE => ?_
  refine wpList_nil ?_
  refine wp_seq ?_
  obtain ⟨x80, hx81, hm⟩ := bnd hm
  refine Dr.region (γ := Unit) (pre := [[], [0], [0, 1], [0, 1, 2], [], [4], [0, 1, 2, 3, 4, 5], [0, 1, 2, 3, 4, 5, 6], [0, 1, 2, 3, 4, 5, 6, 7], [0, 1, 2, 3, 4, 5, 6, 7], [0, 1, 2, 3, 4, 5, 6, 7, 8], [0, 1, 2, 3, 4, 5, 6, 7, 8, 9, 10]]) (val := [some (.pointer (some (ad q0 0))), some (.pointer (some (ad q0 0))), some (.pointer (some (ad q0 (0 + 1)))), some (.map (some q0_at)), some (.pointer (some (ad q77 (0 + 0)))), some (.int .i64 a1.From), some (.tuple #[(.int .u64 x80), (.bool ((mget a0_at a1.From).isSome))]), some (.tuple #[(.int .u64 x80), (.bool ((mget a0_at a1.From).isSome))]), some (.int .u64 x80), some (.bool ((mget a0_at a1.From).isSome)), some (.int .u64 x80), some (.bool ((mget a0_at a1.From).isSome))]) (eff := []) (mask := [[]]) (keys := [[]]) (src := [[.base 0], [.op 0], [.op 1], [.op 2], [.base 3], [.op 4], [.op 3, .op 5], [.op 6], [.op 7], [.op 7], [.op 8], [.op 9]]) (z := z) (ef := fun p g => ([[]] : List (List (Nat × Value))).getD p []) (hi := fun _ _ => I) (rs := fun p g => ([Bl q77 60 [(.int .i64 a1.From), (.int .i64 a1.To), (.int .i64 a1.Cost)] :: Bl q0 177 [(.int .i64 a0_root), (.map (some q0_at)), (.map (some q0_vias)), (.map (some q0_many))] :: MapR (cInt .u64) false q0_at a0_at :: MapO (cInt .i64) q0_vias g0_vias a0_vias [] :: MapR (cInt .u64) false q0_many a0_many :: r] : List (List Asn)).getD p []) [(0, 0), (1, 0), (2, 0), (3, 0), (4, 0), (5, 0), (6, 0), (7, 0), (8, 0), (9, 0), (10, 0), (11, 0)] [] [0, 1, 2, 3, 4, 5, 6, 7, 8, 9, 10, 11] 0 mo hE () rfl H (by kernel_rfl) (by kernel_rfl) (fun p g => by cases p <;> rfl) ?_ ?_ (by kernel_rfl) (by kernel_rfl) ?_
  · exact ⟨by intro a w g hE H; exact Dr.is H rfl (Dr.run rfl (d_move hE rfl)),
    by intro a w g hE H; exact Dr.is H rfl (Dr.run rfl (d_nilCheck hE rfl)),
    by intro a w g hE H; exact Dr.is H rfl (Dr.run rfl (d_fieldAddr fld177_1 hE rfl)),
    by intro a w g hE H; exact Dr.is H rfl (Dr.run rfl (d_load sc174 hE rfl H 1 rfl rfl)),
    by intro a w g hE H; exact Dr.is H rfl (Dr.run rfl (d_fieldAddr fld60_0 hE rfl)),
    by intro a w g hE H; exact Dr.is H rfl (Dr.run rfl (d_load sc3 hE rfl H 0 rfl rfl)),
    by intro a w g hE H; exact Dr.is H rfl (Dr.run rfl (b_lookup2 (V := (fun x : Int => (.int .u64 x))) (zx := 0) (c := (cInt .u64)) (g := false) Try.underlying174 Try.underlying3 zv61 (fun _ _ _ h => by rw [h]; rfl) hE rfl rfl hx81 H 2 rfl)),
    by intro a w g hE H; exact Dr.is H rfl (Dr.run rfl (d_move hE rfl)),
    by intro a w g hE H; exact Dr.is H rfl (Dr.run rfl (d_extract hE rfl rfl)),
    by intro a w g hE H; exact Dr.is H rfl (Dr.run rfl (d_extract hE rfl rfl)),
    by intro a w g hE H; exact Dr.is H rfl (Dr.run rfl (d_assign hE rfl)),
    by intro a w g hE H; exact Dr.is H rfl (Dr.run rfl (d_assign hE rfl)),
    trivial⟩
  · trivial
  · intro a w g hE H
    have H : St z I w (Bl q77 60 [(.int .i64 a1.From), (.int .i64 a1.To), (.int .i64 a1.Cost)] :: Bl q0 177 [(.int .i64 a0_root), (.map (some q0_at)), (.map (some q0_vias)), (.map (some q0_many))] :: MapR (cInt .u64) false q0_at a0_at :: MapO (cInt .i64) q0_vias g0_vias a0_vias [] :: MapR (cInt .u64) false q0_many a0_many :: r) := H
    refine wp_seq ?_
    obtain ⟨x84, hx85, hm⟩ := bnd hm
    refine Dr.region (γ := Unit) (pre := [[], [0], [0, 1], [0, 1, 2], [], [4], [0, 1, 2, 3, 4, 5], [0, 1, 2, 3, 4, 5, 6], [0, 1, 2, 3, 4, 5, 6, 7], [0, 1, 2, 3, 4, 5, 6, 7], [0, 1, 2, 3, 4, 5, 6, 7, 8], [0, 1, 2, 3, 4, 5, 6, 7, 8, 9, 10]]) (val := [some (.pointer (some (ad q0 0))), some (.pointer (some (ad q0 0))), some (.pointer (some (ad q0 (0 + 1)))), some (.map (some q0_at)), some (.pointer (some (ad q77 (0 + 1)))), some (.int .i64 a1.To), some (.tuple #[(.int .u64 x84), (.bool ((mget a0_at a1.To).isSome))]), some (.tuple #[(.int .u64 x84), (.bool ((mget a0_at a1.To).isSome))]), some (.int .u64 x84), some (.bool ((mget a0_at a1.To).isSome)), some (.int .u64 x84), some (.bool ((mget a0_at a1.To).isSome))]) (eff := []) (mask := [[]]) (keys := [[]]) (src := [[.base 0], [.op 0], [.op 1], [.op 2], [.base 3], [.op 4], [.op 3, .op 5], [.op 6], [.op 7], [.op 7], [.op 8], [.op 9]]) (z := z) (ef := fun p g => ([[]] : List (List (Nat × Value))).getD p []) (hi := fun _ _ => I) (rs := fun p g => ([Bl q77 60 [(.int .i64 a1.From), (.int .i64 a1.To), (.int .i64 a1.Cost)] :: Bl q0 177 [(.int .i64 a0_root), (.map (some q0_at)), (.map (some q0_vias)), (.map (some q0_many))] :: MapR (cInt .u64) false q0_at a0_at :: MapO (cInt .i64) q0_vias g0_vias a0_vias [] :: MapR (cInt .u64) false q0_many a0_many :: r] : List (List Asn)).getD p []) [(0, 0), (1, 0), (2, 0), (3, 0), (4, 0), (5, 0), (6, 0), (7, 0), (8, 0), (9, 0), (10, 0), (11, 0)] [] [0, 1, 2, 3, 4, 5, 6, 7, 8, 9, 10, 11] 0 mo hE () rfl H (by kernel_rfl) (by kernel_rfl) (fun p g => by cases p <;> rfl) ?_ ?_ (by kernel_rfl) (by kernel_rfl) ?_
    · exact ⟨by intro a w g hE H; exact Dr.is H rfl (Dr.run rfl (d_move hE rfl)),
    by intro a w g hE H; exact Dr.is H rfl (Dr.run rfl (d_nilCheck hE rfl)),
    by intro a w g hE H; exact Dr.is H rfl (Dr.run rfl (d_fieldAddr fld177_1 hE rfl)),
    by intro a w g hE H; exact Dr.is H rfl (Dr.run rfl (d_load sc174 hE rfl H 1 rfl rfl)),
    by intro a w g hE H; exact Dr.is H rfl (Dr.run rfl (d_fieldAddr fld60_1 hE rfl)),
    by intro a w g hE H; exact Dr.is H rfl (Dr.run rfl (d_load sc3 hE rfl H 0 rfl rfl)),
    by intro a w g hE H; exact Dr.is H rfl (Dr.run rfl (b_lookup2 (V := (fun x : Int => (.int .u64 x))) (zx := 0) (c := (cInt .u64)) (g := false) Try.underlying174 Try.underlying3 zv61 (fun _ _ _ h => by rw [h]; rfl) hE rfl rfl hx85 H 2 rfl)),
    by intro a w g hE H; exact Dr.is H rfl (Dr.run rfl (d_move hE rfl)),
    by intro a w g hE H; exact Dr.is H rfl (Dr.run rfl (d_extract hE rfl rfl)),
    by intro a w g hE H; exact Dr.is H rfl (Dr.run rfl (d_extract hE rfl rfl)),
    by intro a w g hE H; exact Dr.is H rfl (Dr.run rfl (d_assign hE rfl)),
    by intro a w g hE H; exact Dr.is H rfl (Dr.run rfl (d_assign hE rfl)),
    trivial⟩
    · trivial
    · intro a w g hE H
      have H : St z I w (Bl q77 60 [(.int .i64 a1.From), (.int .i64 a1.To), (.int .i64 a1.Cost)] :: Bl q0 177 [(.int .i64 a0_root), (.map (some q0_at)), (.map (some q0_vias)), (.map (some q0_many))] :: MapR (cInt .u64) false q0_at a0_at :: MapO (cInt .i64) q0_vias g0_vias a0_vias [] :: MapR (cInt .u64) false q0_many a0_many :: r) := H
      refine wp_seq ?_
      obtain ⟨s94, hj94, hm⟩ := bnd hm
      refine cut2 (fun a w => Env a 51 [(4, (.bool s94))] ∧ St z I w (Bl q0 177 [(.int .i64 a0_root), (.map (some q0_at)), (.map (some q0_vias)), (.map (some q0_many))] :: MapR (cInt .u64) false q0_at a0_at :: MapO (cInt .i64) q0_vias g0_vias a0_vias [] :: MapR (cInt .u64) false q0_many a0_many :: r)) ?_ ?_
      · have hm := hj94
        by_cases c95 : (mget a0_at a1.From).isSome = true
        · rw [if_pos c95] at hm
          by_cases c96 : (mget a0_at a1.To).isSome = true
          · rw [if_pos c96] at hm
            by_cases c97 : a1.To = a0_root
            · rw [if_pos c97] at hm
              refine Dr.region (γ := Unit) (pre := [[], [0], [0, 1], [0, 1, 2], [0, 1, 2, 3], [0, 1, 2, 3, 4], [0, 1, 2, 3, 4, 5], [0, 1, 2, 3, 4], [0, 1, 2, 3, 4, 7], [0, 1, 2, 3, 4, 7, 8], [0, 1, 2, 3, 4, 7, 8, 9], [0, 1, 2, 3, 4, 5, 6, 7, 8, 9, 10], [0, 1, 2, 3, 4, 5, 6, 7, 8, 9, 10, 11], [0, 1, 2, 3, 4, 5, 6, 7, 8, 9, 10, 11, 12], [0, 1, 2, 3, 4, 5, 6, 7, 8, 9, 10, 11, 12, 13], [0, 1, 2, 3, 4, 5, 6, 7, 8, 9, 10, 11, 12, 13], [0, 1, 2, 3, 4, 5, 6, 7, 8, 9, 10, 11, 12, 13, 15], [0, 1, 2, 3, 4, 5, 6, 7, 8, 9, 10, 11, 12, 13, 15, 16], [0, 1, 2, 3, 4, 5, 6, 7, 8, 9, 10, 11, 12, 13, 14, 15, 16, 17], [0, 1, 2, 3, 4, 5, 6, 7, 8, 9, 10, 11, 12, 13], [0, 1, 2, 3, 4, 5, 6, 7, 8, 9, 10, 11, 12, 13, 14, 15, 16, 17, 18, 19], [0, 1, 2, 3, 4, 5, 6, 7, 8, 9, 10, 11, 12, 13, 14, 15, 16, 17, 18, 19, 20], [0, 1, 2, 3, 4, 5, 6, 7, 8, 9, 10, 11, 12, 13, 14, 15, 16, 17, 18, 19, 20, 21]]) (val := [some (.bool ((mget a0_at a1.From).isSome)), some (.bool ((mget a0_at a1.From).isSome)), some (.bool ((mget a0_at a1.To).isSome)), some (.bool ((mget a0_at a1.To).isSome)), some (.bool ((mget a0_at a1.To).isSome)), some (.pointer (some (ad q77 (0 + 1)))), some (.int .i64 a1.To), some (.pointer (some (ad q0 0))), some (.pointer (some (ad q0 0))), some (.pointer (some (ad q0 (0 + 0)))), some (.int .i64 a0_root), some (.bool (!(decide (a1.To = a0_root)))), some (.bool (!(decide (a1.To = a0_root)))), some (.bool (!(decide (a1.To = a0_root)))), some undef, some undef, some undef, some undef, some undef, some undef, some undef, some (.bool false), some (.bool false)]) (eff := []) (mask := [[]]) (keys := [[]]) (src := [[.base 6], [.op 0], [.base 8, .op 1], [.op 1, .op 2], [.op 3], [.base 3, .op 4], [.op 4, .op 5], [.base 0, .op 4], [.op 4, .op 7], [.op 4, .op 8], [.op 4, .op 9], [.op 4, .op 6, .op 10], [.op 4, .op 11], [.op 12], [.base 5, .op 13], [.base 3, .op 13], [.op 13, .op 15], [.op 13, .op 16], [.op 13, .op 14, .op 17], [.base 7, .op 13], [.op 13, .op 18, .op 19], [.op 13, .op 20], [.op 21]]) (z := z) (ef := fun p g => ([[]] : List (List (Nat × Value))).getD p []) (hi := fun _ _ => I) (rs := fun p g => ([Bl q77 60 [(.int .i64 a1.From), (.int .i64 a1.To), (.int .i64 a1.Cost)] :: Bl q0 177 [(.int .i64 a0_root), (.map (some q0_at)), (.map (some q0_vias)), (.map (some q0_many))] :: MapR (cInt .u64) false q0_at a0_at :: MapO (cInt .i64) q0_vias g0_vias a0_vias [] :: MapR (cInt .u64) false q0_many a0_many :: r] : List (List Asn)).getD p []) [(0, 0), (1, 0), (2, 0), (3, 0), (4, 0), (5, 0), (6, 0), (7, 0), (8, 0), (9, 0), (10, 0), (11, 0), (12, 0), (13, 0), (14, 0), (15, 0), (16, 0), (17, 0), (18, 0), (19, 0), (20, 0), (21, 0), (22, 0)] [] [0, 1, 2, 3, 4, 5, 6, 7, 8, 9, 10, 11, 12, 13, 14, 15, 16, 17, 18, 19, 20, 21, 22] 0 mo hE () rfl H (by kernel_rfl) (by kernel_rfl) (fun p g => by cases p <;> rfl) ?_ ?_ (by kernel_rfl) (by kernel_rfl) ?_
              · exact ⟨by intro a w g hE H; exact Dr.is H rfl (Dr.run rfl (d_move hE rfl)),
    by intro a w g hE H; exact Dr.is H rfl (Dr.run rfl (d_move hE rfl)),
    by intro a w g hE H; exact Dr.is H rfl (Dr.rG rfl hE rfl rfl c95 (d_move hE rfl)),
    by intro a w g hE H; exact Dr.is H rfl (Dr.run rfl (d_pT hE rfl c95 rfl)),
    by intro a w g hE H; exact Dr.is H rfl (Dr.run rfl (d_move hE rfl)),
    by intro a w g hE H; exact Dr.is H rfl (Dr.rG rfl hE rfl rfl c96 (d_fieldAddr fld60_1 hE rfl)),
    by intro a w g hE H; exact Dr.is H rfl (Dr.rG rfl hE rfl rfl c96 (d_load sc3 hE rfl H 0 rfl rfl)),
    by intro a w g hE H; exact Dr.is H rfl (Dr.rG rfl hE rfl rfl c96 (d_move hE rfl)),
    by intro a w g hE H; exact Dr.is H rfl (Dr.rG rfl hE rfl rfl c96 (d_nilCheck hE rfl)),
    by intro a w g hE H; exact Dr.is H rfl (Dr.rG rfl hE rfl rfl c96 (d_fieldAddr fld177_0 hE rfl)),
    by intro a w g hE H; exact Dr.is H rfl (Dr.rG rfl hE rfl rfl c96 (d_load sc3 hE rfl H 1 rfl rfl)),
    by intro a w g hE H; exact Dr.is H rfl (Dr.rG rfl hE rfl rfl c96 (d_neq hE rfl rfl)),
    by intro a w g hE H; exact Dr.is H rfl (Dr.run rfl (d_pT hE rfl c96 rfl)),
    by intro a w g hE H; exact Dr.is H rfl (Dr.run rfl (d_move hE rfl)),
    by intro a w g hE H; exact Dr.is H rfl (Dr.pG rfl hE rfl rfl (not_f (decide_eq_true c97)) ⟨rfl, rfl⟩),
    by intro a w g hE H; exact Dr.is H rfl (Dr.pG rfl hE rfl rfl (not_f (decide_eq_true c97)) ⟨rfl, rfl⟩),
    by intro a w g hE H; exact Dr.is H rfl (Dr.pG rfl hE rfl rfl (not_f (decide_eq_true c97)) ⟨rfl, rfl⟩),
    by intro a w g hE H; exact Dr.is H rfl (Dr.pG rfl hE rfl rfl (not_f (decide_eq_true c97)) ⟨rfl, rfl⟩),
    by intro a w g hE H; exact Dr.is H rfl (Dr.pG rfl hE rfl rfl (not_f (decide_eq_true c97)) ⟨rfl, rfl⟩),
    by intro a w g hE H; exact Dr.is H rfl (Dr.pG rfl hE rfl rfl (not_f (decide_eq_true c97)) ⟨rfl, rfl⟩),
    by intro a w g hE H; exact Dr.is H rfl (Dr.pG rfl hE rfl rfl (not_f (decide_eq_true c97)) ⟨rfl, rfl⟩),
    by intro a w g hE H; exact Dr.is H rfl (Dr.run rfl (d_pF hE rfl (not_f (decide_eq_true c97)) rfl)),
    by intro a w g hE H; exact Dr.is H rfl (Dr.run rfl (d_assign hE rfl)),
    trivial⟩
              · trivial
              · intro a w g hE H
                have H : St z I w (Bl q77 60 [(.int .i64 a1.From), (.int .i64 a1.To), (.int .i64 a1.Cost)] :: Bl q0 177 [(.int .i64 a0_root), (.map (some q0_at)), (.map (some q0_vias)), (.map (some q0_many))] :: MapR (cInt .u64) false q0_at a0_at :: MapO (cInt .i64) q0_vias g0_vias a0_vias [] :: MapR (cInt .u64) false q0_many a0_many :: r) := H
                cases hm
                have H := St.get H 4 rfl
                have H := St.get H 4 rfl
                have H := St.get H 4 rfl
                have H := St.get H 4 rfl
                have H := St.del H 4
                exact ⟨hE.sub ⟨rfl, trivial⟩, H⟩
            · rw [if_neg c97] at hm
              obtain ⟨x98, hc99, hm⟩ := bnd hm
              refine Dr.region (γ := Unit) (pre := [[], [0], [0, 1], [0, 1, 2], [0, 1, 2, 3], [0, 1, 2, 3, 4], [0, 1, 2, 3, 4, 5], [0, 1, 2, 3, 4], [0, 1, 2, 3, 4, 7], [0, 1, 2, 3, 4, 7, 8], [0, 1, 2, 3, 4, 7, 8, 9], [0, 1, 2, 3, 4, 5, 6, 7, 8, 9, 10], [0, 1, 2, 3, 4, 5, 6, 7, 8, 9, 10, 11], [0, 1, 2, 3, 4, 5, 6, 7, 8, 9, 10, 11, 12], [0, 1, 2, 3, 4, 5, 6, 7, 8, 9, 10, 11, 12, 13], [0, 1, 2, 3, 4, 5, 6, 7, 8, 9, 10, 11, 12, 13], [0, 1, 2, 3, 4, 5, 6, 7, 8, 9, 10, 11, 12, 13, 15], [0, 1, 2, 3, 4, 5, 6, 7, 8, 9, 10, 11, 12, 13, 15, 16], [0, 1, 2, 3, 4, 5, 6, 7, 8, 9, 10, 11, 12, 13, 14, 15, 16, 17], [0, 1, 2, 3, 4, 5, 6, 7, 8, 9, 10, 11, 12, 13], [0, 1, 2, 3, 4, 5, 6, 7, 8, 9, 10, 11, 12, 13, 14, 15, 16, 17, 18, 19], [0, 1, 2, 3, 4, 5, 6, 7, 8, 9, 10, 11, 12, 13, 14, 15, 16, 17, 18, 19, 20], [0, 1, 2, 3, 4, 5, 6, 7, 8, 9, 10, 11, 12, 13, 14, 15, 16, 17, 18, 19, 20, 21]]) (val := [some (.bool ((mget a0_at a1.From).isSome)), some (.bool ((mget a0_at a1.From).isSome)), some (.bool ((mget a0_at a1.To).isSome)), some (.bool ((mget a0_at a1.To).isSome)), some (.bool ((mget a0_at a1.To).isSome)), some (.pointer (some (ad q77 (0 + 1)))), some (.int .i64 a1.To), some (.pointer (some (ad q0 0))), some (.pointer (some (ad q0 0))), some (.pointer (some (ad q0 (0 + 0)))), some (.int .i64 a0_root), some (.bool (!(decide (a1.To = a0_root)))), some (.bool (!(decide (a1.To = a0_root)))), some (.bool (!(decide (a1.To = a0_root)))), some (.int .u64 x80), some (.pointer (some (ad q77 (0 + 2)))), some (.int .i64 a1.Cost), some (.int .u64 (IntKind.u64.wrap a1.Cost)), some (.int .u64 x98), some (.int .u64 x84), some (.bool (decide (x98 = x84))), some (.bool (decide (x98 = x84))), some (.bool (decide (x98 = x84)))]) (eff := []) (mask := [[]]) (keys := [[]]) (src := [[.base 6], [.op 0], [.base 8, .op 1], [.op 1, .op 2], [.op 3], [.base 3, .op 4], [.op 4, .op 5], [.base 0, .op 4], [.op 4, .op 7], [.op 4, .op 8], [.op 4, .op 9], [.op 4, .op 6, .op 10], [.op 4, .op 11], [.op 12], [.base 5, .op 13], [.base 3, .op 13], [.op 13, .op 15], [.op 13, .op 16], [.op 13, .op 14, .op 17], [.base 7, .op 13], [.op 13, .op 18, .op 19], [.op 13, .op 20], [.op 21]]) (z := z) (ef := fun p g => ([[]] : List (List (Nat × Value))).getD p []) (hi := fun _ _ => I) (rs := fun p g => ([Bl q77 60 [(.int .i64 a1.From), (.int .i64 a1.To), (.int .i64 a1.Cost)] :: Bl q0 177 [(.int .i64 a0_root), (.map (some q0_at)), (.map (some q0_vias)), (.map (some q0_many))] :: MapR (cInt .u64) false q0_at a0_at :: MapO (cInt .i64) q0_vias g0_vias a0_vias [] :: MapR (cInt .u64) false q0_many a0_many :: r] : List (List Asn)).getD p []) [(0, 0), (1, 0), (2, 0), (3, 0), (4, 0), (5, 0), (6, 0), (7, 0), (8, 0), (9, 0), (10, 0), (11, 0), (12, 0), (13, 0), (14, 0), (15, 0), (16, 0), (17, 0), (18, 0), (19, 0), (20, 0), (21, 0), (22, 0)] [] [0, 1, 2, 3, 4, 5, 6, 7, 8, 9, 10, 11, 12, 13, 14, 15, 16, 17, 18, 19, 20, 21, 22] 0 mo hE () rfl H (by kernel_rfl) (by kernel_rfl) (fun p g => by cases p <;> rfl) ?_ ?_ (by kernel_rfl) (by kernel_rfl) ?_
              · exact ⟨by intro a w g hE H; exact Dr.is H rfl (Dr.run rfl (d_move hE rfl)),
    by intro a w g hE H; exact Dr.is H rfl (Dr.run rfl (d_move hE rfl)),
    by intro a w g hE H; exact Dr.is H rfl (Dr.rG rfl hE rfl rfl c95 (d_move hE rfl)),
    by intro a w g hE H; exact Dr.is H rfl (Dr.run rfl (d_pT hE rfl c95 rfl)),
    by intro a w g hE H; exact Dr.is H rfl (Dr.run rfl (d_move hE rfl)),
    by intro a w g hE H; exact Dr.is H rfl (Dr.rG rfl hE rfl rfl c96 (d_fieldAddr fld60_1 hE rfl)),
    by intro a w g hE H; exact Dr.is H rfl (Dr.rG rfl hE rfl rfl c96 (d_load sc3 hE rfl H 0 rfl rfl)),
    by intro a w g hE H; exact Dr.is H rfl (Dr.rG rfl hE rfl rfl c96 (d_move hE rfl)),
    by intro a w g hE H; exact Dr.is H rfl (Dr.rG rfl hE rfl rfl c96 (d_nilCheck hE rfl)),
    by intro a w g hE H; exact Dr.is H rfl (Dr.rG rfl hE rfl rfl c96 (d_fieldAddr fld177_0 hE rfl)),
    by intro a w g hE H; exact Dr.is H rfl (Dr.rG rfl hE rfl rfl c96 (d_load sc3 hE rfl H 1 rfl rfl)),
    by intro a w g hE H; exact Dr.is H rfl (Dr.rG rfl hE rfl rfl c96 (d_neq hE rfl rfl)),
    by intro a w g hE H; exact Dr.is H rfl (Dr.run rfl (d_pT hE rfl c96 rfl)),
    by intro a w g hE H; exact Dr.is H rfl (Dr.run rfl (d_move hE rfl)),
    by intro a w g hE H; exact Dr.is H rfl (Dr.rG rfl hE rfl rfl (not_t (decide_eq_false c97)) (d_move hE rfl)),
    by intro a w g hE H; exact Dr.is H rfl (Dr.rG rfl hE rfl rfl (not_t (decide_eq_false c97)) (d_fieldAddr fld60_2 hE rfl)),
    by intro a w g hE H; exact Dr.is H rfl (Dr.rG rfl hE rfl rfl (not_t (decide_eq_false c97)) (d_load sc3 hE rfl H 0 rfl rfl)),
    by intro a w g hE H; exact Dr.is H rfl (Dr.rG rfl hE rfl rfl (not_t (decide_eq_false c97)) (d_convert hE rfl (cv3_61 _))),
    by intro a w g hE H; exact (Dr.rG rfl hE rfl rfl (not_t (decide_eq_false c97)) (d_call c89 hE rfl (f89_ok x80 (IntKind.u64.wrap a1.Cost) hc99  H))).mono fun v w' hR => by obtain ⟨rfl, H⟩ := hR; exact ⟨rfl, H⟩,
    by intro a w g hE H; exact Dr.is H rfl (Dr.rG rfl hE rfl rfl (not_t (decide_eq_false c97)) (d_move hE rfl)),
    by intro a w g hE H; exact Dr.is H rfl (Dr.rG rfl hE rfl rfl (not_t (decide_eq_false c97)) (d_eql hE rfl rfl)),
    by intro a w g hE H; exact Dr.is H rfl (Dr.run rfl (d_pT hE rfl (not_t (decide_eq_false c97)) rfl)),
    by intro a w g hE H; exact Dr.is H rfl (Dr.run rfl (d_assign hE rfl)),
    trivial⟩
              · trivial
              · intro a w g hE H
                have H : St z I w (Bl q77 60 [(.int .i64 a1.From), (.int .i64 a1.To), (.int .i64 a1.Cost)] :: Bl q0 177 [(.int .i64 a0_root), (.map (some q0_at)), (.map (some q0_vias)), (.map (some q0_many))] :: MapR (cInt .u64) false q0_at a0_at :: MapO (cInt .i64) q0_vias g0_vias a0_vias [] :: MapR (cInt .u64) false q0_many a0_many :: r) := H
                cases hm
                have H := St.get H 4 rfl
                have H := St.get H 4 rfl
                have H := St.get H 4 rfl
                have H := St.get H 4 rfl
                have H := St.del H 4
                exact ⟨hE.sub ⟨rfl, trivial⟩, H⟩
          · rw [if_neg c96] at hm
            refine Dr.region (γ := Unit) (pre := [[], [0], [0, 1], [0, 1, 2], [0, 1, 2, 3], [0, 1, 2, 3, 4], [0, 1, 2, 3, 4, 5], [0, 1, 2, 3, 4], [0, 1, 2, 3, 4, 7], [0, 1, 2, 3, 4, 7, 8], [0, 1, 2, 3, 4, 7, 8, 9], [0, 1, 2, 3, 4, 5, 6, 7, 8, 9, 10], [0, 1, 2, 3, 4, 5, 6, 7, 8, 9, 10, 11], [0, 1, 2, 3, 4, 5, 6, 7, 8, 9, 10, 11, 12], [0, 1, 2, 3, 4, 5, 6, 7, 8, 9, 10, 11, 12, 13], [0, 1, 2, 3, 4, 5, 6, 7, 8, 9, 10, 11, 12, 13], [0, 1, 2, 3, 4, 5, 6, 7, 8, 9, 10, 11, 12, 13, 15], [0, 1, 2, 3, 4, 5, 6, 7, 8, 9, 10, 11, 12, 13, 15, 16], [0, 1, 2, 3, 4, 5, 6, 7, 8, 9, 10, 11, 12, 13, 14, 15, 16, 17], [0, 1, 2, 3, 4, 5, 6, 7, 8, 9, 10, 11, 12, 13], [0, 1, 2, 3, 4, 5, 6, 7, 8, 9, 10, 11, 12, 13, 14, 15, 16, 17, 18, 19], [0, 1, 2, 3, 4, 5, 6, 7, 8, 9, 10, 11, 12, 13, 14, 15, 16, 17, 18, 19, 20], [0, 1, 2, 3, 4, 5, 6, 7, 8, 9, 10, 11, 12, 13, 14, 15, 16, 17, 18, 19, 20, 21]]) (val := [some (.bool ((mget a0_at a1.From).isSome)), some (.bool ((mget a0_at a1.From).isSome)), some (.bool ((mget a0_at a1.To).isSome)), some (.bool ((mget a0_at a1.To).isSome)), some (.bool ((mget a0_at a1.To).isSome)), some undef, some undef, some undef, some undef, some undef, some undef, some undef, some (.bool false), some (.bool false), some undef, some undef, some undef, some undef, some undef, some undef, some undef, some (.bool false), some (.bool false)]) (eff := []) (mask := [[]]) (keys := [[]]) (src := [[.base 6], [.op 0], [.base 8, .op 1], [.op 1, .op 2], [.op 3], [.base 3, .op 4], [.op 4, .op 5], [.base 0, .op 4], [.op 4, .op 7], [.op 4, .op 8], [.op 4, .op 9], [.op 4, .op 6, .op 10], [.op 4, .op 11], [.op 12], [.base 5, .op 13], [.base 3, .op 13], [.op 13, .op 15], [.op 13, .op 16], [.op 13, .op 14, .op 17], [.base 7, .op 13], [.op 13, .op 18, .op 19], [.op 13, .op 20], [.op 21]]) (z := z) (ef := fun p g => ([[]] : List (List (Nat × Value))).getD p []) (hi := fun _ _ => I) (rs := fun p g => ([Bl q77 60 [(.int .i64 a1.From), (.int .i64 a1.To), (.int .i64 a1.Cost)] :: Bl q0 177 [(.int .i64 a0_root), (.map (some q0_at)), (.map (some q0_vias)), (.map (some q0_many))] :: MapR (cInt .u64) false q0_at a0_at :: MapO (cInt .i64) q0_vias g0_vias a0_vias [] :: MapR (cInt .u64) false q0_many a0_many :: r] : List (List Asn)).getD p []) [(0, 0), (1, 0), (2, 0), (3, 0), (4, 0), (5, 0), (6, 0), (7, 0), (8, 0), (9, 0), (10, 0), (11, 0), (12, 0), (13, 0), (14, 0), (15, 0), (16, 0), (17, 0), (18, 0), (19, 0), (20, 0), (21, 0), (22, 0)] [] [0, 1, 2, 3, 4, 5, 6, 7, 8, 9, 10, 11, 12, 13, 14, 15, 16, 17, 18, 19, 20, 21, 22] 0 mo hE () rfl H (by kernel_rfl) (by kernel_rfl) (fun p g => by cases p <;> rfl) ?_ ?_ (by kernel_rfl) (by kernel_rfl) ?_
            · exact ⟨by intro a w g hE H; exact Dr.is H rfl (Dr.run rfl (d_move hE rfl)),
    by intro a w g hE H; exact Dr.is H rfl (Dr.run rfl (d_move hE rfl)),
    by intro a w g hE H; exact Dr.is H rfl (Dr.rG rfl hE rfl rfl c95 (d_move hE rfl)),
    by intro a w g hE H; exact Dr.is H rfl (Dr.run rfl (d_pT hE rfl c95 rfl)),
    by intro a w g hE H; exact Dr.is H rfl (Dr.run rfl (d_move hE rfl)),
    by intro a w g hE H; exact Dr.is H rfl (Dr.pG rfl hE rfl rfl (b_f c96) ⟨rfl, rfl⟩),
    by intro a w g hE H; exact Dr.is H rfl (Dr.pG rfl hE rfl rfl (b_f c96) ⟨rfl, rfl⟩),
    by intro a w g hE H; exact Dr.is H rfl (Dr.pG rfl hE rfl rfl (b_f c96) ⟨rfl, rfl⟩),
    by intro a w g hE H; exact Dr.is H rfl (Dr.pG rfl hE rfl rfl (b_f c96) ⟨rfl, rfl⟩),
    by intro a w g hE H; exact Dr.is H rfl (Dr.pG rfl hE rfl rfl (b_f c96) ⟨rfl, rfl⟩),
    by intro a w g hE H; exact Dr.is H rfl (Dr.pG rfl hE rfl rfl (b_f c96) ⟨rfl, rfl⟩),
    by intro a w g hE H; exact Dr.is H rfl (Dr.pG rfl hE rfl rfl (b_f c96) ⟨rfl, rfl⟩),
    by intro a w g hE H; exact Dr.is H rfl (Dr.run rfl (d_pF hE rfl (b_f c96) rfl)),
    by intro a w g hE H; exact Dr.is H rfl (Dr.run rfl (d_move hE rfl)),
    by intro a w g hE H; exact Dr.is H rfl (Dr.pG rfl hE rfl rfl rfl ⟨rfl, rfl⟩),
    by intro a w g hE H; exact Dr.is H rfl (Dr.pG rfl hE rfl rfl rfl ⟨rfl, rfl⟩),
    by intro a w g hE H; exact Dr.is H rfl (Dr.pG rfl hE rfl rfl rfl ⟨rfl, rfl⟩),
    by intro a w g hE H; exact Dr.is H rfl (Dr.pG rfl hE rfl rfl rfl ⟨rfl, rfl⟩),
    by intro a w g hE H; exact Dr.is H rfl (Dr.pG rfl hE rfl rfl rfl ⟨rfl, rfl⟩),
    by intro a w g hE H; exact Dr.is H rfl (Dr.pG rfl hE rfl rfl rfl ⟨rfl, rfl⟩),
    by intro a w g hE H; exact Dr.is H rfl (Dr.pG rfl hE rfl rfl rfl ⟨rfl, rfl⟩),
    by intro a w g hE H; exact Dr.is H rfl (Dr.run rfl (d_pF hE rfl rfl rfl)),
    by intro a w g hE H; exact Dr.is H rfl (Dr.run rfl (d_assign hE rfl)),
    trivial⟩
            · trivial
            · intro a w g hE H
              have H : St z I w (Bl q77 60 [(.int .i64 a1.From), (.int .i64 a1.To), (.int .i64 a1.Cost)] :: Bl q0 177 [(.int .i64 a0_root), (.map (some q0_at)), (.map (some q0_vias)), (.map (some q0_many))] :: MapR (cInt .u64) false q0_at a0_at :: MapO (cInt .i64) q0_vias g0_vias a0_vias [] :: MapR (cInt .u64) false q0_many a0_many :: r) := H
              cases hm
              have H := St.get H 4 rfl
              have H := St.get H 4 rfl
              have H := St.get H 4 rfl
              have H := St.get H 4 rfl
              have H := St.del H 4
              exact ⟨hE.sub ⟨rfl, trivial⟩, H⟩
        · rw [if_neg c95] at hm
          refine Dr.region (γ := Unit) (pre := [[], [0], [0, 1], [0, 1, 2], [0, 1, 2, 3], [0, 1, 2, 3, 4], [0, 1, 2, 3, 4, 5], [0, 1, 2, 3, 4], [0, 1, 2, 3, 4, 7], [0, 1, 2, 3, 4, 7, 8], [0, 1, 2, 3, 4, 7, 8, 9], [0, 1, 2, 3, 4, 5, 6, 7, 8, 9, 10], [0, 1, 2, 3, 4, 5, 6, 7, 8, 9, 10, 11], [0, 1, 2, 3, 4, 5, 6, 7, 8, 9, 10, 11, 12], [0, 1, 2, 3, 4, 5, 6, 7, 8, 9, 10, 11, 12, 13], [0, 1, 2, 3, 4, 5, 6, 7, 8, 9, 10, 11, 12, 13], [0, 1, 2, 3, 4, 5, 6, 7, 8, 9, 10, 11, 12, 13, 15], [0, 1, 2, 3, 4, 5, 6, 7, 8, 9, 10, 11, 12, 13, 15, 16], [0, 1, 2, 3, 4, 5, 6, 7, 8, 9, 10, 11, 12, 13, 14, 15, 16, 17], [0, 1, 2, 3, 4, 5, 6, 7, 8, 9, 10, 11, 12, 13], [0, 1, 2, 3, 4, 5, 6, 7, 8, 9, 10, 11, 12, 13, 14, 15, 16, 17, 18, 19], [0, 1, 2, 3, 4, 5, 6, 7, 8, 9, 10, 11, 12, 13, 14, 15, 16, 17, 18, 19, 20], [0, 1, 2, 3, 4, 5, 6, 7, 8, 9, 10, 11, 12, 13, 14, 15, 16, 17, 18, 19, 20, 21]]) (val := [some (.bool ((mget a0_at a1.From).isSome)), some (.bool ((mget a0_at a1.From).isSome)), some undef, some (.bool false), some (.bool false), some undef, some undef, some undef, some undef, some undef, some undef, some undef, some (.bool false), some (.bool false), some undef, some undef, some undef, some undef, some undef, some undef, some undef, some (.bool false), some (.bool false)]) (eff := []) (mask := [[]]) (keys := [[]]) (src := [[.base 6], [.op 0], [.base 8, .op 1], [.op 1, .op 2], [.op 3], [.base 3, .op 4], [.op 4, .op 5], [.base 0, .op 4], [.op 4, .op 7], [.op 4, .op 8], [.op 4, .op 9], [.op 4, .op 6, .op 10], [.op 4, .op 11], [.op 12], [.base 5, .op 13], [.base 3, .op 13], [.op 13, .op 15], [.op 13, .op 16], [.op 13, .op 14, .op 17], [.base 7, .op 13], [.op 13, .op 18, .op 19], [.op 13, .op 20], [.op 21]]) (z := z) (ef := fun p g => ([[]] : List (List (Nat × Value))).getD p []) (hi := fun _ _ => I) (rs := fun p g => ([Bl q77 60 [(.int .i64 a1.From), (.int .i64 a1.To), (.int .i64 a1.Cost)] :: Bl q0 177 [(.int .i64 a0_root), (.map (some q0_at)), (.map (some q0_vias)), (.map (some q0_many))] :: MapR (cInt .u64) false q0_at a0_at :: MapO (cInt .i64) q0_vias g0_vias a0_vias [] :: MapR (cInt .u64) false q0_many a0_many :: r] : List (List Asn)).getD p []) [(0, 0), (1, 0), (2, 0), (3, 0), (4, 0), (5, 0), (6, 0), (7, 0), (8, 0), (9, 0), (10, 0), (11, 0), (12, 0), (13, 0), (14, 0), (15, 0), (16, 0), (17, 0), (18, 0), (19, 0), (20, 0), (21, 0), (22, 0)] [] [0, 1, 2, 3, 4, 5, 6, 7, 8, 9, 10, 11, 12, 13, 14, 15, 16, 17, 18, 19, 20, 21, 22] 0 mo hE () rfl H (by kernel_rfl) (by kernel_rfl) (fun p g => by cases p <;> rfl) ?_ ?_ (by kernel_rfl) (by kernel_rfl) ?_
          · exact ⟨by intro a w g hE H; exact Dr.is H rfl (Dr.run rfl (d_move hE rfl)),
    by intro a w g hE H; exact Dr.is H rfl (Dr.run rfl (d_move hE rfl)),
    by intro a w g hE H; exact Dr.is H rfl (Dr.pG rfl hE rfl rfl (b_f c95) ⟨rfl, rfl⟩),
    by intro a w g hE H; exact Dr.is H rfl (Dr.run rfl (d_pF hE rfl (b_f c95) rfl)),
    by intro a w g hE H; exact Dr.is H rfl (Dr.run rfl (d_move hE rfl)),
    by intro a w g hE H; exact Dr.is H rfl (Dr.pG rfl hE rfl rfl rfl ⟨rfl, rfl⟩),
    by intro a w g hE H; exact Dr.is H rfl (Dr.pG rfl hE rfl rfl rfl ⟨rfl, rfl⟩),
    by intro a w g hE H; exact Dr.is H rfl (Dr.pG rfl hE rfl rfl rfl ⟨rfl, rfl⟩),
    by intro a w g hE H; exact Dr.is H rfl (Dr.pG rfl hE rfl rfl rfl ⟨rfl, rfl⟩),
    by intro a w g hE H; exact Dr.is H rfl (Dr.pG rfl hE rfl rfl rfl ⟨rfl, rfl⟩),
    by intro a w g hE H; exact Dr.is H rfl (Dr.pG rfl hE rfl rfl rfl ⟨rfl, rfl⟩),
    by intro a w g hE H; exact Dr.is H rfl (Dr.pG rfl hE rfl rfl rfl ⟨rfl, rfl⟩),
    by intro a w g hE H; exact Dr.is H rfl (Dr.run rfl (d_pF hE rfl rfl rfl)),
    by intro a w g hE H; exact Dr.is H rfl (Dr.run rfl (d_move hE rfl)),
    by intro a w g hE H; exact Dr.is H rfl (Dr.pG rfl hE rfl rfl rfl ⟨rfl, rfl⟩),
    by intro a w g hE H; exact Dr.is H rfl (Dr.pG rfl hE rfl rfl rfl ⟨rfl, rfl⟩),
    by intro a w g hE H; exact Dr.is H rfl (Dr.pG rfl hE rfl rfl rfl ⟨rfl, rfl⟩),
    by intro a w g hE H; exact Dr.is H rfl (Dr.pG rfl hE rfl rfl rfl ⟨rfl, rfl⟩),
    by intro a w g hE H; exact Dr.is H rfl (Dr.pG rfl hE rfl rfl rfl ⟨rfl, rfl⟩),
    by intro a w g hE H; exact Dr.is H rfl (Dr.pG rfl hE rfl rfl rfl ⟨rfl, rfl⟩),
    by intro a w g hE H; exact Dr.is H rfl (Dr.pG rfl hE rfl rfl rfl ⟨rfl, rfl⟩),
    by intro a w g hE H; exact Dr.is H rfl (Dr.run rfl (d_pF hE rfl rfl rfl)),
    by intro a w g hE H; exact Dr.is H rfl (Dr.run rfl (d_assign hE rfl)),
    trivial⟩
          · trivial
          · intro a w g hE H
            have H : St z I w (Bl q77 60 [(.int .i64 a1.From), (.int .i64 a1.To), (.int .i64 a1.Cost)] :: Bl q0 177 [(.int .i64 a0_root), (.map (some q0_at)), (.map (some q0_vias)), (.map (some q0_many))] :: MapR (cInt .u64) false q0_at a0_at :: MapO (cInt .i64) q0_vias g0_vias a0_vias [] :: MapR (cInt .u64) false q0_many a0_many :: r) := H
            cases hm
            have H := St.get H 4 rfl
            have H := St.get H 4 rfl
            have H := St.get H 4 rfl
            have H := St.get H 4 rfl
            have H := St.del H 4
            exact ⟨hE.sub ⟨rfl, trivial⟩, H⟩
      · rintro a w ⟨hE, H⟩
        refine wp_ret ?_
        cases hm
        exact ret1 rfl hE rfl ⟨_, rfl, rfl, H⟩
def m118 (a0_root : Int) (a0_at : List (Int × Int)) (a0_vias : List (Int × (List Int))) (a0_many : List (Int × Int)) (a1 : S_api_Arc) : Option ((List (Int × (List Int))) × (List (Int × Int))) := if a1.From = a0_root then (Option.bind (mgetO [] a0_vias a1.To) fun x200 => Option.bind (appd 17592186044416 x200 ([a1.To])) fun l203 => Option.bind (some (mput a0_vias a1.To l203)) fun mp206 => Option.bind (some ((mget a0_many a1.To).getD 0)) fun x215 => Option.bind (m89 x215 1) fun x217 => Option.bind (some (mput a0_many a1.To x217)) fun mp219 => some (mp206, mp219)) else (Option.bind (mgetO [] a0_vias a1.To) fun x231 => Option.bind (mgetO [] a0_vias a1.From) fun x233 => Option.bind (appd 17592186044416 x231 x233) fun l235 => Option.bind (some (mput a0_vias a1.To l235)) fun mp238 => Option.bind (some ((mget a0_many a1.To).getD 0)) fun x249 => Option.bind (some ((mget a0_many a1.From).getD 0)) fun x251 => Option.bind (m89 x249 x251) fun x253 => Option.bind (some (mput a0_many a1.To x253)) fun mp255 => some (mp238, mp255))
set_option maxRecDepth 20000 in
set_option maxHeartbeats 4000000 in
theorem f118_ok {q0 : Nat} (a0_root : Int) {q0_at : Nat} (a0_at : List (Int × Int)) {q0_vias : Nat} {g0_vias : List Value} (a0_vias : List (Int × (List Int))) {q0_many : Nat} (a0_many : List (Int × Int)) (a1 : S_api_Arc) {res : (List (Int × (List Int))) × (List (Int × Int))} (hm : m118 a0_root a0_at a0_vias a0_many a1 = some res) {z w : World} {I : Hp} {r : List Asn}  (H : St z I w (Bl q0 177 [(.int .i64 a0_root), (.map (some q0_at)), (.map (some q0_vias)), (.map (some q0_many))] :: MapR (cInt .u64) false q0_at a0_at :: MapO (cInt .i64) q0_vias g0_vias a0_vias [] :: MapR (cInt .u64) false q0_many a0_many :: r)) :
    Calls Try.prog 118 #[(.pointer (some (ad q0 0))), (.agg #[(.int .i64 a1.From), (.int .i64 a1.To), (.int .i64 a1.Cost)])] w (Rt fun v w' => ∃ g154 : List Value, v = (.tuple #[]) ∧ St z I w' (Bl q0 177 [(.int .i64 a0_root), (.map (some q0_at)), (.map (some q0_vias)), (.map (some q0_many))] :: MapR (cInt .u64) false q0_at a0_at :: MapO (cInt .i64) q0_vias g154 res.1 [] :: MapR (cInt .u64) false q0_many res.2 :: r)) := by
  unfold m118 at hm
  refine enter (args := [(.pointer (some (ad q0 0))), (.agg #[(.int .i64 a1.From), (.int .i64 a1.To), (.int .i64 a1.Cost)])]) Try.func118 rfl Try.ntmps118 rfl fun a hE => ?_
  refine wp_seq ?_
  refine wp_region_lit ?_
  refine s2 hE rfl (d_box hE rfl H) fun a v w hR hE => ?_
  obtain ⟨q158, rfl, H⟩ := hR
  have H : St z I w (Bl q158 60 [(.int .i64 a1.From), (.int .i64 a1.To), (.int .i64 a1.Cost)] :: Bl q0 177 [(.int .i64 a0_root), (.map (some q0_at)), (.map (some q0_vias)), (.map (some q0_many))] :: MapR (cInt .u64) false q0_at a0_at :: MapO (cInt .i64) q0_vias g0_vias a0_vias [] :: MapR (cInt .u64) false q0_many a0_many :: r) := H
  refine wpList_nil ?_
  refine wp_seq ?_
  refine wp_seq ?_
  refine Dr.region (γ := Unit) (pre := [[], [0], [], [2], [2, 3], [2, 3, 4], [0, 1, 2, 3, 4, 5]]) (val := [some (.pointer (some (ad q158 (0 + 0)))), some (.int .i64 a1.From), some (.pointer (some (ad q0 0))), some (.pointer (some (ad q0 0))), some (.pointer (some (ad q0 (0 + 0)))), some (.int .i64 a0_root), some (.bool (decide (a1.From = a0_root)))]) (eff := []) (mask := [[]]) (keys := [[]]) (src := [[.base 3], [.op 0], [.base 0], [.op 2], [.op 3], [.op 4], [.op 1, .op 5]]) (z := z) (ef := fun p g => ([[]] : List (List (Nat × Value))).getD p []) (hi := fun _ _ => I) (rs := fun p g => ([Bl q158 60 [(.int .i64 a1.From), (.int .i64 a1.To), (.int .i64 a1.Cost)] :: Bl q0 177 [(.int .i64 a0_root), (.map (some q0_at)), (.map (some q0_vias)), (.map (some q0_many))] :: MapR (cInt .u64) false q0_at a0_at :: MapO (cInt .i64) q0_vias g0_vias a0_vias [] :: MapR (cInt .u64) false q0_many a0_many :: r] : List (List Asn)).getD p []) [(0, 0), (1, 0), (2, 0), (3, 0), (4, 0), (5, 0), (6, 0)] [] [0, 1, 2, 3, 4, 5, 6] 0 mo hE () rfl H (by kernel_rfl) (by kernel_rfl) (fun p g => by cases p <;> rfl) ?_ ?_ (by kernel_rfl) (by kernel_rfl) ?_
  · exact ⟨by intro a w g hE H; exact Dr.is H rfl (Dr.run rfl (d_fieldAddr fld60_0 hE rfl)),
    by intro a w g hE H; exact Dr.is H rfl (Dr.run rfl (d_load sc3 hE rfl H 0 rfl rfl)),
    by intro a w g hE H; exact Dr.is H rfl (Dr.run rfl (d_move hE rfl)),
    by intro a w g hE H; exact Dr.is H rfl (Dr.run rfl (d_nilCheck hE rfl)),
    by intro a w g hE H; exact Dr.is H rfl (Dr.run rfl (d_fieldAddr fld177_0 hE rfl)),
    by intro a w g hE H; exact Dr.is H rfl (Dr.run rfl (d_load sc3 hE rfl H 1 rfl rfl)),
    by intro a w g hE H; exact Dr.is H rfl (Dr.run rfl (d_eql hE rfl rfl)),
    trivial⟩
  · trivial
  · intro a w g hE H
    have H : St z I w (Bl q158 60 [(.int .i64 a1.From), (.int .i64 a1.To), (.int .i64 a1.Cost)] :: Bl q0 177 [(.int .i64 a0_root), (.map (some q0_at)), (.map (some q0_vias)), (.map (some q0_many))] :: MapR (cInt .u64) false q0_at a0_at :: MapO (cInt .i64) q0_vias g0_vias a0_vias [] :: MapR (cInt .u64) false q0_many a0_many :: r) := H
    by_cases c190 : a1.From = a0_root
    · rw [if_pos c190] at hm
      refine cT hE rfl (decide_eq_true c190) ?_
      refine wp_seq ?_
      obtain ⟨x200, hx201, hm⟩ := bnd hm
      obtain ⟨l203, ha204, hm⟩ := bnd hm
      obtain ⟨mp206, hl207, hm⟩ := bnd hm
      refine Dr.region (γ := Value × Value × List Value) (pre := [[], [0], [0, 1], [0, 1, 2], [], [4], [], [6], [6, 7], [6, 7, 8], [], [10], [6, 7, 8, 9, 10, 11], [], [13], [13, 14], [6, 7, 8, 9, 10, 11, 12, 13, 14, 15], [0, 1, 2, 3, 4, 5, 6, 7, 8, 9, 10, 11, 12, 13, 14, 15, 16]]) (val := [some (.pointer (some (ad q0 0))), some (.pointer (some (ad q0 0))), some (.pointer (some (ad q0 (0 + 2)))), some (.map (some q0_vias)), some (.pointer (some (ad q158 (0 + 1)))), some (.int .i64 a1.To), some (.pointer (some (ad q0 0))), some (.pointer (some (ad q0 0))), some (.pointer (some (ad q0 (0 + 2)))), some (.map (some q0_vias)), some (.pointer (some (ad q158 (0 + 1)))), some (.int .i64 a1.To), some (vget g0_vias a0_vias a1.To), some (.pointer (some (ad q158 (0 + 1)))), some (.int .i64 a1.To), none, none, none]) (eff := [15, 16, 17]) (mask := [[], [15], [15, 16], [15, 16, 17]]) (keys := [[], [26], [27, 26], [27, 26]]) (src := [[.base 0], [.op 0], [.op 1], [.op 2], [.base 3], [.op 4], [.base 0], [.op 6], [.op 7], [.op 8], [.base 3], [.op 10], [.op 9, .op 11], [.base 3], [.op 13], [.op 14], [.op 12], [.op 3, .op 5]]) (z := z) (ef := fun p g => ([[], [(26, g.1)], [(27, g.2.1), (26, g.1)], [(27, g.2.1), (26, g.1)]] : List (List (Nat × Value))).getD p []) (hi := fun _ _ => I) (rs := fun p g => ([Bl q158 60 [(.int .i64 a1.From), (.int .i64 a1.To), (.int .i64 a1.Cost)] :: Bl q0 177 [(.int .i64 a0_root), (.map (some q0_at)), (.map (some q0_vias)), (.map (some q0_many))] :: MapR (cInt .u64) false q0_at a0_at :: MapO (cInt .i64) q0_vias g0_vias a0_vias [] :: MapR (cInt .u64) false q0_many a0_many :: r, OwnSl (cInt .i64) g.1 ([a1.To]) :: Bl q158 60 [(.int .i64 a1.From), (.int .i64 a1.To), (.int .i64 a1.Cost)] :: Bl q0 177 [(.int .i64 a0_root), (.map (some q0_at)), (.map (some q0_vias)), (.map (some q0_many))] :: MapR (cInt .u64) false q0_at a0_at :: MapO (cInt .i64) q0_vias g0_vias a0_vias [] :: MapR (cInt .u64) false q0_many a0_many :: r, OwnSl (cInt .i64) g.2.1 l203 :: MapO (cInt .i64) q0_vias g0_vias a0_vias (a1.To :: []) :: Bl q158 60 [(.int .i64 a1.From), (.int .i64 a1.To), (.int .i64 a1.Cost)] :: Bl q0 177 [(.int .i64 a0_root), (.map (some q0_at)), (.map (some q0_vias)), (.map (some q0_many))] :: MapR (cInt .u64) false q0_at a0_at :: MapR (cInt .u64) false q0_many a0_many :: r, MapO (cInt .i64) q0_vias g.2.2 mp206 [] :: Bl q158 60 [(.int .i64 a1.From), (.int .i64 a1.To), (.int .i64 a1.Cost)] :: Bl q0 177 [(.int .i64 a0_root), (.map (some q0_at)), (.map (some q0_vias)), (.map (some q0_many))] :: MapR (cInt .u64) false q0_at a0_at :: MapR (cInt .u64) false q0_many a0_many :: r] : List (List Asn)).getD p []) [(0, 0), (1, 0), (2, 0), (3, 0), (4, 0), (5, 0), (6, 0), (7, 0), (8, 0), (9, 0), (10, 0), (11, 0), (12, 0), (13, 0), (14, 0), (0, 1), (1, 1), (2, 1), (3, 1), (4, 1), (5, 1), (6, 1), (7, 1), (8, 1), (9, 1), (10, 1), (11, 1), (12, 1), (0, 2), (1, 2), (2, 2), (3, 2), (4, 2), (5, 2)] [(0, 15, 1), (1, 16, 2), (2, 17, 3)] [0, 1, 2, 3, 4, 5, 6, 7, 8, 9, 10, 11, 12, 13, 14] 3 mo hE (undef, undef, []) rfl H (by kernel_rfl) (by kernel_rfl) (fun p g => by rcases p with _ | _ | _ | _ | p <;> rfl) ?_ ?_ (by kernel_rfl) (by kernel_rfl) ?_
      · exact ⟨by intro a w g hE H; obtain ⟨v202, v205, g208⟩ := g; exact Dr.is H rfl (Dr.run rfl (d_move hE rfl)),
    by intro a w g hE H; obtain ⟨v202, v205, g208⟩ := g; exact Dr.is H rfl (Dr.run rfl (d_nilCheck hE rfl)),
    by intro a w g hE H; obtain ⟨v202, v205, g208⟩ := g; exact Dr.is H rfl (Dr.run rfl (d_fieldAddr fld177_2 hE rfl)),
    by intro a w g hE H; obtain ⟨v202, v205, g208⟩ := g; exact Dr.is H rfl (Dr.run rfl (d_load sc175 hE rfl H 1 rfl rfl)),
    by intro a w g hE H; obtain ⟨v202, v205, g208⟩ := g; exact Dr.is H rfl (Dr.run rfl (d_fieldAddr fld60_1 hE rfl)),
    by intro a w g hE H; obtain ⟨v202, v205, g208⟩ := g; exact Dr.is H rfl (Dr.run rfl (d_load sc3 hE rfl H 0 rfl rfl)),
    by intro a w g hE H; obtain ⟨v202, v205, g208⟩ := g; exact Dr.is H rfl (Dr.run rfl (d_move hE rfl)),
    by intro a w g hE H; obtain ⟨v202, v205, g208⟩ := g; exact Dr.is H rfl (Dr.run rfl (d_nilCheck hE rfl)),
    by intro a w g hE H; obtain ⟨v202, v205, g208⟩ := g; exact Dr.is H rfl (Dr.run rfl (d_fieldAddr fld177_2 hE rfl)),
    by intro a w g hE H; obtain ⟨v202, v205, g208⟩ := g; exact Dr.is H rfl (Dr.run rfl (d_load sc175 hE rfl H 1 rfl rfl)),
    by intro a w g hE H; obtain ⟨v202, v205, g208⟩ := g; exact Dr.is H rfl (Dr.run rfl (d_fieldAddr fld60_1 hE rfl)),
    by intro a w g hE H; obtain ⟨v202, v205, g208⟩ := g; exact Dr.is H rfl (Dr.run rfl (d_load sc3 hE rfl H 0 rfl rfl)),
    by intro a w g hE H; obtain ⟨v202, v205, g208⟩ := g; exact Dr.is H rfl (Dr.run rfl (d_lookO1 Try.underlying175 Try.underlying3 zv51 hE rfl rfl H 3 rfl)),
    by intro a w g hE H; obtain ⟨v202, v205, g208⟩ := g; exact Dr.is H rfl (Dr.run rfl (d_fieldAddr fld60_1 hE rfl)),
    by intro a w g hE H; obtain ⟨v202, v205, g208⟩ := g; exact Dr.is H rfl (Dr.run rfl (d_load sc3 hE rfl H 0 rfl rfl)),
    by intro a w g hE H; obtain ⟨v202, v205, g208⟩ := g; exact Dr.is H rfl (Dr.run rfl (d_move hE rfl)),
    by intro a w g hE H; obtain ⟨v202, v205, g208⟩ := g; exact Dr.is H rfl (Dr.run rfl (d_nilCheck hE rfl)),
    by intro a w g hE H; obtain ⟨v202, v205, g208⟩ := g; exact Dr.is H rfl (Dr.run rfl (d_fieldAddr fld177_2 hE rfl)),
    by intro a w g hE H; obtain ⟨v202, v205, g208⟩ := g; exact Dr.is H rfl (Dr.run rfl (d_load sc175 hE rfl H 2 rfl rfl)),
    by intro a w g hE H; obtain ⟨v202, v205, g208⟩ := g; exact Dr.is H rfl (Dr.run rfl (d_fieldAddr fld60_1 hE rfl)),
    by intro a w g hE H; obtain ⟨v202, v205, g208⟩ := g; exact Dr.is H rfl (Dr.run rfl (d_load sc3 hE rfl H 1 rfl rfl)),
    by intro a w g hE H; obtain ⟨v202, v205, g208⟩ := g; exact Dr.is H rfl (Dr.run rfl (d_move hE rfl)),
    by intro a w g hE H; obtain ⟨v202, v205, g208⟩ := g; exact Dr.is H rfl (Dr.run rfl (d_nilCheck hE rfl)),
    by intro a w g hE H; obtain ⟨v202, v205, g208⟩ := g; exact Dr.is H rfl (Dr.run rfl (d_fieldAddr fld177_2 hE rfl)),
    by intro a w g hE H; obtain ⟨v202, v205, g208⟩ := g; exact Dr.is H rfl (Dr.run rfl (d_load sc175 hE rfl H 2 rfl rfl)),
    by intro a w g hE H; obtain ⟨v202, v205, g208⟩ := g; exact Dr.is H rfl (Dr.run rfl (d_fieldAddr fld60_1 hE rfl)),
    by intro a w g hE H; obtain ⟨v202, v205, g208⟩ := g; exact Dr.is H rfl (Dr.run rfl (d_load sc3 hE rfl H 1 rfl rfl)),
    by intro a w g hE H; obtain ⟨v202, v205, g208⟩ := g; exact Dr.is H rfl (Dr.run rfl (d_lookO1 Try.underlying175 Try.underlying3 zv51 hE rfl rfl H 4 rfl)),
    by intro a w g hE H; obtain ⟨v202, v205, g208⟩ := g; exact Dr.is H rfl (Dr.run rfl (d_move hE rfl)),
    by intro a w g hE H; obtain ⟨v202, v205, g208⟩ := g; exact Dr.is H rfl (Dr.run rfl (d_nilCheck hE rfl)),
    by intro a w g hE H; obtain ⟨v202, v205, g208⟩ := g; exact Dr.is H rfl (Dr.run rfl (d_fieldAddr fld177_2 hE rfl)),
    by intro a w g hE H; obtain ⟨v202, v205, g208⟩ := g; exact Dr.is H rfl (Dr.run rfl (d_load sc175 hE rfl H 3 rfl rfl)),
    by intro a w g hE H; obtain ⟨v202, v205, g208⟩ := g; exact Dr.is H rfl (Dr.run rfl (d_fieldAddr fld60_1 hE rfl)),
    by intro a w g hE H; obtain ⟨v202, v205, g208⟩ := g; exact Dr.is H rfl (Dr.run rfl (d_load sc3 hE rfl H 2 rfl rfl)),
    trivial⟩
      · exact ⟨by intro a w g hE hF H; obtain ⟨v202, v205, g208⟩ := g; refine (Dr.run rfl (d_lit (c := (cInt .i64)) (xs := [a1.To]) hE rfl (lit51_1 _) rfl rfl (fun J h iJ s => rowsC (cs := [(.int .i64 a1.To)]) rfl (rows0)) H)).mono fun v w hR => ?_; obtain ⟨v202, rfl⟩ : ∃ x, x = v := ⟨v, rfl⟩; have H : St z I w (OwnSl (cInt .i64) v202 ([a1.To]) :: Bl q158 60 [(.int .i64 a1.From), (.int .i64 a1.To), (.int .i64 a1.Cost)] :: Bl q0 177 [(.int .i64 a0_root), (.map (some q0_at)), (.map (some q0_vias)), (.map (some q0_many))] :: MapR (cInt .u64) false q0_at a0_at :: MapO (cInt .i64) q0_vias g0_vias a0_vias [] :: MapR (cInt .u64) false q0_many a0_many :: r) := hR; exact ⟨(v202, v205, g208), H, Dr.lkSub ⟨rfl, trivial⟩⟩,
    by intro a w g hE hF H; obtain ⟨v202, v205, g208⟩ := g; have hE := Dr.env_both hE hF; have H := St.get H 4 rfl; have H := St.mapTake hx201 H; have H : St z I w (OwnSl (cInt .i64) (vget g0_vias a0_vias a1.To) x200 :: MapO (cInt .i64) q0_vias g0_vias a0_vias (a1.To :: []) :: OwnSl (cInt .i64) v202 ([a1.To]) :: Bl q158 60 [(.int .i64 a1.From), (.int .i64 a1.To), (.int .i64 a1.Cost)] :: Bl q0 177 [(.int .i64 a0_root), (.map (some q0_at)), (.map (some q0_vias)), (.map (some q0_many))] :: MapR (cInt .u64) false q0_at a0_at :: MapR (cInt .u64) false q0_many a0_many :: r) := H; have H := St.get H 2 rfl; have H := St.get H 1 rfl; have H : St z I w (OwnSl (cInt .i64) (vget g0_vias a0_vias a1.To) x200 :: OwnSl (cInt .i64) v202 ([a1.To]) :: MapO (cInt .i64) q0_vias g0_vias a0_vias (a1.To :: []) :: Bl q158 60 [(.int .i64 a1.From), (.int .i64 a1.To), (.int .i64 a1.Cost)] :: Bl q0 177 [(.int .i64 a0_root), (.map (some q0_at)), (.map (some q0_vias)), (.map (some q0_many))] :: MapR (cInt .u64) false q0_at a0_at :: MapR (cInt .u64) false q0_many a0_many :: r) := H; refine (Dr.run rfl (d_appendO (lim := 17592186044416) el51 (by decide) (by decide) hE rfl rfl H ha204)).mono fun v w hR => ?_; obtain ⟨v205, rfl⟩ : ∃ x, x = v := ⟨v, rfl⟩; have H : St z I w (OwnSl (cInt .i64) v205 l203 :: MapO (cInt .i64) q0_vias g0_vias a0_vias (a1.To :: []) :: Bl q158 60 [(.int .i64 a1.From), (.int .i64 a1.To), (.int .i64 a1.Cost)] :: Bl q0 177 [(.int .i64 a0_root), (.map (some q0_at)), (.map (some q0_vias)), (.map (some q0_many))] :: MapR (cInt .u64) false q0_at a0_at :: MapR (cInt .u64) false q0_many a0_many :: r) := hR; exact ⟨(v202, v205, g208), H, Dr.lkSub ⟨rfl, rfl, trivial⟩⟩,
    by intro a w g hE hF H; obtain ⟨v202, v205, g208⟩ := g; have hE := Dr.env_both hE hF; have H := St.get H 1 rfl; have H := St.get H 1 rfl; refine (Dr.run rfl (d_putO Try.underlying175 Try.underlying3 hE rfl rfl rfl hx201 hl207 H)).mono fun v w hR => ?_; obtain ⟨g208, H⟩ := hR; have H : St z I w (MapO (cInt .i64) q0_vias g208 mp206 [] :: Bl q158 60 [(.int .i64 a1.From), (.int .i64 a1.To), (.int .i64 a1.Cost)] :: Bl q0 177 [(.int .i64 a0_root), (.map (some q0_at)), (.map (some q0_vias)), (.map (some q0_many))] :: MapR (cInt .u64) false q0_at a0_at :: MapR (cInt .u64) false q0_many a0_many :: r) := H; exact ⟨(v202, v205, g208), H, Dr.lkSub ⟨rfl, rfl, trivial⟩⟩,
    trivial⟩
      · intro a w g hE H
        obtain ⟨v202, v205, g208⟩ := g
        have H : St z I w (MapO (cInt .i64) q0_vias g208 mp206 [] :: Bl q158 60 [(.int .i64 a1.From), (.int .i64 a1.To), (.int .i64 a1.Cost)] :: Bl q0 177 [(.int .i64 a0_root), (.map (some q0_at)), (.map (some q0_vias)), (.map (some q0_many))] :: MapR (cInt .u64) false q0_at a0_at :: MapR (cInt .u64) false q0_many a0_many :: r) := H
        refine wp_seq ?_
        obtain ⟨x215, hx216, hm⟩ := bnd hm
        obtain ⟨x217, hc218, hm⟩ := bnd hm
        obtain ⟨mp219, hl220, hm⟩ := bnd hm
        refine Dr.region (γ := Unit) (pre := [[], [0], [0, 1], [0, 1, 2], [], [4], [], [6], [6, 7], [6, 7, 8], [], [10], [6, 7, 8, 9, 10, 11], [6, 7, 8, 9, 10, 11, 12], [0, 1, 2, 3, 4, 5, 6, 7, 8, 9, 10, 11, 12, 13]]) (val := [some (.pointer (some (ad q0 0))), some (.pointer (some (ad q0 0))), some (.pointer (some (ad q0 (0 + 3)))), some (.map (some q0_many)), some (.pointer (some (ad q158 (0 + 1)))), some (.int .i64 a1.To), some (.pointer (some (ad q0 0))), some (.pointer (some (ad q0 0))), some (.pointer (some (ad q0 (0 + 3)))), some (.map (some q0_many)), some (.pointer (some (ad q158 (0 + 1)))), some (.int .i64 a1.To), some (.int .u64 x215), some (.int .u64 x217), none]) (eff := [14]) (mask := [[], [14]]) (keys := [[], []]) (src := [[.base 0], [.op 0], [.op 1], [.op 2], [.base 3], [.op 4], [.base 0], [.op 6], [.op 7], [.op 8], [.base 3], [.op 10], [.op 9, .op 11], [.op 12], [.op 3, .op 5, .op 13]]) (z := z) (ef := fun p g => ([[], []] : List (List (Nat × Value))).getD p []) (hi := fun _ _ => I) (rs := fun p g => ([MapO (cInt .i64) q0_vias g208 mp206 [] :: Bl q158 60 [(.int .i64 a1.From), (.int .i64 a1.To), (.int .i64 a1.Cost)] :: Bl q0 177 [(.int .i64 a0_root), (.map (some q0_at)), (.map (some q0_vias)), (.map (some q0_many))] :: MapR (cInt .u64) false q0_at a0_at :: MapR (cInt .u64) false q0_many a0_many :: r, MapR (cInt .u64) false q0_many mp219 :: MapO (cInt .i64) q0_vias g208 mp206 [] :: Bl q158 60 [(.int .i64 a1.From), (.int .i64 a1.To), (.int .i64 a1.Cost)] :: Bl q0 177 [(.int .i64 a0_root), (.map (some q0_at)), (.map (some q0_vias)), (.map (some q0_many))] :: MapR (cInt .u64) false q0_at a0_at :: r] : List (List Asn)).getD p []) [(0, 0), (1, 0), (2, 0), (3, 0), (4, 0), (5, 0), (6, 0), (7, 0), (8, 0), (9, 0), (10, 0), (11, 0), (12, 0), (13, 0)] [(0, 14, 1)] [0, 1, 2, 3, 4, 5, 6, 7, 8, 9, 10, 11, 12, 13] 1 mo hE () rfl H (by kernel_rfl) (by kernel_rfl) (fun p g => by rcases p with _ | _ | p <;> rfl) ?_ ?_ (by kernel_rfl) (by kernel_rfl) ?_
        · exact ⟨by intro a w g hE H; exact Dr.is H rfl (Dr.run rfl (d_move hE rfl)),
    by intro a w g hE H; exact Dr.is H rfl (Dr.run rfl (d_nilCheck hE rfl)),
    by intro a w g hE H; exact Dr.is H rfl (Dr.run rfl (d_fieldAddr fld177_3 hE rfl)),
    by intro a w g hE H; exact Dr.is H rfl (Dr.run rfl (d_load sc174 hE rfl H 2 rfl rfl)),
    by intro a w g hE H; exact Dr.is H rfl (Dr.run rfl (d_fieldAddr fld60_1 hE rfl)),
    by intro a w g hE H; exact Dr.is H rfl (Dr.run rfl (d_load sc3 hE rfl H 1 rfl rfl)),
    by intro a w g hE H; exact Dr.is H rfl (Dr.run rfl (d_move hE rfl)),
    by intro a w g hE H; exact Dr.is H rfl (Dr.run rfl (d_nilCheck hE rfl)),
    by intro a w g hE H; exact Dr.is H rfl (Dr.run rfl (d_fieldAddr fld177_3 hE rfl)),
    by intro a w g hE H; exact Dr.is H rfl (Dr.run rfl (d_load sc174 hE rfl H 2 rfl rfl)),
    by intro a w g hE H; exact Dr.is H rfl (Dr.run rfl (d_fieldAddr fld60_1 hE rfl)),
    by intro a w g hE H; exact Dr.is H rfl (Dr.run rfl (d_load sc3 hE rfl H 1 rfl rfl)),
    by intro a w g hE H; exact Dr.is H rfl (Dr.run rfl (b_lookup1 (V := (fun x : Int => (.int .u64 x))) (zx := 0) (c := (cInt .u64)) (g := false) Try.underlying174 Try.underlying3 zv61 (fun _ _ _ h => by rw [h]; rfl) hE rfl rfl hx216 H 4 rfl)),
    by intro a w g hE H; exact (Dr.run rfl (d_call c89 hE rfl (f89_ok x215 1 hc218  H))).mono fun v w' hR => by obtain ⟨rfl, H⟩ := hR; exact ⟨rfl, H⟩,
    trivial⟩
        · exact ⟨by intro a w g hE hF H; have H := St.get H 4 rfl; refine (Dr.run rfl (b_mapUpdate (c := (cInt .u64)) (g := false) (cs := [(.int .u64 x217)]) (xv := x217) Try.underlying174 Try.underlying3 hE rfl rfl rfl rfl (fun _ _ _ _ => by rfl) hl220 H)).mono fun v w hR => ?_; have H : St z I w (MapR (cInt .u64) false q0_many mp219 :: MapO (cInt .i64) q0_vias g208 mp206 [] :: Bl q158 60 [(.int .i64 a1.From), (.int .i64 a1.To), (.int .i64 a1.Cost)] :: Bl q0 177 [(.int .i64 a0_root), (.map (some q0_at)), (.map (some q0_vias)), (.map (some q0_many))] :: MapR (cInt .u64) false q0_at a0_at :: r) := hR; exact ⟨(), H, Dr.lkSub trivial⟩,
    trivial⟩
        · intro a w g hE H
          have H : St z I w (MapR (cInt .u64) false q0_many mp219 :: MapO (cInt .i64) q0_vias g208 mp206 [] :: Bl q158 60 [(.int .i64 a1.From), (.int .i64 a1.To), (.int .i64 a1.Cost)] :: Bl q0 177 [(.int .i64 a0_root), (.map (some q0_at)), (.map (some q0_vias)), (.map (some q0_many))] :: MapR (cInt .u64) false q0_at a0_at :: r) := H
          refine wp_ret ?_
          cases hm
          have H := St.get H 1 rfl
          have H := St.get H 4 rfl
          have H := St.get H 4 rfl
          have H := St.del H 4
          exact ret0 rfl hE  ⟨_, rfl, g208, rfl, H⟩
    · rw [if_neg c190] at hm
      refine cF hE rfl (decide_eq_false c190) ?_
      refine wp_skip ?_
      refine wp_seq ?_
      obtain ⟨x231, hx232, hm⟩ := bnd hm
      obtain ⟨x233, hx234, hm⟩ := bnd hm
      obtain ⟨l235, ha236, hm⟩ := bnd hm
      obtain ⟨mp238, hl239, hm⟩ := bnd hm
      refine Dr.region (γ := Value × List Value) (pre := [[], [0], [0, 1], [0, 1, 2], [], [4], [], [6], [6, 7], [6, 7, 8], [], [10], [6, 7, 8, 9, 10, 11], [], [13], [13, 14], [13, 14, 15], [], [17], [13, 14, 15, 16, 17, 18], [6, 7, 8, 9, 10, 11, 12, 13, 14, 15, 16, 17, 18, 19], [0, 1, 2, 3, 4, 5, 6, 7, 8, 9, 10, 11, 12, 13, 14, 15, 16, 17, 18, 19, 20]]) (val := [some (.pointer (some (ad q0 0))), some (.pointer (some (ad q0 0))), some (.pointer (some (ad q0 (0 + 2)))), some (.map (some q0_vias)), some (.pointer (some (ad q158 (0 + 1)))), some (.int .i64 a1.To), some (.pointer (some (ad q0 0))), some (.pointer (some (ad q0 0))), some (.pointer (some (ad q0 (0 + 2)))), some (.map (some q0_vias)), some (.pointer (some (ad q158 (0 + 1)))), some (.int .i64 a1.To), some (vget g0_vias a0_vias a1.To), some (.pointer (some (ad q0 0))), some (.pointer (some (ad q0 0))), some (.pointer (some (ad q0 (0 + 2)))), some (.map (some q0_vias)), some (.pointer (some (ad q158 (0 + 0)))), some (.int .i64 a1.From), some (vget g0_vias a0_vias a1.From), none, none]) (eff := [20, 21]) (mask := [[], [20], [20, 21]]) (keys := [[], [62], [62]]) (src := [[.base 0], [.op 0], [.op 1], [.op 2], [.base 3], [.op 4], [.base 0], [.op 6], [.op 7], [.op 8], [.base 3], [.op 10], [.op 9, .op 11], [.base 0], [.op 13], [.op 14], [.op 15], [.base 3], [.op 17], [.op 16, .op 18], [.op 12, .op 19], [.op 3, .op 5]]) (z := z) (ef := fun p g => ([[], [(62, g.1)], [(62, g.1)]] : List (List (Nat × Value))).getD p []) (hi := fun _ _ => I) (rs := fun p g => ([Bl q158 60 [(.int .i64 a1.From), (.int .i64 a1.To), (.int .i64 a1.Cost)] :: Bl q0 177 [(.int .i64 a0_root), (.map (some q0_at)), (.map (some q0_vias)), (.map (some q0_many))] :: MapR (cInt .u64) false q0_at a0_at :: MapO (cInt .i64) q0_vias g0_vias a0_vias [] :: MapR (cInt .u64) false q0_many a0_many :: r, OwnSl (cInt .i64) g.1 l235 :: MapO (cInt .i64) q0_vias g0_vias a0_vias (a1.To :: []) :: Bl q158 60 [(.int .i64 a1.From), (.int .i64 a1.To), (.int .i64 a1.Cost)] :: Bl q0 177 [(.int .i64 a0_root), (.map (some q0_at)), (.map (some q0_vias)), (.map (some q0_many))] :: MapR (cInt .u64) false q0_at a0_at :: MapR (cInt .u64) false q0_many a0_many :: r, MapO (cInt .i64) q0_vias g.2 mp238 [] :: Bl q158 60 [(.int .i64 a1.From), (.int .i64 a1.To), (.int .i64 a1.Cost)] :: Bl q0 177 [(.int .i64 a0_root), (.map (some q0_at)), (.map (some q0_vias)), (.map (some q0_many))] :: MapR (cInt .u64) false q0_at a0_at :: MapR (cInt .u64) false q0_many a0_many :: r] : List (List Asn)).getD p []) [(0, 0), (1, 0), (2, 0), (3, 0), (4, 0), (5, 0), (6, 0), (7, 0), (8, 0), (9, 0), (10, 0), (11, 0), (12, 0), (13, 0), (14, 0), (15, 0), (16, 0), (17, 0), (18, 0), (19, 0), (0, 1), (1, 1), (2, 1), (3, 1), (4, 1), (5, 1)] [(0, 20, 1), (1, 21, 2)] [0, 1, 2, 3, 4, 5, 6, 7, 8, 9, 10, 11, 12, 13, 14, 15, 16, 17, 18, 19] 2 mo hE (undef, []) rfl H (by kernel_rfl) (by kernel_rfl) (fun p g => by rcases p with _ | _ | _ | p <;> rfl) ?_ ?_ (by kernel_rfl) (by kernel_rfl) ?_
      · exact ⟨by intro a w g hE H; obtain ⟨v237, g240⟩ := g; exact Dr.is H rfl (Dr.run rfl (d_move hE rfl)),
    by intro a w g hE H; obtain ⟨v237, g240⟩ := g; exact Dr.is H rfl (Dr.run rfl (d_nilCheck hE rfl)),
    by intro a w g hE H; obtain ⟨v237, g240⟩ := g; exact Dr.is H rfl (Dr.run rfl (d_fieldAddr fld177_2 hE rfl)),
    by intro a w g hE H; obtain ⟨v237, g240⟩ := g; exact Dr.is H rfl (Dr.run rfl (d_load sc175 hE rfl H 1 rfl rfl)),
    by intro a w g hE H; obtain ⟨v237, g240⟩ := g; exact Dr.is H rfl (Dr.run rfl (d_fieldAddr fld60_1 hE rfl)),
    by intro a w g hE H; obtain ⟨v237, g240⟩ := g; exact Dr.is H rfl (Dr.run rfl (d_load sc3 hE rfl H 0 rfl rfl)),
    by intro a w g hE H; obtain ⟨v237, g240⟩ := g; exact Dr.is H rfl (Dr.run rfl (d_move hE rfl)),
    by intro a w g hE H; obtain ⟨v237, g240⟩ := g; exact Dr.is H rfl (Dr.run rfl (d_nilCheck hE rfl)),
    by intro a w g hE H; obtain ⟨v237, g240⟩ := g; exact Dr.is H rfl (Dr.run rfl (d_fieldAddr fld177_2 hE rfl)),
    by intro a w g hE H; obtain ⟨v237, g240⟩ := g; exact Dr.is H rfl (Dr.run rfl (d_load sc175 hE rfl H 1 rfl rfl)),
    by intro a w g hE H; obtain ⟨v237, g240⟩ := g; exact Dr.is H rfl (Dr.run rfl (d_fieldAddr fld60_1 hE rfl)),
    by intro a w g hE H; obtain ⟨v237, g240⟩ := g; exact Dr.is H rfl (Dr.run rfl (d_load sc3 hE rfl H 0 rfl rfl)),
    by intro a w g hE H; obtain ⟨v237, g240⟩ := g; exact Dr.is H rfl (Dr.run rfl (d_lookO1 Try.underlying175 Try.underlying3 zv51 hE rfl rfl H 3 rfl)),
    by intro a w g hE H; obtain ⟨v237, g240⟩ := g; exact Dr.is H rfl (Dr.run rfl (d_move hE rfl)),
    by intro a w g hE H; obtain ⟨v237, g240⟩ := g; exact Dr.is H rfl (Dr.run rfl (d_nilCheck hE rfl)),
    by intro a w g hE H; obtain ⟨v237, g240⟩ := g; exact Dr.is H rfl (Dr.run rfl (d_fieldAddr fld177_2 hE rfl)),
    by intro a w g hE H; obtain ⟨v237, g240⟩ := g; exact Dr.is H rfl (Dr.run rfl (d_load sc175 hE rfl H 1 rfl rfl)),
    by intro a w g hE H; obtain ⟨v237, g240⟩ := g; exact Dr.is H rfl (Dr.run rfl (d_fieldAddr fld60_0 hE rfl)),
    by intro a w g hE H; obtain ⟨v237, g240⟩ := g; exact Dr.is H rfl (Dr.run rfl (d_load sc3 hE rfl H 0 rfl rfl)),
    by intro a w g hE H; obtain ⟨v237, g240⟩ := g; exact Dr.is H rfl (Dr.run rfl (d_lookO1 Try.underlying175 Try.underlying3 zv51 hE rfl rfl H 3 rfl)),
    by intro a w g hE H; obtain ⟨v237, g240⟩ := g; exact Dr.is H rfl (Dr.run rfl (d_move hE rfl)),
    by intro a w g hE H; obtain ⟨v237, g240⟩ := g; exact Dr.is H rfl (Dr.run rfl (d_nilCheck hE rfl)),
    by intro a w g hE H; obtain ⟨v237, g240⟩ := g; exact Dr.is H rfl (Dr.run rfl (d_fieldAddr fld177_2 hE rfl)),
    by intro a w g hE H; obtain ⟨v237, g240⟩ := g; exact Dr.is H rfl (Dr.run rfl (d_load sc175 hE rfl H 3 rfl rfl)),
    by intro a w g hE H; obtain ⟨v237, g240⟩ := g; exact Dr.is H rfl (Dr.run rfl (d_fieldAddr fld60_1 hE rfl)),
    by intro a w g hE H; obtain ⟨v237, g240⟩ := g; exact Dr.is H rfl (Dr.run rfl (d_load sc3 hE rfl H 2 rfl rfl)),
    trivial⟩
      · exact ⟨by intro a w g hE hF H; obtain ⟨v237, g240⟩ := g; have H := St.get H 3 rfl; have H := St.mapTake hx232 H; have H : St z I w (OwnSl (cInt .i64) (vget g0_vias a0_vias a1.To) x231 :: MapO (cInt .i64) q0_vias g0_vias a0_vias (a1.To :: []) :: Bl q158 60 [(.int .i64 a1.From), (.int .i64 a1.To), (.int .i64 a1.Cost)] :: Bl q0 177 [(.int .i64 a0_root), (.map (some q0_at)), (.map (some q0_vias)), (.map (some q0_many))] :: MapR (cInt .u64) false q0_at a0_at :: MapR (cInt .u64) false q0_many a0_many :: r) := H; have H : St z I w (OwnSl (cInt .i64) (vget g0_vias a0_vias a1.To) x231 :: MapO (cInt .i64) q0_vias g0_vias a0_vias (a1.To :: []) :: Bl q158 60 [(.int .i64 a1.From), (.int .i64 a1.To), (.int .i64 a1.Cost)] :: Bl q0 177 [(.int .i64 a0_root), (.map (some q0_at)), (.map (some q0_vias)), (.map (some q0_many))] :: MapR (cInt .u64) false q0_at a0_at :: MapR (cInt .u64) false q0_many a0_many :: r) := H; refine (Dr.run rfl (d_appendS (lim := 17592186044416) el51 (by decide) (by decide) hE rfl rfl H (Rd.hole 1 0 rfl rfl hx232 hx234) ha236)).mono fun v w hR => ?_; obtain ⟨v237, rfl⟩ : ∃ x, x = v := ⟨v, rfl⟩; have H : St z I w (OwnSl (cInt .i64) v237 l235 :: MapO (cInt .i64) q0_vias g0_vias a0_vias (a1.To :: []) :: Bl q158 60 [(.int .i64 a1.From), (.int .i64 a1.To), (.int .i64 a1.Cost)] :: Bl q0 177 [(.int .i64 a0_root), (.map (some q0_at)), (.map (some q0_vias)), (.map (some q0_many))] :: MapR (cInt .u64) false q0_at a0_at :: MapR (cInt .u64) false q0_many a0_many :: r) := hR; exact ⟨(v237, g240), H, Dr.lkSub ⟨rfl, trivial⟩⟩,
    by intro a w g hE hF H; obtain ⟨v237, g240⟩ := g; have hE := Dr.env_both hE hF; have H := St.get H 1 rfl; have H := St.get H 1 rfl; refine (Dr.run rfl (d_putO Try.underlying175 Try.underlying3 hE rfl rfl rfl hx232 hl239 H)).mono fun v w hR => ?_; obtain ⟨g240, H⟩ := hR; have H : St z I w (MapO (cInt .i64) q0_vias g240 mp238 [] :: Bl q158 60 [(.int .i64 a1.From), (.int .i64 a1.To), (.int .i64 a1.Cost)] :: Bl q0 177 [(.int .i64 a0_root), (.map (some q0_at)), (.map (some q0_vias)), (.map (some q0_many))] :: MapR (cInt .u64) false q0_at a0_at :: MapR (cInt .u64) false q0_many a0_many :: r) := H; exact ⟨(v237, g240), H, Dr.lkSub ⟨rfl, trivial⟩⟩,
    trivial⟩
      · intro a w g hE H
        obtain ⟨v237, g240⟩ := g
        have H : St z I w (MapO (cInt .i64) q0_vias g240 mp238 [] :: Bl q158 60 [(.int .i64 a1.From), (.int .i64 a1.To), (.int .i64 a1.Cost)] :: Bl q0 177 [(.int .i64 a0_root), (.map (some q0_at)), (.map (some q0_vias)), (.map (some q0_many))] :: MapR (cInt .u64) false q0_at a0_at :: MapR (cInt .u64) false q0_many a0_many :: r) := H
        obtain ⟨x249, hx250, hm⟩ := bnd hm
        obtain ⟨x251, hx252, hm⟩ := bnd hm
        obtain ⟨x253, hc254, hm⟩ := bnd hm
        obtain ⟨mp255, hl256, hm⟩ := bnd hm
        refine Dr.region (γ := Unit) (pre := [[], [0], [0, 1], [0, 1, 2], [], [4], [], [6], [6, 7], [6, 7, 8], [], [10], [6, 7, 8, 9, 10, 11], [], [13], [13, 14], [13, 14, 15], [], [17], [13, 14, 15, 16, 17, 18], [6, 7, 8, 9, 10, 11, 12, 13, 14, 15, 16, 17, 18, 19], [0, 1, 2, 3, 4, 5, 6, 7, 8, 9, 10, 11, 12, 13, 14, 15, 16, 17, 18, 19, 20]]) (val := [some (.pointer (some (ad q0 0))), some (.pointer (some (ad q0 0))), some (.pointer (some (ad q0 (0 + 3)))), some (.map (some q0_many)), some (.pointer (some (ad q158 (0 + 1)))), some (.int .i64 a1.To), some (.pointer (some (ad q0 0))), some (.pointer (some (ad q0 0))), some (.pointer (some (ad q0 (0 + 3)))), some (.map (some q0_many)), some (.pointer (some (ad q158 (0 + 1)))), some (.int .i64 a1.To), some (.int .u64 x249), some (.pointer (some (ad q0 0))), some (.pointer (some (ad q0 0))), some (.pointer (some (ad q0 (0 + 3)))), some (.map (some q0_many)), some (.pointer (some (ad q158 (0 + 0)))), some (.int .i64 a1.From), some (.int .u64 x251), some (.int .u64 x253), none]) (eff := [21]) (mask := [[], [21]]) (keys := [[], []]) (src := [[.base 0], [.op 0], [.op 1], [.op 2], [.base 3], [.op 4], [.base 0], [.op 6], [.op 7], [.op 8], [.base 3], [.op 10], [.op 9, .op 11], [.base 0], [.op 13], [.op 14], [.op 15], [.base 3], [.op 17], [.op 16, .op 18], [.op 12, .op 19], [.op 3, .op 5, .op 20]]) (z := z) (ef := fun p g => ([[], []] : List (List (Nat × Value))).getD p []) (hi := fun _ _ => I) (rs := fun p g => ([MapO (cInt .i64) q0_vias g240 mp238 [] :: Bl q158 60 [(.int .i64 a1.From), (.int .i64 a1.To), (.int .i64 a1.Cost)] :: Bl q0 177 [(.int .i64 a0_root), (.map (some q0_at)), (.map (some q0_vias)), (.map (some q0_many))] :: MapR (cInt .u64) false q0_at a0_at :: MapR (cInt .u64) false q0_many a0_many :: r, MapR (cInt .u64) false q0_many mp255 :: MapO (cInt .i64) q0_vias g240 mp238 [] :: Bl q158 60 [(.int .i64 a1.From), (.int .i64 a1.To), (.int .i64 a1.Cost)] :: Bl q0 177 [(.int .i64 a0_root), (.map (some q0_at)), (.map (some q0_vias)), (.map (some q0_many))] :: MapR (cInt .u64) false q0_at a0_at :: r] : List (List Asn)).getD p []) [(0, 0), (1, 0), (2, 0), (3, 0), (4, 0), (5, 0), (6, 0), (7, 0), (8, 0), (9, 0), (10, 0), (11, 0), (12, 0), (13, 0), (14, 0), (15, 0), (16, 0), (17, 0), (18, 0), (19, 0), (20, 0)] [(0, 21, 1)] [0, 1, 2, 3, 4, 5, 6, 7, 8, 9, 10, 11, 12, 13, 14, 15, 16, 17, 18, 19, 20] 1 mo hE () rfl H (by kernel_rfl) (by kernel_rfl) (fun p g => by rcases p with _ | _ | p <;> rfl) ?_ ?_ (by kernel_rfl) (by kernel_rfl) ?_
        · exact ⟨by intro a w g hE H; exact Dr.is H rfl (Dr.run rfl (d_move hE rfl)),
    by intro a w g hE H; exact Dr.is H rfl (Dr.run rfl (d_nilCheck hE rfl)),
    by intro a w g hE H; exact Dr.is H rfl (Dr.run rfl (d_fieldAddr fld177_3 hE rfl)),
    by intro a w g hE H; exact Dr.is H rfl (Dr.run rfl (d_load sc174 hE rfl H 2 rfl rfl)),
    by intro a w g hE H; exact Dr.is H rfl (Dr.run rfl (d_fieldAddr fld60_1 hE rfl)),
    by intro a w g hE H; exact Dr.is H rfl (Dr.run rfl (d_load sc3 hE rfl H 1 rfl rfl)),
    by intro a w g hE H; exact Dr.is H rfl (Dr.run rfl (d_move hE rfl)),
    by intro a w g hE H; exact Dr.is H rfl (Dr.run rfl (d_nilCheck hE rfl)),
    by intro a w g hE H; exact Dr.is H rfl (Dr.run rfl (d_fieldAddr fld177_3 hE rfl)),
    by intro a w g hE H; exact Dr.is H rfl (Dr.run rfl (d_load sc174 hE rfl H 2 rfl rfl)),
    by intro a w g hE H; exact Dr.is H rfl (Dr.run rfl (d_fieldAddr fld60_1 hE rfl)),
    by intro a w g hE H; exact Dr.is H rfl (Dr.run rfl (d_load sc3 hE rfl H 1 rfl rfl)),
    by intro a w g hE H; exact Dr.is H rfl (Dr.run rfl (b_lookup1 (V := (fun x : Int => (.int .u64 x))) (zx := 0) (c := (cInt .u64)) (g := false) Try.underlying174 Try.underlying3 zv61 (fun _ _ _ h => by rw [h]; rfl) hE rfl rfl hx250 H 4 rfl)),
    by intro a w g hE H; exact Dr.is H rfl (Dr.run rfl (d_move hE rfl)),
    by intro a w g hE H; exact Dr.is H rfl (Dr.run rfl (d_nilCheck hE rfl)),
    by intro a w g hE H; exact Dr.is H rfl (Dr.run rfl (d_fieldAddr fld177_3 hE rfl)),
    by intro a w g hE H; exact Dr.is H rfl (Dr.run rfl (d_load sc174 hE rfl H 2 rfl rfl)),
    by intro a w g hE H; exact Dr.is H rfl (Dr.run rfl (d_fieldAddr fld60_0 hE rfl)),
    by intro a w g hE H; exact Dr.is H rfl (Dr.run rfl (d_load sc3 hE rfl H 1 rfl rfl)),
    by intro a w g hE H; exact Dr.is H rfl (Dr.run rfl (b_lookup1 (V := (fun x : Int => (.int .u64 x))) (zx := 0) (c := (cInt .u64)) (g := false) Try.underlying174 Try.underlying3 zv61 (fun _ _ _ h => by rw [h]; rfl) hE rfl rfl hx252 H 4 rfl)),
    by intro a w g hE H; exact (Dr.run rfl (d_call c89 hE rfl (f89_ok x249 x251 hc254  H))).mono fun v w' hR => by obtain ⟨rfl, H⟩ := hR; exact ⟨rfl, H⟩,
    trivial⟩
        · exact ⟨by intro a w g hE hF H; have H := St.get H 4 rfl; refine (Dr.run rfl (b_mapUpdate (c := (cInt .u64)) (g := false) (cs := [(.int .u64 x253)]) (xv := x253) Try.underlying174 Try.underlying3 hE rfl rfl rfl rfl (fun _ _ _ _ => by rfl) hl256 H)).mono fun v w hR => ?_; have H : St z I w (MapR (cInt .u64) false q0_many mp255 :: MapO (cInt .i64) q0_vias g240 mp238 [] :: Bl q158 60 [(.int .i64 a1.From), (.int .i64 a1.To), (.int .i64 a1.Cost)] :: Bl q0 177 [(.int .i64 a0_root), (.map (some q0_at)), (.map (some q0_vias)), (.map (some q0_many))] :: MapR (cInt .u64) false q0_at a0_at :: r) := hR; exact ⟨(), H, Dr.lkSub trivial⟩,
    trivial⟩
        · intro a w g hE H
          have H : St z I w (MapR (cInt .u64) false q0_many mp255 :: MapO (cInt .i64) q0_vias g240 mp238 [] :: Bl q158 60 [(.int .i64 a1.From), (.int .i64 a1.To), (.int .i64 a1.Cost)] :: Bl q0 177 [(.int .i64 a0_root), (.map (some q0_at)), (.map (some q0_vias)), (.map (some q0_many))] :: MapR (cInt .u64) false q0_at a0_at :: r) := H
          cases hm
          have H := St.get H 1 rfl
          have H := St.get H 4 rfl
          have H := St.get H 4 rfl
          have H := St.del H 4
          exact end0 rfl hE  ⟨_, rfl, g240, rfl, H⟩
def m59 (a0 : S_api_Ways) (a1 : Int) : Option Int := if (a0.Via.length : Int) = 0 then (some 0) else (if (IntKind.u64.wrap (a0.Via.length : Int)) ≠ 0 then (Option.bind (rdx a0.Via (Int.tmod a1 (IntKind.u64.wrap (a0.Via.length : Int)))) fun x70 => some x70) else none)
set_option maxRecDepth 20000 in
set_option maxHeartbeats 4000000 in
theorem f59_ok (a0 : S_api_Ways) {u0_0 : Value} (a1 : Int) {res : Int} (hm : m59 a0 a1 = some res) {z w : World} {I : Hp} {r : List Asn} (hm0_0 : Imm (cInt .i64) I r u0_0 a0.Via) (H : St z I w (r)) :
    Calls Try.prog 59 #[(.agg #[(.int .i64 a0.To), (.int .u64 a0.Cost), u0_0, (.int .u64 a0.Many)]), (.int .u64 a1)] w (Rt fun v w' => v = (.int .i64 res) ∧ St z I w' (r)) := by
  unfold m59 at hm
  refine enter (args := [(.agg #[(.int .i64 a0.To), (.int .u64 a0.Cost), u0_0, (.int .u64 a0.Many)]), (.int .u64 a1)]) Try.func59 rfl Try.ntmps59 rfl fun a hE => ?_
  have H := St.imm hm0_0 H
  refine wp_seq ?_
  refine wp_region_lit ?_
  refine s2 hE rfl (d_box hE rfl H) fun a v w hR hE => ?_
  obtain ⟨q63, rfl, H⟩ := hR
  have H : St z I w (Bl q63 94 [(.int .i64 a0.To), (.int .u64 a0.Cost), u0_0, (.int .u64 a0.Many)] :: ImR (cInt .i64) u0_0 a0.Via :: r) := H
  refine s1 hE rfl (d_assign hE rfl) fun a hE => ?_
  refine wpList_nil ?_
  refine wp_seq ?_
  refine wp_seq ?_
  refine wp_region_lit ?_
  refine s1 hE rfl (d_fieldAddr fld94_2 hE rfl) fun a hE => ?_
  refine s1 hE rfl (d_load sc51 hE rfl H 0 rfl rfl) fun a hE => ?_
  refine s1 hE rfl (d_lenS Try.underlying51 hE rfl H (Rd.im 1 rfl)) fun a hE => ?_
  refine s1 hE rfl (d_eql hE rfl rfl) fun a hE => ?_
  refine wpList_nil ?_
  by_cases c65 : (a0.Via.length : Int) = 0
  · rw [if_pos c65] at hm
    refine cT hE rfl (decide_eq_true c65) ?_
    refine wp_seq ?_
    refine wp_region_lit ?_
    refine s1 hE rfl (d_assign hE rfl) fun a hE => ?_
    refine wpList_nil ?_
    refine wp_ret ?_
    cases hm
    have H := St.del H 0
    have H := St.del H 0
    exact ret1 rfl hE rfl ⟨_, rfl, rfl, H⟩
  · rw [if_neg c65] at hm
    refine cF hE rfl (decide_eq_false c65) ?_
    refine wp_skip ?_
    refine wp_seq ?_
    by_cases c69 : (IntKind.u64.wrap (a0.Via.length : Int)) ≠ 0
    · rw [if_pos c69] at hm
      obtain ⟨x70, hx71, hm⟩ := bnd hm
      refine Dr.region (γ := Unit) (pre := [[], [0], [], [], [3], [3, 4], [3, 4, 5], [2, 3, 4, 5, 6], [0, 1, 2, 3, 4, 5, 6, 7], [0, 1, 2, 3, 4, 5, 6, 7, 8], [0, 1, 2, 3, 4, 5, 6, 7, 8, 9]]) (val := [some (.pointer (some (ad q63 (0 + 2)))), some u0_0, some (.int .u64 a1), some (.pointer (some (ad q63 (0 + 2)))), some u0_0, some (.int .i64 (a0.Via.length : Int)), some (.int .u64 (IntKind.u64.wrap (a0.Via.length : Int))), some (.int .u64 (Int.tmod a1 (IntKind.u64.wrap (a0.Via.length : Int)))), some (.pointer (some (ad (sb u0_0) (so u0_0 + (Int.toNat (Int.tmod a1 (IntKind.u64.wrap (a0.Via.length : Int)))) * (cInt .i64).n)))), some (.int .i64 x70), some (.int .i64 x70)]) (eff := []) (mask := [[]]) (keys := [[]]) (src := [[.base 2], [.op 0], [.base 1], [.base 2], [.op 3], [.op 4], [.op 5], [.op 2, .op 6], [.op 1, .op 7], [.op 8], [.op 9]]) (z := z) (ef := fun p g => ([[]] : List (List (Nat × Value))).getD p []) (hi := fun _ _ => I) (rs := fun p g => ([Bl q63 94 [(.int .i64 a0.To), (.int .u64 a0.Cost), u0_0, (.int .u64 a0.Many)] :: ImR (cInt .i64) u0_0 a0.Via :: r] : List (List Asn)).getD p []) [(0, 0), (1, 0), (2, 0), (3, 0), (4, 0), (5, 0), (6, 0), (7, 0), (8, 0), (9, 0), (10, 0)] [] [0, 1, 2, 3, 4, 5, 6, 7, 8, 9, 10] 0 mo hE () rfl H (by kernel_rfl) (by kernel_rfl) (fun p g => by cases p <;> rfl) ?_ ?_ (by kernel_rfl) (by kernel_rfl) ?_
      · exact ⟨by intro a w g hE H; exact Dr.is H rfl (Dr.run rfl (d_fieldAddr fld94_2 hE rfl)),
    by intro a w g hE H; exact Dr.is H rfl (Dr.run rfl (d_load sc51 hE rfl H 0 rfl rfl)),
    by intro a w g hE H; exact Dr.is H rfl (Dr.run rfl (d_move hE rfl)),
    by intro a w g hE H; exact Dr.is H rfl (Dr.run rfl (d_fieldAddr fld94_2 hE rfl)),
    by intro a w g hE H; exact Dr.is H rfl (Dr.run rfl (d_load sc51 hE rfl H 0 rfl rfl)),
    by intro a w g hE H; exact Dr.is H rfl (Dr.run rfl (d_lenS Try.underlying51 hE rfl H (Rd.im 1 rfl))),
    by intro a w g hE H; exact Dr.is H rfl (Dr.run rfl (d_convert hE rfl (cv3_61 _))),
    by intro a w g hE H; exact Dr.is H rfl (Dr.run rfl (d_rem hE rfl rfl c69)),
    by intro a w g hE H; exact Dr.is H rfl (Dr.run rfl (d_indexS sl51 hE rfl rfl H (Rd.im 1 rfl) hx71)),
    by intro a w g hE H; exact Dr.is H rfl (Dr.run rfl (d_loadS1 sc3 hE rfl H (Rd.im 1 rfl) hx71 (fun _ _ e => e))),
    by intro a w g hE H; exact Dr.is H rfl (Dr.run rfl (d_assign hE rfl)),
    trivial⟩
      · trivial
      · intro a w g hE H
        have H : St z I w (Bl q63 94 [(.int .i64 a0.To), (.int .u64 a0.Cost), u0_0, (.int .u64 a0.Many)] :: ImR (cInt .i64) u0_0 a0.Via :: r) := H
        refine wp_ret ?_
        cases hm
        have H := St.del H 0
        have H := St.del H 0
        exact ret1 rfl hE rfl ⟨_, rfl, rfl, H⟩
    · rw [if_neg c69] at hm; cases hm
theorem cmpok115 (k : Nat) : CmpOk Try.prog 115 c_api_Route (fun x y => m115 k x y) := by
  intro x y a hm cs ds w hx hy
  obtain rfl := (show _ = _ from hx)
  obtain rfl := (show _ = _ from hy)
  exact f115_ok k x y hm (z := w) (I := hp w) (r := []) (St.all w)
theorem srt114_115 (k : Nat) {v : Value} {xs ys : List S_api_Route} (hs : sortF (fun x y => m115 k x y) xs = some ys) {z w : World} {I : Hp} {r : List Asn} (H : St z I w (OwnSl c_api_Route v xs :: r)) : Calls Try.prog 114 #[v, .func (.func 115) #[] #[]] w (Rt fun u w' => u = .tuple #[] ∧ St z I w' (OwnSl c_api_Route v ys :: r)) :=
  sortF_row (ρ := Try.sortf114_ren) Try.sortf114 ag96 (run_callFunc c115) (cmpok115 k ) hs H
def m55_l0 (x1645 : (List S_api_Route)) : Nat → (List (Int × Int)) → Int → Option (List (Int × Int))
  | 0, _, _ => none
  | k + 1, mp1682, y1683 => if y1683 < (x1645.length : Int) then (Option.bind (rdx x1645 y1683) fun x1723 => Option.bind (some (mput mp1682 x1723.To x1723.Cost)) fun mp1728 => m55_l0 x1645 k mp1728 (IntKind.i64.wrap (y1683 + 1))) else (some mp1682)
def m55_l2 (a0 : List S_api_Arc) (a1 : Int) (s1707 : (List (Int × Int))) (x2817 : S_api_Route) : Nat → (List (Int × (List Int))) → (List (Int × Int)) → Int → Option ((List (Int × (List Int))) × (List (Int × Int)))
  | 0, _, _, _ => none
  | k + 1, mp2886, mp2888, y2889 => if y2889 < (a0.length : Int) then (Option.bind (rdx a0 y2889) fun x2997 => Option.bind (α := Bool) (if x2997.To = x2817.To then (Option.bind (m117 a1 s1707 mp2886 mp2888 x2997) fun x3006 => some x3006) else (some false)) fun s3004 => Option.bind (α := (List (Int × (List Int))) × (List (Int × Int))) (if s3004 = true then (Option.bind (m118 a1 s1707 mp2886 mp2888 x2997) fun x3023 => some (x3023.1, x3023.2)) else (some (mp2886, mp2888))) fun s3018 => m55_l2 a0 a1 s1707 x2817 k s3018.1 s3018.2 (IntKind.i64.wrap (y2889 + 1))) else (some (mp2886, mp2888))
def m55_l1 (a0 : List S_api_Arc) (a1 : Int) (l1738 : List S_api_Route) (s1707 : (List (Int × Int))) : Nat → (List (Int × (List Int))) → (List (Int × Int)) → Int → Option ((List (Int × (List Int))) × (List (Int × Int)))
  | 0, _, _, _ => none
  | k + 1, mp2166, mp2168, y2169 => if y2169 < (l1738.length : Int) then (Option.bind (rdx l1738 y2169) fun x2817 => Option.bind (m55_l2 a0 a1 s1707 x2817 k mp2166 mp2168 0) fun s2959 => m55_l1 a0 a1 l1738 s1707 k s2959.1 s2959.2 (IntKind.i64.wrap (y2169 + 1))) else (some (mp2166, mp2168))
def m55_l3 (s2599 : (List (Int × (List Int))) × (List (Int × Int))) (x1645 : (List S_api_Route)) : Nat → (List Int) → (List S_api_Ways) → Int → Option (List S_api_Ways)
  | 0, _, _, _ => none
  | k + 1, l3092, l3094, y3095 => if y3095 < (x1645.length : Int) then (Option.bind (rdx x1645 y3095) fun x3202 => Option.bind (mgetO l3092 s2599.1 x3202.To) fun x3207 => Option.bind (srtZ x3207) fun l3211 => Option.bind (uniq l3211) fun l3222 => Option.bind (some ((mget s2599.2 x3202.To).getD 0)) fun x3225 => Option.bind (appd 2932031007402 l3094 ([(⟨x3202.To, x3202.Cost, l3222, x3225⟩ : S_api_Ways)])) fun l3228 => m55_l3 s2599 x1645 k (x3202.To :: l3092) l3228 (IntKind.i64.wrap (y3095 + 1))) else (some l3094)
def m55 (k : Nat) (a0 : List S_api_Arc) (a1 : Int) : Option (List S_api_Ways) := Option.bind (m58 k a0 a1) fun x1645 => Option.bind (some (mput [] a1 0)) fun mp1655 => Option.bind (m55_l0 x1645 k mp1655 0) fun s1707 => Option.bind (m113 x1645) fun x1733 => Option.bind (sortF (fun x y => m115 k x y) x1733) fun l1738 => Option.bind (m55_l1 a0 a1 l1738 s1707 k [] [] 0) fun s2599 => Option.bind (m55_l3 s2599 x1645 k [] [] 0) fun s3164 => some s3164
set_option maxRecDepth 20000 in
set_option maxHeartbeats 4000000 in
theorem f55_ok (k : Nat) {u0 : Value} (a0 : List S_api_Arc) (a1 : Int) {res : (List S_api_Ways)} (hm : m55 k a0 a1 = some res) {z w : World} {I : Hp} {r : List Asn} (hr0 : Rd c_api_Arc I r u0 a0) (hz : z.drawn = 0) (H : St z I w (r)) :
    Calls Try.prog 55 #[u0, (.int .i64 a1)] w (Rt fun v w' => ∃ v1640 : Value, v = v1640 ∧ St z I w' (OwnSl c_api_Ways v1640 res :: r)) := by
  unfold m55 at hm
  refine enter (args := [u0, (.int .i64 a1)]) Try.func55 rfl Try.ntmps55 rfl fun a hE => ?_
  refine wp_seq ?_
  refine wp_region_lit ?_
  refine s1 hE rfl (d_assign hE rfl) fun a hE => ?_
  refine wpList_nil ?_
  refine wp_seq ?_
  refine wp_region_lit ?_
  refine s1 hE rfl (d_move hE rfl) fun a hE => ?_
  refine s1 hE rfl (d_move hE rfl) fun a hE => ?_
  obtain ⟨x1645, hc1646, hm⟩ := bnd hm
  refine s2 hE rfl (d_call c58 hE rfl (f58_ok k a0 a1 hc1646 hr0 hz H)) fun a v w hR hE => ?_
  obtain ⟨v1647, hv_, H⟩ := hR
  have hv_ := hv_.symm
  subst hv_
  refine s1 hE rfl (d_assign hE rfl) fun a hE => ?_
  refine wpList_nil ?_
  refine wp_seq ?_
  refine wp_region_lit ?_
  refine s1 hE rfl (d_move hE rfl) fun a hE => ?_
  refine s2 hE rfl (d_makeMap (c := (cInt .u64)) (g := false) H) fun a v w hR hE => ?_
  obtain ⟨q1654, rfl, H⟩ := hR
  refine s1 hE rfl (d_move hE rfl) fun a hE => ?_
  obtain ⟨mp1655, hl1656, hm⟩ := bnd hm
  refine s3 (b_insert (c := (cInt .u64)) (g := false) (cs := [(.int .u64 0)]) (xv := 0) Try.underlying174 Try.underlying3 hE rfl rfl rfl rfl (fun _ _ _ _ => by rfl) hl1656 H) fun v w hR => ?_
  have H : St z I w (MapR (cInt .u64) false q1654 mp1655 :: OwnSl c_api_Route v1647 x1645 :: r) := hR
  refine s1 hE rfl (d_move hE rfl) fun a hE => ?_
  refine s2 hE rfl (d_makeMapO (c := (cInt .i64)) H) fun a v w hR hE => ?_
  obtain ⟨q1657, rfl, H⟩ := hR
  refine s2 hE rfl (d_makeMap (c := (cInt .u64)) (g := false) H) fun a v w hR hE => ?_
  obtain ⟨q1658, rfl, H⟩ := hR
  refine s1 hE rfl (d_build hE rfl (bld177_0In_1Ma_2Ma_3Ma _ _ _ _)) fun a hE => ?_
  refine s2 hE rfl (d_box hE rfl H) fun a v w hR hE => ?_
  obtain ⟨q1659, rfl, H⟩ := hR
  have H : St z I w (Bl q1659 177 [(.int .i64 a1), (.map (some q1654)), (.map (some q1657)), (.map (some q1658))] :: MapR (cInt .u64) false q1658 [] :: MapO (cInt .i64) q1657 [] [] [] :: MapR (cInt .u64) false q1654 mp1655 :: OwnSl c_api_Route v1647 x1645 :: r) := H
  refine s1 hE rfl (d_assign hE rfl) fun a hE => ?_
  refine wpList_nil ?_
  refine wp_seq ?_
  refine wp_seq ?_
  refine wp_region_lit ?_
  refine s1 hE rfl (d_move hE rfl) fun a hE => ?_
  refine s1 hE rfl (d_lenS Try.underlying91 hE rfl H (Rd.own 4 rfl)) fun a hE => ?_
  refine s1 hE rfl (d_move hE rfl) fun a hE => ?_
  refine wpList_nil ?_
  obtain ⟨s1707, hj1707, hm⟩ := bnd hm
  refine cut2 (fun a w => Env a 109 [(0, u0), (5, v1647), (6, (.pointer (some (ad q1659 0))))] ∧ St z I w (OwnSl c_api_Route v1647 x1645 :: Bl q1659 177 [(.int .i64 a1), (.map (some q1654)), (.map (some q1657)), (.map (some q1658))] :: MapR (cInt .u64) false q1654 s1707 :: MapO (cInt .i64) q1657 [] [] [] :: MapR (cInt .u64) false q1658 [] :: r)) ?_ ?_
  · refine wp_block ?_
    refine loopI (fun k a w => ∃ mp1682 : List (Int × Int), ∃ y1683 : Int, m55_l0 x1645 k mp1682 y1683 = some s1707 ∧ Env a 109 [(0, u0), (5, v1647), (6, (.pointer (some (ad q1659 0)))), (29, v1647), (30, (.int .i64 (x1645.length : Int))), (31, (.int .i64 y1683))] ∧ St z I w (OwnSl c_api_Route v1647 x1645 :: Bl q1659 177 [(.int .i64 a1), (.map (some q1654)), (.map (some q1657)), (.map (some q1658))] :: MapR (cInt .u64) false q1654 mp1682 :: MapO (cInt .i64) q1657 [] [] [] :: MapR (cInt .u64) false q1658 [] :: r)) ?_ k _ _ ?_
    · rintro k a w ⟨mp1682, y1683, hm, hE, H⟩
      cases k with
      | zero => rw [m55_l0] at hm; cases hm
      | succ k =>
        rw [m55_l0] at hm
        refine wp_seq ?_
        refine wp_region_lit ?_
        refine s1 hE rfl (d_lss hE rfl rfl) fun a hE => ?_
        refine wpList_nil ?_
        refine wp_seq ?_
        by_cases c1709 : y1683 < (x1645.length : Int)
        · rw [if_pos c1709] at hm
          refine cT hE rfl (decide_eq_true c1709) ?_
          refine wp_skip ?_
          refine wp_seq ?_
          refine wp_block ?_
          refine wp_seq ?_
          refine wp_region_lit ?_
          obtain ⟨x1723, hx1724, hm⟩ := bnd hm
          refine s1 hE rfl (d_indexS sl91 hE rfl rfl H (Rd.own 0 rfl) hx1724) fun a hE => ?_
          refine s1 hE rfl (d_loadSA ag96 rfl hE rfl H (Rd.own 0 rfl) hx1724 (fun _ _ e => e)) fun a hE => ?_
          refine s2 hE rfl (d_alloc al96 H) fun a v w hR hE => ?_
          obtain ⟨q1725, rfl, H⟩ := hR
          refine s3 (d_store sz96 hE rfl rfl rfl (oneAll rfl) H rfl) fun v w hR => ?_
          have H : St z I w (Bl q1725 96 [(.int .i64 x1723.To), (.int .i64 x1723.Via), (.int .u64 x1723.Cost)] :: OwnSl c_api_Route v1647 x1645 :: Bl q1659 177 [(.int .i64 a1), (.map (some q1654)), (.map (some q1657)), (.map (some q1658))] :: MapR (cInt .u64) false q1654 mp1682 :: MapO (cInt .i64) q1657 [] [] [] :: MapR (cInt .u64) false q1658 [] :: r) := hR
          refine wpList_nil ?_
          obtain ⟨mp1728, hl1729, hm⟩ := bnd hm
          refine Dr.region (γ := Unit) (pre := [[], [0], [0, 1], [0, 1, 2], [], [4], [], [6], [0, 1, 2, 3, 4, 5, 6, 7]]) (val := [some (.pointer (some (ad q1659 0))), some (.pointer (some (ad q1659 0))), some (.pointer (some (ad q1659 (0 + 1)))), some (.map (some q1654)), some (.pointer (some (ad q1725 (0 + 0)))), some (.int .i64 x1723.To), some (.pointer (some (ad q1725 (0 + 2)))), some (.int .u64 x1723.Cost), none]) (eff := [8]) (mask := [[], [8]]) (keys := [[], []]) (src := [[.base 6], [.op 0], [.op 1], [.op 2], [.base 8], [.op 4], [.base 8], [.op 6], [.op 3, .op 5, .op 7]]) (z := z) (ef := fun p g => ([[], []] : List (List (Nat × Value))).getD p []) (hi := fun _ _ => I) (rs := fun p g => ([Bl q1725 96 [(.int .i64 x1723.To), (.int .i64 x1723.Via), (.int .u64 x1723.Cost)] :: OwnSl c_api_Route v1647 x1645 :: Bl q1659 177 [(.int .i64 a1), (.map (some q1654)), (.map (some q1657)), (.map (some q1658))] :: MapR (cInt .u64) false q1654 mp1682 :: MapO (cInt .i64) q1657 [] [] [] :: MapR (cInt .u64) false q1658 [] :: r, MapR (cInt .u64) false q1654 mp1728 :: Bl q1725 96 [(.int .i64 x1723.To), (.int .i64 x1723.Via), (.int .u64 x1723.Cost)] :: OwnSl c_api_Route v1647 x1645 :: Bl q1659 177 [(.int .i64 a1), (.map (some q1654)), (.map (some q1657)), (.map (some q1658))] :: MapO (cInt .i64) q1657 [] [] [] :: MapR (cInt .u64) false q1658 [] :: r] : List (List Asn)).getD p []) [(0, 0), (1, 0), (2, 0), (3, 0), (4, 0), (5, 0), (6, 0), (7, 0)] [(0, 8, 1)] [0, 1, 2, 3, 4, 5, 6, 7] 1 mo hE () rfl H (by kernel_rfl) (by kernel_rfl) (fun p g => by rcases p with _ | _ | p <;> rfl) ?_ ?_ (by kernel_rfl) (by kernel_rfl) ?_
          · exact ⟨by intro a w g hE H; exact Dr.is H rfl (Dr.run rfl (d_move hE rfl)),
    by intro a w g hE H; exact Dr.is H rfl (Dr.run rfl (d_nilCheck hE rfl)),
    by intro a w g hE H; exact Dr.is H rfl (Dr.run rfl (d_fieldAddr fld177_1 hE rfl)),
    by intro a w g hE H; exact Dr.is H rfl (Dr.run rfl (d_load sc174 hE rfl H 2 rfl rfl)),
    by intro a w g hE H; exact Dr.is H rfl (Dr.run rfl (d_fieldAddr fld96_0 hE rfl)),
    by intro a w g hE H; exact Dr.is H rfl (Dr.run rfl (d_load sc3 hE rfl H 0 rfl rfl)),
    by intro a w g hE H; exact Dr.is H rfl (Dr.run rfl (d_fieldAddr fld96_2 hE rfl)),
    by intro a w g hE H; exact Dr.is H rfl (Dr.run rfl (d_load sc61 hE rfl H 0 rfl rfl)),
    trivial⟩
          · exact ⟨by intro a w g hE hF H; have H := St.get H 3 rfl; refine (Dr.run rfl (b_mapUpdate (c := (cInt .u64)) (g := false) (cs := [(.int .u64 x1723.Cost)]) (xv := x1723.Cost) Try.underlying174 Try.underlying3 hE rfl rfl rfl rfl (fun _ _ _ _ => by rfl) hl1729 H)).mono fun v w hR => ?_; have H : St z I w (MapR (cInt .u64) false q1654 mp1728 :: Bl q1725 96 [(.int .i64 x1723.To), (.int .i64 x1723.Via), (.int .u64 x1723.Cost)] :: OwnSl c_api_Route v1647 x1645 :: Bl q1659 177 [(.int .i64 a1), (.map (some q1654)), (.map (some q1657)), (.map (some q1658))] :: MapO (cInt .i64) q1657 [] [] [] :: MapR (cInt .u64) false q1658 [] :: r) := hR; exact ⟨(), H, Dr.lkSub trivial⟩,
    trivial⟩
          · intro a w g hE H
            have H : St z I w (MapR (cInt .u64) false q1654 mp1728 :: Bl q1725 96 [(.int .i64 x1723.To), (.int .i64 x1723.Via), (.int .u64 x1723.Cost)] :: OwnSl c_api_Route v1647 x1645 :: Bl q1659 177 [(.int .i64 a1), (.map (some q1654)), (.map (some q1657)), (.map (some q1658))] :: MapO (cInt .i64) q1657 [] [] [] :: MapR (cInt .u64) false q1658 [] :: r) := H
            refine wp_region_lit ?_
            refine s1 hE rfl (d_add hE rfl rfl) fun a hE => ?_
            refine s1 hE rfl (d_move hE rfl) fun a hE => ?_
            refine wpList_nil ?_
            have H := St.get H 5 rfl
            have H := St.get H 5 rfl
            have H := St.get H 2 rfl
            have H := St.get H 5 rfl
            have H := St.get H 5 rfl
            have H := St.del H 5
            exact ⟨k, Nat.lt_succ_self k, mp1728, IntKind.i64.wrap (y1683 + 1), hm, hE.sub ⟨rfl, rfl, rfl, rfl, rfl, rfl, trivial⟩, H⟩
        · rw [if_neg c1709] at hm
          refine cF hE rfl (decide_eq_false c1709) ?_
          refine wp_exit ?_
          cases hm
          exact ⟨hE.sub ⟨rfl, rfl, rfl, trivial⟩, H⟩
    · have H := St.get H 1 rfl
      have H := St.get H 2 rfl
      have H := St.get H 3 rfl
      have H := St.get H 3 rfl
      have H := St.get H 4 rfl
      exact ⟨mp1655, 0, hj1707, hE.sub ⟨rfl, rfl, rfl, rfl, rfl, rfl, trivial⟩, H⟩
  · rintro a w ⟨hE, H⟩
    refine wp_seq ?_
    refine wp_region_lit ?_
    refine s1 hE rfl (d_move hE rfl) fun a hE => ?_
    obtain ⟨x1733, hc1734, hm⟩ := bnd hm
    refine s2 hE rfl (d_call c113 hE rfl (f113_ok x1645 hc1734 (Rd.own 0 rfl) H)) fun a v w hR hE => ?_
    obtain ⟨v1735, hv_, H⟩ := hR
    have hv_ := hv_.symm
    subst hv_
    refine s1 hE rfl (d_assign hE rfl) fun a hE => ?_
    refine wpList_nil ?_
    refine wp_seq ?_
    refine wp_region_lit ?_
    refine s1 hE rfl (d_move hE rfl) fun a hE => ?_
    obtain ⟨l1738, hl1739, hm⟩ := bnd hm
    refine s2 hE rfl (d_call c114 hE rfl (srt114_115 k hl1739 H)) fun a v w hR hE => ?_
    obtain ⟨rfl, H⟩ := hR
    have H : St z I w (OwnSl c_api_Route v1735 l1738 :: OwnSl c_api_Route v1647 x1645 :: Bl q1659 177 [(.int .i64 a1), (.map (some q1654)), (.map (some q1657)), (.map (some q1658))] :: MapR (cInt .u64) false q1654 s1707 :: MapO (cInt .i64) q1657 [] [] [] :: MapR (cInt .u64) false q1658 [] :: r) := H
    refine wpList_nil ?_
    refine wp_seq ?_
    refine wp_seq ?_
    refine wp_region_lit ?_
    refine s1 hE rfl (d_move hE rfl) fun a hE => ?_
    refine s1 hE rfl (d_lenS Try.underlying91 hE rfl H (Rd.own 0 rfl)) fun a hE => ?_
    refine s1 hE rfl (d_move hE rfl) fun a hE => ?_
    refine wpList_nil ?_
    obtain ⟨s2599, hj2599, hm⟩ := bnd hm
    refine cut2 (fun a w => ∃ g2596 : List Value, Env a 109 [(5, v1647), (6, (.pointer (some (ad q1659 0))))] ∧ St z I w (OwnSl c_api_Route v1647 x1645 :: Bl q1659 177 [(.int .i64 a1), (.map (some q1654)), (.map (some q1657)), (.map (some q1658))] :: MapR (cInt .u64) false q1654 s1707 :: MapO (cInt .i64) q1657 g2596 s2599.1 [] :: MapR (cInt .u64) false q1658 s2599.2 :: r)) ?_ ?_
    · refine wp_block ?_
      refine loopI (fun k a w => ∃ mp2166 : List (Int × (List Int)), ∃ mp2168 : List (Int × Int), ∃ y2169 : Int, m55_l1 a0 a1 l1738 s1707 k mp2166 mp2168 y2169 = some s2599 ∧ ∃ g2167 : List Value, Env a 109 [(0, u0), (5, v1647), (6, (.pointer (some (ad q1659 0)))), (48, v1735), (49, (.int .i64 (l1738.length : Int))), (50, (.int .i64 y2169))] ∧ St z I w (OwnSl c_api_Route v1647 x1645 :: Bl q1659 177 [(.int .i64 a1), (.map (some q1654)), (.map (some q1657)), (.map (some q1658))] :: MapR (cInt .u64) false q1654 s1707 :: MapO (cInt .i64) q1657 g2167 mp2166 [] :: MapR (cInt .u64) false q1658 mp2168 :: OwnSl c_api_Route v1735 l1738 :: r)) ?_ k _ _ ?_
      · rintro k a w ⟨mp2166, mp2168, y2169, hm, g2167, hE, H⟩
        cases k with
        | zero => rw [m55_l1] at hm; cases hm
        | succ k =>
          rw [m55_l1] at hm
          refine wp_seq ?_
          refine wp_region_lit ?_
          refine s1 hE rfl (d_lss hE rfl rfl) fun a hE => ?_
          refine wpList_nil ?_
          refine wp_seq ?_
          by_cases c2601 : y2169 < (l1738.length : Int)
          · rw [if_pos c2601] at hm
            refine cT hE rfl (decide_eq_true c2601) ?_
            refine wp_skip ?_
            refine wp_seq ?_
            refine wp_block ?_
            refine wp_seq ?_
            refine wp_region_lit ?_
            obtain ⟨x2817, hx2818, hm⟩ := bnd hm
            refine s1 hE rfl (d_indexS sl91 hE rfl rfl H (Rd.own 5 rfl) hx2818) fun a hE => ?_
            refine s1 hE rfl (d_loadSA ag96 rfl hE rfl H (Rd.own 5 rfl) hx2818 (fun _ _ e => e)) fun a hE => ?_
            refine s2 hE rfl (d_alloc al96 H) fun a v w hR hE => ?_
            obtain ⟨q2819, rfl, H⟩ := hR
            refine s3 (d_store sz96 hE rfl rfl rfl (oneAll rfl) H rfl) fun v w hR => ?_
            have H : St z I w (Bl q2819 96 [(.int .i64 x2817.To), (.int .i64 x2817.Via), (.int .u64 x2817.Cost)] :: OwnSl c_api_Route v1647 x1645 :: Bl q1659 177 [(.int .i64 a1), (.map (some q1654)), (.map (some q1657)), (.map (some q1658))] :: MapR (cInt .u64) false q1654 s1707 :: MapO (cInt .i64) q1657 g2167 mp2166 [] :: MapR (cInt .u64) false q1658 mp2168 :: OwnSl c_api_Route v1735 l1738 :: r) := hR
            refine wpList_nil ?_
            refine wp_seq ?_
            refine wp_region_lit ?_
            refine s1 hE rfl (d_move hE rfl) fun a hE => ?_
            refine s1 hE rfl (d_lenS Try.underlying55 hE rfl H (Rd.cons (Rd.cons (Rd.cons (Rd.cons (Rd.cons (Rd.cons (Rd.cons hr0)))))))) fun a hE => ?_
            refine s1 hE rfl (d_move hE rfl) fun a hE => ?_
            refine wpList_nil ?_
            obtain ⟨s2959, hj2959, hm⟩ := bnd hm
            refine cut2 (fun a w => ∃ g2956 : List Value, Env a 109 [(0, u0), (5, v1647), (6, (.pointer (some (ad q1659 0)))), (48, v1735), (49, (.int .i64 (l1738.length : Int))), (50, (.int .i64 y2169))] ∧ St z I w (OwnSl c_api_Route v1647 x1645 :: Bl q1659 177 [(.int .i64 a1), (.map (some q1654)), (.map (some q1657)), (.map (some q1658))] :: MapR (cInt .u64) false q1654 s1707 :: MapO (cInt .i64) q1657 g2956 s2959.1 [] :: MapR (cInt .u64) false q1658 s2959.2 :: OwnSl c_api_Route v1735 l1738 :: r)) ?_ ?_
            · refine wp_block ?_
              refine loopI (fun k a w => ∃ mp2886 : List (Int × (List Int)), ∃ mp2888 : List (Int × Int), ∃ y2889 : Int, m55_l2 a0 a1 s1707 x2817 k mp2886 mp2888 y2889 = some s2959 ∧ ∃ g2887 : List Value, Env a 109 [(0, u0), (5, v1647), (6, (.pointer (some (ad q1659 0)))), (11, (.pointer (some (ad q2819 0)))), (48, v1735), (49, (.int .i64 (l1738.length : Int))), (50, (.int .i64 y2169)), (54, u0), (55, (.int .i64 (a0.length : Int))), (56, (.int .i64 y2889))] ∧ St z I w (OwnSl c_api_Route v1647 x1645 :: Bl q1659 177 [(.int .i64 a1), (.map (some q1654)), (.map (some q1657)), (.map (some q1658))] :: MapR (cInt .u64) false q1654 s1707 :: MapO (cInt .i64) q1657 g2887 mp2886 [] :: MapR (cInt .u64) false q1658 mp2888 :: Bl q2819 96 [(.int .i64 x2817.To), (.int .i64 x2817.Via), (.int .u64 x2817.Cost)] :: OwnSl c_api_Route v1735 l1738 :: r)) ?_ k _ _ ?_
              · rintro k a w ⟨mp2886, mp2888, y2889, hm, g2887, hE, H⟩
                cases k with
                | zero => rw [m55_l2] at hm; cases hm
                | succ k =>
                  rw [m55_l2] at hm
                  refine wp_seq ?_
                  refine wp_region_lit ?_
                  refine s1 hE rfl (d_lss hE rfl rfl) fun a hE => ?_
                  refine wpList_nil ?_
                  refine wp_seq ?_
                  by_cases c2961 : y2889 < (a0.length : Int)
                  · rw [if_pos c2961] at hm
                    refine cT hE rfl (decide_eq_true c2961) ?_
                    refine wp_skip ?_
                    refine wp_seq ?_
                    refine wp_block ?_
                    refine wp_seq ?_
                    refine wp_region_lit ?_
                    obtain ⟨x2997, hx2998, hm⟩ := bnd hm
                    refine s1 hE rfl (d_indexS sl55 hE rfl rfl H (Rd.cons (Rd.cons (Rd.cons (Rd.cons (Rd.cons (Rd.cons (Rd.cons hr0))))))) hx2998) fun a hE => ?_
                    refine s1 hE rfl (d_loadSA ag60 rfl hE rfl H (Rd.cons (Rd.cons (Rd.cons (Rd.cons (Rd.cons (Rd.cons (Rd.cons hr0))))))) hx2998 (fun _ _ e => e)) fun a hE => ?_
                    refine s2 hE rfl (d_alloc al60 H) fun a v w hR hE => ?_
                    obtain ⟨q2999, rfl, H⟩ := hR
                    refine s3 (d_store sz60 hE rfl rfl rfl (oneAll rfl) H rfl) fun v w hR => ?_
                    have H : St z I w (Bl q2999 60 [(.int .i64 x2997.From), (.int .i64 x2997.To), (.int .i64 x2997.Cost)] :: OwnSl c_api_Route v1647 x1645 :: Bl q1659 177 [(.int .i64 a1), (.map (some q1654)), (.map (some q1657)), (.map (some q1658))] :: MapR (cInt .u64) false q1654 s1707 :: MapO (cInt .i64) q1657 g2887 mp2886 [] :: MapR (cInt .u64) false q1658 mp2888 :: Bl q2819 96 [(.int .i64 x2817.To), (.int .i64 x2817.Via), (.int .u64 x2817.Cost)] :: OwnSl c_api_Route v1735 l1738 :: r) := hR
                    refine wpList_nil ?_
                    refine wp_seq ?_
                    obtain ⟨s3004, hj3004, hm⟩ := bnd hm
                    refine cut2 (fun a w => Env a 109 [(0, u0), (5, v1647), (6, (.pointer (some (ad q1659 0)))), (11, (.pointer (some (ad q2819 0)))), (13, (.pointer (some (ad q2999 0)))), (48, v1735), (49, (.int .i64 (l1738.length : Int))), (50, (.int .i64 y2169)), (54, u0), (55, (.int .i64 (a0.length : Int))), (56, (.int .i64 y2889)), (69, (.bool s3004))] ∧ St z I w (OwnSl c_api_Route v1647 x1645 :: Bl q1659 177 [(.int .i64 a1), (.map (some q1654)), (.map (some q1657)), (.map (some q1658))] :: MapR (cInt .u64) false q1654 s1707 :: MapO (cInt .i64) q1657 g2887 mp2886 [] :: MapR (cInt .u64) false q1658 mp2888 :: Bl q2819 96 [(.int .i64 x2817.To), (.int .i64 x2817.Via), (.int .u64 x2817.Cost)] :: Bl q2999 60 [(.int .i64 x2997.From), (.int .i64 x2997.To), (.int .i64 x2997.Cost)] :: OwnSl c_api_Route v1735 l1738 :: r)) ?_ ?_
                    · have hm := hj3004
                      refine wp_region_lit ?_
                      refine s1 hE rfl (d_fieldAddr fld60_1 hE rfl) fun a hE => ?_
                      refine s1 hE rfl (d_load sc3 hE rfl H 0 rfl rfl) fun a hE => ?_
                      refine s1 hE rfl (d_fieldAddr fld96_0 hE rfl) fun a hE => ?_
                      refine s1 hE rfl (d_load sc3 hE rfl H 6 rfl rfl) fun a hE => ?_
                      refine s1 hE rfl (d_eql hE rfl rfl) fun a hE => ?_
                      refine s1 hE rfl (d_move hE rfl) fun a hE => ?_
                      by_cases c3005 : x2997.To = x2817.To
                      · rw [if_pos c3005] at hm
                        refine gR hE rfl rfl (decide_eq_true c3005) ?_
                        refine s1 hE rfl (d_move hE rfl) fun a hE => ?_
                        refine gR hE rfl rfl (decide_eq_true c3005) ?_
                        refine s1 hE rfl (d_loadA ag60 hE rfl H 0 rfl rfl) fun a hE => ?_
                        refine gR hE rfl rfl (decide_eq_true c3005) ?_
                        obtain ⟨x3006, hc3007, hm⟩ := bnd hm
                        have H := St.get H 5 rfl
                        have H := St.get H 5 rfl
                        have H := St.get H 5 rfl
                        have H := St.get H 5 rfl
                        have H : St z I w (Bl q1659 177 [(.int .i64 a1), (.map (some q1654)), (.map (some q1657)), (.map (some q1658))] :: MapR (cInt .u64) false q1654 s1707 :: MapO (cInt .i64) q1657 g2887 mp2886 [] :: MapR (cInt .u64) false q1658 mp2888 :: Bl q2999 60 [(.int .i64 x2997.From), (.int .i64 x2997.To), (.int .i64 x2997.Cost)] :: OwnSl c_api_Route v1647 x1645 :: Bl q2819 96 [(.int .i64 x2817.To), (.int .i64 x2817.Via), (.int .u64 x2817.Cost)] :: OwnSl c_api_Route v1735 l1738 :: r) := H
                        refine s2 hE rfl (d_call c117 hE rfl (f117_ok a1 s1707 mp2886 mp2888 x2997 hc3007  H)) fun a v w hR hE => ?_
                        obtain ⟨hv_, H⟩ := hR
                        have hv_ := hv_.symm
                        subst hv_
                        refine s1 hE rfl (d_pT hE rfl (decide_eq_true c3005) rfl) fun a hE => ?_
                        refine wpList_nil ?_
                        cases hm
                        have H := St.get H 7 rfl
                        have H := St.get H 5 rfl
                        have H := St.get H 7 rfl
                        have H := St.get H 6 rfl
                        have H := St.get H 6 rfl
                        have H := St.get H 6 rfl
                        have H := St.get H 6 rfl
                        have H := St.get H 7 rfl
                        exact ⟨hE.sub ⟨rfl, rfl, rfl, rfl, rfl, rfl, rfl, rfl, rfl, rfl, rfl, rfl, trivial⟩, H⟩
                      · rw [if_neg c3005] at hm
                        refine gP hE rfl rfl rfl (decide_eq_false c3005) fun a hE => ?_
                        refine gP hE rfl rfl rfl (decide_eq_false c3005) fun a hE => ?_
                        refine gP hE rfl rfl rfl (decide_eq_false c3005) fun a hE => ?_
                        refine s1 hE rfl (d_pF hE rfl (decide_eq_false c3005) rfl) fun a hE => ?_
                        refine wpList_nil ?_
                        cases hm
                        have H := St.get H 7 rfl
                        have H := St.get H 1 rfl
                        have H := St.get H 7 rfl
                        have H := St.get H 7 rfl
                        have H := St.get H 7 rfl
                        have H := St.get H 7 rfl
                        have H := St.get H 7 rfl
                        have H := St.get H 7 rfl
                        exact ⟨hE.sub ⟨rfl, rfl, rfl, rfl, rfl, rfl, rfl, rfl, rfl, rfl, rfl, rfl, trivial⟩, H⟩
                    · rintro a w ⟨hE, H⟩
                      obtain ⟨s3018, hj3018, hm⟩ := bnd hm
                      refine cut2 (fun a w => ∃ g3016 : List Value, Env a 109 [(0, u0), (5, v1647), (6, (.pointer (some (ad q1659 0)))), (11, (.pointer (some (ad q2819 0)))), (48, v1735), (49, (.int .i64 (l1738.length : Int))), (50, (.int .i64 y2169)), (54, u0), (55, (.int .i64 (a0.length : Int))), (56, (.int .i64 y2889))] ∧ St z I w (OwnSl c_api_Route v1647 x1645 :: Bl q1659 177 [(.int .i64 a1), (.map (some q1654)), (.map (some q1657)), (.map (some q1658))] :: MapR (cInt .u64) false q1654 s1707 :: MapO (cInt .i64) q1657 g3016 s3018.1 [] :: MapR (cInt .u64) false q1658 s3018.2 :: Bl q2819 96 [(.int .i64 x2817.To), (.int .i64 x2817.Via), (.int .u64 x2817.Cost)] :: OwnSl c_api_Route v1735 l1738 :: r)) ?_ ?_
                      · have hm := hj3018
                        by_cases c3019 : s3004 = true
                        · rw [if_pos c3019] at hm
                          refine cT hE rfl c3019 ?_
                          refine wp_region_lit ?_
                          refine s1 hE rfl (d_move hE rfl) fun a hE => ?_
                          refine s1 hE rfl (d_loadA ag60 hE rfl H 6 rfl rfl) fun a hE => ?_
                          obtain ⟨x3023, hc3024, hm⟩ := bnd hm
                          have H := St.get H 4 rfl
                          have H := St.get H 4 rfl
                          have H := St.get H 4 rfl
                          have H := St.get H 4 rfl
                          have H : St z I w (Bl q1659 177 [(.int .i64 a1), (.map (some q1654)), (.map (some q1657)), (.map (some q1658))] :: MapR (cInt .u64) false q1654 s1707 :: MapO (cInt .i64) q1657 g2887 mp2886 [] :: MapR (cInt .u64) false q1658 mp2888 :: OwnSl c_api_Route v1647 x1645 :: Bl q2819 96 [(.int .i64 x2817.To), (.int .i64 x2817.Via), (.int .u64 x2817.Cost)] :: Bl q2999 60 [(.int .i64 x2997.From), (.int .i64 x2997.To), (.int .i64 x2997.Cost)] :: OwnSl c_api_Route v1735 l1738 :: r) := H
                          refine s2 hE rfl (d_call c118 hE rfl (f118_ok a1 s1707 mp2886 mp2888 x2997 hc3024  H)) fun a v w hR hE => ?_
                          obtain ⟨g3025, hv_, H⟩ := hR
                          have hv_ := hv_.symm
                          subst hv_
                          refine wpList_nil ?_
                          cases hm
                          have H := St.get H 7 rfl
                          have H := St.get H 6 rfl
                          have H := St.get H 5 rfl
                          have H := St.get H 5 rfl
                          have H := St.get H 5 rfl
                          have H := St.get H 5 rfl
                          have H := St.get H 6 rfl
                          have H := St.del H 7
                          exact ⟨g3025, hE.sub ⟨rfl, rfl, rfl, rfl, rfl, rfl, rfl, rfl, rfl, rfl, trivial⟩, H⟩
                        · rw [if_neg c3019] at hm
                          refine cF hE rfl (b_f c3019) ?_
                          refine wp_skip ?_
                          cases hm
                          have H := St.get H 7 rfl
                          have H := St.get H 6 rfl
                          have H := St.get H 6 rfl
                          have H := St.get H 6 rfl
                          have H := St.get H 6 rfl
                          have H := St.get H 6 rfl
                          have H := St.get H 6 rfl
                          have H := St.del H 7
                          exact ⟨g2887, hE.sub ⟨rfl, rfl, rfl, rfl, rfl, rfl, rfl, rfl, rfl, rfl, trivial⟩, H⟩
                      · rintro a w ⟨g3016, hE, H⟩
                        refine wp_region_lit ?_
                        refine s1 hE rfl (d_add hE rfl rfl) fun a hE => ?_
                        refine s1 hE rfl (d_move hE rfl) fun a hE => ?_
                        refine wpList_nil ?_
                        exact ⟨k, Nat.lt_succ_self k, s3018.1, s3018.2, IntKind.i64.wrap (y2889 + 1), hm, g3016, hE.sub ⟨rfl, rfl, rfl, rfl, rfl, rfl, rfl, rfl, rfl, rfl, trivial⟩, H⟩
                  · rw [if_neg c2961] at hm
                    refine cF hE rfl (decide_eq_false c2961) ?_
                    refine wp_exit ?_
                    cases hm
                    have H := St.get H 6 rfl
                    have H := St.get H 5 rfl
                    have H := St.get H 5 rfl
                    have H := St.get H 5 rfl
                    have H := St.get H 5 rfl
                    have H := St.get H 5 rfl
                    have H := St.del H 6
                    exact ⟨g2887, hE.sub ⟨rfl, rfl, rfl, rfl, rfl, rfl, trivial⟩, H⟩
              · have H := St.get H 6 rfl
                have H := St.get H 1 rfl
                have H := St.get H 6 rfl
                have H := St.get H 6 rfl
                have H := St.get H 6 rfl
                have H := St.get H 6 rfl
                have H := St.get H 6 rfl
                exact ⟨mp2166, mp2168, 0, hj2959, g2167, hE.sub ⟨rfl, rfl, rfl, rfl, rfl, rfl, rfl, rfl, rfl, rfl, trivial⟩, H⟩
            · rintro a w ⟨g2956, hE, H⟩
              refine wp_region_lit ?_
              refine s1 hE rfl (d_add hE rfl rfl) fun a hE => ?_
              refine s1 hE rfl (d_move hE rfl) fun a hE => ?_
              refine wpList_nil ?_
              exact ⟨k, Nat.lt_succ_self k, s2959.1, s2959.2, IntKind.i64.wrap (y2169 + 1), hm, g2956, hE.sub ⟨rfl, rfl, rfl, rfl, rfl, rfl, trivial⟩, H⟩
          · rw [if_neg c2601] at hm
            refine cF hE rfl (decide_eq_false c2601) ?_
            refine wp_exit ?_
            cases hm
            have H := St.del H 5
            exact ⟨g2167, hE.sub ⟨rfl, rfl, trivial⟩, H⟩
      · have H := St.get H 5 rfl
        have H := St.get H 5 rfl
        have H := St.get H 5 rfl
        have H := St.get H 5 rfl
        have H := St.get H 5 rfl
        exact ⟨[], [], 0, hj2599, [], hE.sub ⟨rfl, rfl, rfl, rfl, rfl, rfl, trivial⟩, H⟩
    · rintro a w ⟨g2596, hE, H⟩
      refine wp_seq ?_
      refine wp_region_lit ?_
      refine s1 hE rfl (d_assign hE rfl) fun a hE => ?_
      refine wpList_nil ?_
      refine wp_seq ?_
      refine wp_seq ?_
      refine wp_region_lit ?_
      refine s1 hE rfl (d_move hE rfl) fun a hE => ?_
      refine s1 hE rfl (d_lenS Try.underlying91 hE rfl H (Rd.own 0 rfl)) fun a hE => ?_
      refine s1 hE rfl (d_move hE rfl) fun a hE => ?_
      refine wpList_nil ?_
      obtain ⟨s3164, hj3164, hm⟩ := bnd hm
      refine cut2 (fun a w => ∃ v3162 : Value, Env a 109 [(14, v3162)] ∧ St z I w (OwnSl c_api_Ways v3162 s3164 :: r)) ?_ ?_
      · refine wp_block ?_
        refine loopI (fun k a w => ∃ l3092 : List Int, ∃ l3094 : List S_api_Ways, ∃ y3095 : Int, m55_l3 s2599 x1645 k l3092 l3094 y3095 = some s3164 ∧ ∃ v3093 : Value, Env a 109 [(6, (.pointer (some (ad q1659 0)))), (14, v3093), (75, v1647), (76, (.int .i64 (x1645.length : Int))), (77, (.int .i64 y3095))] ∧ St z I w (Bl q1659 177 [(.int .i64 a1), (.map (some q1654)), (.map (some q1657)), (.map (some q1658))] :: MapR (cInt .u64) false q1654 s1707 :: MapO (cInt .i64) q1657 g2596 s2599.1 l3092 :: MapR (cInt .u64) false q1658 s2599.2 :: OwnSl c_api_Ways v3093 l3094 :: OwnSl c_api_Route v1647 x1645 :: r)) ?_ k _ _ ?_
        · rintro k a w ⟨l3092, l3094, y3095, hm, v3093, hE, H⟩
          cases k with
          | zero => rw [m55_l3] at hm; cases hm
          | succ k =>
            rw [m55_l3] at hm
            refine wp_seq ?_
            refine wp_region_lit ?_
            refine s1 hE rfl (d_lss hE rfl rfl) fun a hE => ?_
            refine wpList_nil ?_
            refine wp_seq ?_
            by_cases c3166 : y3095 < (x1645.length : Int)
            · rw [if_pos c3166] at hm
              refine cT hE rfl (decide_eq_true c3166) ?_
              refine wp_skip ?_
              refine wp_seq ?_
              refine wp_block ?_
              refine wp_seq ?_
              refine wp_region_lit ?_
              obtain ⟨x3202, hx3203, hm⟩ := bnd hm
              refine s1 hE rfl (d_indexS sl91 hE rfl rfl H (Rd.own 5 rfl) hx3203) fun a hE => ?_
              refine s1 hE rfl (d_loadSA ag96 rfl hE rfl H (Rd.own 5 rfl) hx3203 (fun _ _ e => e)) fun a hE => ?_
              refine s2 hE rfl (d_alloc al96 H) fun a v w hR hE => ?_
              obtain ⟨q3204, rfl, H⟩ := hR
              refine s3 (d_store sz96 hE rfl rfl rfl (oneAll rfl) H rfl) fun v w hR => ?_
              have H : St z I w (Bl q3204 96 [(.int .i64 x3202.To), (.int .i64 x3202.Via), (.int .u64 x3202.Cost)] :: Bl q1659 177 [(.int .i64 a1), (.map (some q1654)), (.map (some q1657)), (.map (some q1658))] :: MapR (cInt .u64) false q1654 s1707 :: MapO (cInt .i64) q1657 g2596 s2599.1 l3092 :: MapR (cInt .u64) false q1658 s2599.2 :: OwnSl c_api_Ways v3093 l3094 :: OwnSl c_api_Route v1647 x1645 :: r) := hR
              refine wpList_nil ?_
              refine wp_seq ?_
              obtain ⟨x3207, hx3208, hm⟩ := bnd hm
              refine Dr.region (γ := Unit) (pre := [[], [0], [0, 1], [0, 1, 2], [], [4], [0, 1, 2, 3, 4, 5], [0, 1, 2, 3, 4, 5, 6]]) (val := [some (.pointer (some (ad q1659 0))), some (.pointer (some (ad q1659 0))), some (.pointer (some (ad q1659 (0 + 2)))), some (.map (some q1657)), some (.pointer (some (ad q3204 (0 + 0)))), some (.int .i64 x3202.To), some (vget g2596 s2599.1 x3202.To), some (vget g2596 s2599.1 x3202.To)]) (eff := []) (mask := [[]]) (keys := [[]]) (src := [[.base 6], [.op 0], [.op 1], [.op 2], [.base 16], [.op 4], [.op 3, .op 5], [.op 6]]) (z := z) (ef := fun p g => ([[]] : List (List (Nat × Value))).getD p []) (hi := fun _ _ => I) (rs := fun p g => ([Bl q3204 96 [(.int .i64 x3202.To), (.int .i64 x3202.Via), (.int .u64 x3202.Cost)] :: Bl q1659 177 [(.int .i64 a1), (.map (some q1654)), (.map (some q1657)), (.map (some q1658))] :: MapR (cInt .u64) false q1654 s1707 :: MapO (cInt .i64) q1657 g2596 s2599.1 l3092 :: MapR (cInt .u64) false q1658 s2599.2 :: OwnSl c_api_Ways v3093 l3094 :: OwnSl c_api_Route v1647 x1645 :: r] : List (List Asn)).getD p []) [(0, 0), (1, 0), (2, 0), (3, 0), (4, 0), (5, 0), (6, 0), (7, 0)] [] [0, 1, 2, 3, 4, 5, 6, 7] 0 mo hE () rfl H (by kernel_rfl) (by kernel_rfl) (fun p g => by cases p <;> rfl) ?_ ?_ (by kernel_rfl) (by kernel_rfl) ?_
              · exact ⟨by intro a w g hE H; exact Dr.is H rfl (Dr.run rfl (d_move hE rfl)),
    by intro a w g hE H; exact Dr.is H rfl (Dr.run rfl (d_nilCheck hE rfl)),
    by intro a w g hE H; exact Dr.is H rfl (Dr.run rfl (d_fieldAddr fld177_2 hE rfl)),
    by intro a w g hE H; exact Dr.is H rfl (Dr.run rfl (d_load sc175 hE rfl H 1 rfl rfl)),
    by intro a w g hE H; exact Dr.is H rfl (Dr.run rfl (d_fieldAddr fld96_0 hE rfl)),
    by intro a w g hE H; exact Dr.is H rfl (Dr.run rfl (d_load sc3 hE rfl H 0 rfl rfl)),
    by intro a w g hE H; exact Dr.is H rfl (Dr.run rfl (d_lookO1 Try.underlying175 Try.underlying3 zv51 hE rfl rfl H 3 rfl)),
    by intro a w g hE H; exact Dr.is H rfl (Dr.run rfl (d_assign hE rfl)),
    trivial⟩
              · trivial
              · intro a w g hE H
                have H : St z I w (Bl q3204 96 [(.int .i64 x3202.To), (.int .i64 x3202.Via), (.int .u64 x3202.Cost)] :: Bl q1659 177 [(.int .i64 a1), (.map (some q1654)), (.map (some q1657)), (.map (some q1658))] :: MapR (cInt .u64) false q1654 s1707 :: MapO (cInt .i64) q1657 g2596 s2599.1 l3092 :: MapR (cInt .u64) false q1658 s2599.2 :: OwnSl c_api_Ways v3093 l3094 :: OwnSl c_api_Route v1647 x1645 :: r) := H
                refine wp_seq ?_
                refine wp_region_lit ?_
                refine s1 hE rfl (d_move hE rfl) fun a hE => ?_
                obtain ⟨l3211, hl3212, hm⟩ := bnd hm
                have H := St.get H 3 rfl
                have H := St.mapTake hx3208 H
                have H : St z I w (OwnSl (cInt .i64) (vget g2596 s2599.1 x3202.To) x3207 :: MapO (cInt .i64) q1657 g2596 s2599.1 (x3202.To :: l3092) :: Bl q3204 96 [(.int .i64 x3202.To), (.int .i64 x3202.Via), (.int .u64 x3202.Cost)] :: Bl q1659 177 [(.int .i64 a1), (.map (some q1654)), (.map (some q1657)), (.map (some q1658))] :: MapR (cInt .u64) false q1654 s1707 :: MapR (cInt .u64) false q1658 s2599.2 :: OwnSl c_api_Ways v3093 l3094 :: OwnSl c_api_Route v1647 x1645 :: r) := H
                refine s2 hE rfl (d_call c119 hE rfl (srtz119 hl3212 H)) fun a v w hR hE => ?_
                obtain ⟨rfl, H⟩ := hR
                have H : St z I w (OwnSl (cInt .i64) (vget g2596 s2599.1 x3202.To) l3211 :: MapO (cInt .i64) q1657 g2596 s2599.1 (x3202.To :: l3092) :: Bl q3204 96 [(.int .i64 x3202.To), (.int .i64 x3202.Via), (.int .u64 x3202.Cost)] :: Bl q1659 177 [(.int .i64 a1), (.map (some q1654)), (.map (some q1657)), (.map (some q1658))] :: MapR (cInt .u64) false q1654 s1707 :: MapR (cInt .u64) false q1658 s2599.2 :: OwnSl c_api_Ways v3093 l3094 :: OwnSl c_api_Route v1647 x1645 :: r) := H
                refine wpList_nil ?_
                obtain ⟨l3222, hl3223, hm⟩ := bnd hm
                obtain ⟨x3225, hx3226, hm⟩ := bnd hm
                obtain ⟨l3228, ha3229, hm⟩ := bnd hm
                refine Dr.region (γ := Value × Value × Value) (pre := [[], [], [1], [], [3], [], [5], [], [7], [7, 8], [7, 8, 9], [], [11], [7, 8, 9, 10, 11, 12], [1, 2, 3, 4, 5, 6, 7, 8, 9, 10, 11, 12, 13], [1, 2, 3, 4, 5, 6, 7, 8, 9, 10, 11, 12, 13, 14], [0, 1, 2, 3, 4, 5, 6, 7, 8, 9, 10, 11, 12, 13, 14, 15], [0, 1, 2, 3, 4, 5, 6, 7, 8, 9, 10, 11, 12, 13, 14, 15, 16]]) (val := [some v3093, some (.pointer (some (ad q3204 (0 + 0)))), some (.int .i64 x3202.To), some (.pointer (some (ad q3204 (0 + 2)))), some (.int .u64 x3202.Cost), some (vget g2596 s2599.1 x3202.To), none, some (.pointer (some (ad q1659 0))), some (.pointer (some (ad q1659 0))), some (.pointer (some (ad q1659 (0 + 3)))), some (.map (some q1658)), some (.pointer (some (ad q3204 (0 + 0)))), some (.int .i64 x3202.To), some (.int .u64 x3225), none, none, none, none]) (eff := [6, 14, 15, 16, 17]) (mask := [[], [6], [6, 14], [6, 14, 15], [6, 14, 15, 16], [6, 14, 15, 16, 17]]) (keys := [[], [96], [104, 96], [105, 104, 96], [106, 105, 104, 96], [14, 106, 105, 104, 96]]) (src := [[.base 14], [.base 16], [.op 1], [.base 16], [.op 3], [.base 17], [.op 5], [.base 6], [.op 7], [.op 8], [.op 9], [.base 16], [.op 11], [.op 10, .op 12], [.op 2, .op 4, .op 13], [], [.op 0], []]) (z := z) (ef := fun p g => ([[], [(96, g.1)], [(104, (.agg #[(.int .i64 x3202.To), (.int .u64 x3202.Cost), g.1, (.int .u64 x3225)])), (96, g.1)], [(105, g.2.1), (104, (.agg #[(.int .i64 x3202.To), (.int .u64 x3202.Cost), g.1, (.int .u64 x3225)])), (96, g.1)], [(106, g.2.2), (105, g.2.1), (104, (.agg #[(.int .i64 x3202.To), (.int .u64 x3202.Cost), g.1, (.int .u64 x3225)])), (96, g.1)], [(14, g.2.2), (106, g.2.2), (105, g.2.1), (104, (.agg #[(.int .i64 x3202.To), (.int .u64 x3202.Cost), g.1, (.int .u64 x3225)])), (96, g.1)]] : List (List (Nat × Value))).getD p []) (hi := fun _ _ => I) (rs := fun p g => ([OwnSl (cInt .i64) (vget g2596 s2599.1 x3202.To) l3211 :: MapO (cInt .i64) q1657 g2596 s2599.1 (x3202.To :: l3092) :: Bl q3204 96 [(.int .i64 x3202.To), (.int .i64 x3202.Via), (.int .u64 x3202.Cost)] :: Bl q1659 177 [(.int .i64 a1), (.map (some q1654)), (.map (some q1657)), (.map (some q1658))] :: MapR (cInt .u64) false q1654 s1707 :: MapR (cInt .u64) false q1658 s2599.2 :: OwnSl c_api_Ways v3093 l3094 :: OwnSl c_api_Route v1647 x1645 :: r, OwnSl (cInt .i64) g.1 l3222 :: MapO (cInt .i64) q1657 g2596 s2599.1 (x3202.To :: l3092) :: Bl q3204 96 [(.int .i64 x3202.To), (.int .i64 x3202.Via), (.int .u64 x3202.Cost)] :: Bl q1659 177 [(.int .i64 a1), (.map (some q1654)), (.map (some q1657)), (.map (some q1658))] :: MapR (cInt .u64) false q1654 s1707 :: MapR (cInt .u64) false q1658 s2599.2 :: OwnSl c_api_Ways v3093 l3094 :: OwnSl c_api_Route v1647 x1645 :: r, OwnSl (cInt .i64) g.1 l3222 :: MapO (cInt .i64) q1657 g2596 s2599.1 (x3202.To :: l3092) :: Bl q3204 96 [(.int .i64 x3202.To), (.int .i64 x3202.Via), (.int .u64 x3202.Cost)] :: Bl q1659 177 [(.int .i64 a1), (.map (some q1654)), (.map (some q1657)), (.map (some q1658))] :: MapR (cInt .u64) false q1654 s1707 :: MapR (cInt .u64) false q1658 s2599.2 :: OwnSl c_api_Ways v3093 l3094 :: OwnSl c_api_Route v1647 x1645 :: r, OwnSl c_api_Ways g.2.1 ([(⟨x3202.To, x3202.Cost, l3222, x3225⟩ : S_api_Ways)]) :: ImR (cInt .i64) g.1 l3222 :: MapO (cInt .i64) q1657 g2596 s2599.1 (x3202.To :: l3092) :: Bl q3204 96 [(.int .i64 x3202.To), (.int .i64 x3202.Via), (.int .u64 x3202.Cost)] :: Bl q1659 177 [(.int .i64 a1), (.map (some q1654)), (.map (some q1657)), (.map (some q1658))] :: MapR (cInt .u64) false q1654 s1707 :: MapR (cInt .u64) false q1658 s2599.2 :: OwnSl c_api_Ways v3093 l3094 :: OwnSl c_api_Route v1647 x1645 :: r, OwnSl c_api_Ways g.2.2 l3228 :: ImR (cInt .i64) g.1 l3222 :: MapO (cInt .i64) q1657 g2596 s2599.1 (x3202.To :: l3092) :: Bl q3204 96 [(.int .i64 x3202.To), (.int .i64 x3202.Via), (.int .u64 x3202.Cost)] :: Bl q1659 177 [(.int .i64 a1), (.map (some q1654)), (.map (some q1657)), (.map (some q1658))] :: MapR (cInt .u64) false q1654 s1707 :: MapR (cInt .u64) false q1658 s2599.2 :: OwnSl c_api_Route v1647 x1645 :: r, OwnSl c_api_Ways g.2.2 l3228 :: ImR (cInt .i64) g.1 l3222 :: MapO (cInt .i64) q1657 g2596 s2599.1 (x3202.To :: l3092) :: Bl q3204 96 [(.int .i64 x3202.To), (.int .i64 x3202.Via), (.int .u64 x3202.Cost)] :: Bl q1659 177 [(.int .i64 a1), (.map (some q1654)), (.map (some q1657)), (.map (some q1658))] :: MapR (cInt .u64) false q1654 s1707 :: MapR (cInt .u64) false q1658 s2599.2 :: OwnSl c_api_Route v1647 x1645 :: r] : List (List Asn)).getD p []) [(0, 0), (1, 0), (2, 0), (3, 0), (4, 0), (5, 0), (7, 0), (8, 0), (9, 0), (10, 0), (11, 0), (12, 0), (13, 0), (0, 1), (1, 1), (2, 1), (3, 1), (4, 1), (7, 1), (8, 1), (9, 1), (10, 1), (11, 1), (12, 1), (13, 1), (0, 2), (0, 3)] [(0, 6, 1), (1, 14, 2), (2, 15, 3), (3, 16, 4), (4, 17, 5)] [0, 1, 2, 3, 4, 5, 7, 8, 9, 10, 11, 12, 13] 5 mo hE (undef, undef, undef) rfl H (by kernel_rfl) (by kernel_rfl) (fun p g => by rcases p with _ | _ | _ | _ | _ | _ | p <;> rfl) ?_ ?_ (by kernel_rfl) (by kernel_rfl) ?_
                · exact ⟨by intro a w g hE H; obtain ⟨v3224, v3227, v3230⟩ := g; exact Dr.is H rfl (Dr.run rfl (d_move hE rfl)),
    by intro a w g hE H; obtain ⟨v3224, v3227, v3230⟩ := g; exact Dr.is H rfl (Dr.run rfl (d_fieldAddr fld96_0 hE rfl)),
    by intro a w g hE H; obtain ⟨v3224, v3227, v3230⟩ := g; exact Dr.is H rfl (Dr.run rfl (d_load sc3 hE rfl H 2 rfl rfl)),
    by intro a w g hE H; obtain ⟨v3224, v3227, v3230⟩ := g; exact Dr.is H rfl (Dr.run rfl (d_fieldAddr fld96_2 hE rfl)),
    by intro a w g hE H; obtain ⟨v3224, v3227, v3230⟩ := g; exact Dr.is H rfl (Dr.run rfl (d_load sc61 hE rfl H 2 rfl rfl)),
    by intro a w g hE H; obtain ⟨v3224, v3227, v3230⟩ := g; exact Dr.is H rfl (Dr.run rfl (d_move hE rfl)),
    by intro a w g hE H; obtain ⟨v3224, v3227, v3230⟩ := g; exact Dr.is H rfl (Dr.run rfl (d_move hE rfl)),
    by intro a w g hE H; obtain ⟨v3224, v3227, v3230⟩ := g; exact Dr.is H rfl (Dr.run rfl (d_nilCheck hE rfl)),
    by intro a w g hE H; obtain ⟨v3224, v3227, v3230⟩ := g; exact Dr.is H rfl (Dr.run rfl (d_fieldAddr fld177_3 hE rfl)),
    by intro a w g hE H; obtain ⟨v3224, v3227, v3230⟩ := g; exact Dr.is H rfl (Dr.run rfl (d_load sc174 hE rfl H 3 rfl rfl)),
    by intro a w g hE H; obtain ⟨v3224, v3227, v3230⟩ := g; exact Dr.is H rfl (Dr.run rfl (d_fieldAddr fld96_0 hE rfl)),
    by intro a w g hE H; obtain ⟨v3224, v3227, v3230⟩ := g; exact Dr.is H rfl (Dr.run rfl (d_load sc3 hE rfl H 2 rfl rfl)),
    by intro a w g hE H; obtain ⟨v3224, v3227, v3230⟩ := g; exact Dr.is H rfl (Dr.run rfl (b_lookup1 (V := (fun x : Int => (.int .u64 x))) (zx := 0) (c := (cInt .u64)) (g := false) Try.underlying174 Try.underlying3 zv61 (fun _ _ _ h => by rw [h]; rfl) hE rfl rfl hx3226 H 5 rfl)),
    by intro a w g hE H; obtain ⟨v3224, v3227, v3230⟩ := g; exact Dr.is H rfl (Dr.run rfl (d_move hE rfl)),
    by intro a w g hE H; obtain ⟨v3224, v3227, v3230⟩ := g; exact Dr.is H rfl (Dr.run rfl (d_fieldAddr fld96_0 hE rfl)),
    by intro a w g hE H; obtain ⟨v3224, v3227, v3230⟩ := g; exact Dr.is H rfl (Dr.run rfl (d_load sc3 hE rfl H 2 rfl rfl)),
    by intro a w g hE H; obtain ⟨v3224, v3227, v3230⟩ := g; exact Dr.is H rfl (Dr.run rfl (d_fieldAddr fld96_2 hE rfl)),
    by intro a w g hE H; obtain ⟨v3224, v3227, v3230⟩ := g; exact Dr.is H rfl (Dr.run rfl (d_load sc61 hE rfl H 2 rfl rfl)),
    by intro a w g hE H; obtain ⟨v3224, v3227, v3230⟩ := g; exact Dr.is H rfl (Dr.run rfl (d_move hE rfl)),
    by intro a w g hE H; obtain ⟨v3224, v3227, v3230⟩ := g; exact Dr.is H rfl (Dr.run rfl (d_nilCheck hE rfl)),
    by intro a w g hE H; obtain ⟨v3224, v3227, v3230⟩ := g; exact Dr.is H rfl (Dr.run rfl (d_fieldAddr fld177_3 hE rfl)),
    by intro a w g hE H; obtain ⟨v3224, v3227, v3230⟩ := g; exact Dr.is H rfl (Dr.run rfl (d_load sc174 hE rfl H 3 rfl rfl)),
    by intro a w g hE H; obtain ⟨v3224, v3227, v3230⟩ := g; exact Dr.is H rfl (Dr.run rfl (d_fieldAddr fld96_0 hE rfl)),
    by intro a w g hE H; obtain ⟨v3224, v3227, v3230⟩ := g; exact Dr.is H rfl (Dr.run rfl (d_load sc3 hE rfl H 2 rfl rfl)),
    by intro a w g hE H; obtain ⟨v3224, v3227, v3230⟩ := g; exact Dr.is H rfl (Dr.run rfl (b_lookup1 (V := (fun x : Int => (.int .u64 x))) (zx := 0) (c := (cInt .u64)) (g := false) Try.underlying174 Try.underlying3 zv61 (fun _ _ _ h => by rw [h]; rfl) hE rfl rfl hx3226 H 5 rfl)),
    by intro a w g hE H; obtain ⟨v3224, v3227, v3230⟩ := g; exact Dr.is H rfl (Dr.run rfl (d_move hE rfl)),
    by intro a w g hE H; obtain ⟨v3224, v3227, v3230⟩ := g; exact Dr.is H rfl (Dr.run rfl (d_move hE rfl)),
    trivial⟩
                · exact ⟨by intro a w g hE hF H; obtain ⟨v3224, v3227, v3230⟩ := g; refine (Dr.run rfl (d_call c120 hE rfl (unq120 hl3223 H))).mono fun v w hR => ?_; obtain ⟨v3224, hv_, H⟩ := hR; have hv_ := hv_.symm; subst hv_; have H : St z I w (OwnSl (cInt .i64) v3224 l3222 :: MapO (cInt .i64) q1657 g2596 s2599.1 (x3202.To :: l3092) :: Bl q3204 96 [(.int .i64 x3202.To), (.int .i64 x3202.Via), (.int .u64 x3202.Cost)] :: Bl q1659 177 [(.int .i64 a1), (.map (some q1654)), (.map (some q1657)), (.map (some q1658))] :: MapR (cInt .u64) false q1654 s1707 :: MapR (cInt .u64) false q1658 s2599.2 :: OwnSl c_api_Ways v3093 l3094 :: OwnSl c_api_Route v1647 x1645 :: r) := H; exact ⟨(v3224, v3227, v3230), H, Dr.lkSub ⟨rfl, trivial⟩⟩,
    by intro a w g hE hF H; obtain ⟨v3224, v3227, v3230⟩ := g; have hE := Dr.env_both hE hF; refine (Dr.run rfl (d_build hE rfl (bld94_0In_1In_2Sl_3In _ _ _ _ (Rd.slice H (Rd.own 0 rfl))))).mono fun v w' hR => ?_; obtain ⟨hv_, rfl⟩ := hR; have hv_ := hv_.symm; subst hv_; exact ⟨(v3224, v3227, v3230), H, Dr.lkSub ⟨rfl, rfl, trivial⟩⟩,
    by intro a w g hE hF H; obtain ⟨v3224, v3227, v3230⟩ := g; have hE := Dr.env_both hE hF; have H := St.give H; have H : St z I w (ImR (cInt .i64) v3224 l3222 :: MapO (cInt .i64) q1657 g2596 s2599.1 (x3202.To :: l3092) :: Bl q3204 96 [(.int .i64 x3202.To), (.int .i64 x3202.Via), (.int .u64 x3202.Cost)] :: Bl q1659 177 [(.int .i64 a1), (.map (some q1654)), (.map (some q1657)), (.map (some q1658))] :: MapR (cInt .u64) false q1654 s1707 :: MapR (cInt .u64) false q1658 s2599.2 :: OwnSl c_api_Ways v3093 l3094 :: OwnSl c_api_Route v1647 x1645 :: r) := H; refine (Dr.run rfl (d_lit (c := c_api_Ways) (xs := [(⟨x3202.To, x3202.Cost, l3222, x3225⟩ : S_api_Ways)]) hE rfl (lit87_1_v_v_v_v _ _ _ _) rfl rfl (fun J h iJ s => rowsC (cs := [(.int .i64 x3202.To), (.int .u64 x3202.Cost), v3224, (.int .u64 x3225)]) ⟨_, rfl, (Sat.im s 0 rfl)⟩ (rows0)) H)).mono fun v w hR => ?_; obtain ⟨v3227, rfl⟩ : ∃ x, x = v := ⟨v, rfl⟩; have H : St z I w (OwnSl c_api_Ways v3227 ([(⟨x3202.To, x3202.Cost, l3222, x3225⟩ : S_api_Ways)]) :: ImR (cInt .i64) v3224 l3222 :: MapO (cInt .i64) q1657 g2596 s2599.1 (x3202.To :: l3092) :: Bl q3204 96 [(.int .i64 x3202.To), (.int .i64 x3202.Via), (.int .u64 x3202.Cost)] :: Bl q1659 177 [(.int .i64 a1), (.map (some q1654)), (.map (some q1657)), (.map (some q1658))] :: MapR (cInt .u64) false q1654 s1707 :: MapR (cInt .u64) false q1658 s2599.2 :: OwnSl c_api_Ways v3093 l3094 :: OwnSl c_api_Route v1647 x1645 :: r) := hR; exact ⟨(v3224, v3227, v3230), H, Dr.lkSub ⟨rfl, rfl, rfl, trivial⟩⟩,
    by intro a w g hE hF H; obtain ⟨v3224, v3227, v3230⟩ := g; have hE := Dr.env_both hE hF; have H := St.get H 7 rfl; have H : St z I w (OwnSl c_api_Ways v3093 l3094 :: OwnSl c_api_Ways v3227 ([(⟨x3202.To, x3202.Cost, l3222, x3225⟩ : S_api_Ways)]) :: ImR (cInt .i64) v3224 l3222 :: MapO (cInt .i64) q1657 g2596 s2599.1 (x3202.To :: l3092) :: Bl q3204 96 [(.int .i64 x3202.To), (.int .i64 x3202.Via), (.int .u64 x3202.Cost)] :: Bl q1659 177 [(.int .i64 a1), (.map (some q1654)), (.map (some q1657)), (.map (some q1658))] :: MapR (cInt .u64) false q1654 s1707 :: MapR (cInt .u64) false q1658 s2599.2 :: OwnSl c_api_Route v1647 x1645 :: r) := H; refine (Dr.run rfl (d_appendO (lim := 2932031007402) el87 (by decide) (by decide) hE rfl rfl H ha3229)).mono fun v w hR => ?_; obtain ⟨v3230, rfl⟩ : ∃ x, x = v := ⟨v, rfl⟩; have H : St z I w (OwnSl c_api_Ways v3230 l3228 :: ImR (cInt .i64) v3224 l3222 :: MapO (cInt .i64) q1657 g2596 s2599.1 (x3202.To :: l3092) :: Bl q3204 96 [(.int .i64 x3202.To), (.int .i64 x3202.Via), (.int .u64 x3202.Cost)] :: Bl q1659 177 [(.int .i64 a1), (.map (some q1654)), (.map (some q1657)), (.map (some q1658))] :: MapR (cInt .u64) false q1654 s1707 :: MapR (cInt .u64) false q1658 s2599.2 :: OwnSl c_api_Route v1647 x1645 :: r) := hR; exact ⟨(v3224, v3227, v3230), H, Dr.lkSub ⟨rfl, rfl, rfl, rfl, trivial⟩⟩,
    by intro a w g hE hF H; obtain ⟨v3224, v3227, v3230⟩ := g; have hE := Dr.env_both hE hF; refine (Dr.run rfl (d_assign hE rfl)).mono fun v w' hR => ?_; obtain ⟨hv_, rfl⟩ := hR; have hv_ := hv_.symm; subst hv_; exact ⟨(v3224, v3227, v3230), H, Dr.lkSub ⟨rfl, rfl, rfl, rfl, rfl, trivial⟩⟩,
    trivial⟩
                · intro a w g hE H
                  obtain ⟨v3224, v3227, v3230⟩ := g
                  have H : St z I w (OwnSl c_api_Ways v3230 l3228 :: ImR (cInt .i64) v3224 l3222 :: MapO (cInt .i64) q1657 g2596 s2599.1 (x3202.To :: l3092) :: Bl q3204 96 [(.int .i64 x3202.To), (.int .i64 x3202.Via), (.int .u64 x3202.Cost)] :: Bl q1659 177 [(.int .i64 a1), (.map (some q1654)), (.map (some q1657)), (.map (some q1658))] :: MapR (cInt .u64) false q1654 s1707 :: MapR (cInt .u64) false q1658 s2599.2 :: OwnSl c_api_Route v1647 x1645 :: r) := H
                  refine wp_region_lit ?_
                  refine s1 hE rfl (d_add hE rfl rfl) fun a hE => ?_
                  refine s1 hE rfl (d_move hE rfl) fun a hE => ?_
                  refine wpList_nil ?_
                  have H := St.get H 7 rfl
                  have H := St.get H 1 rfl
                  have H := St.get H 7 rfl
                  have H := St.get H 4 rfl
                  have H := St.get H 7 rfl
                  have H := St.get H 7 rfl
                  have H := St.del H 6
                  have H := St.del H 6
                  exact ⟨k, Nat.lt_succ_self k, (x3202.To :: l3092), l3228, IntKind.i64.wrap (y3095 + 1), hm, v3230, hE.sub ⟨rfl, rfl, rfl, rfl, rfl, trivial⟩, H⟩
            · rw [if_neg c3166] at hm
              refine cF hE rfl (decide_eq_false c3166) ?_
              refine wp_exit ?_
              cases hm
              have H := St.get H 4 rfl
              have H := St.del H 1
              have H := St.del H 1
              have H := St.del H 1
              have H := St.del H 1
              have H := St.del H 1
              exact ⟨v3093, hE.sub ⟨rfl, trivial⟩, H⟩
        · have H := St.nil (c := c_api_Ways) H none
          have H := St.get H 1 rfl
          have H := St.get H 1 rfl
          have H := St.get H 5 rfl
          have H := St.get H 5 rfl
          have H := St.get H 5 rfl
          have H := St.get H 5 rfl
          exact ⟨[], [], 0, hj3164, (.slice none 0 0), hE.sub ⟨rfl, rfl, rfl, rfl, rfl, trivial⟩, H⟩
      · rintro a w ⟨v3162, hE, H⟩
        refine wp_seq ?_
        refine wp_region_lit ?_
        refine s1 hE rfl (d_move hE rfl) fun a hE => ?_
        refine s1 hE rfl (d_assign hE rfl) fun a hE => ?_
        refine wpList_nil ?_
        refine wp_ret ?_
        cases hm
        exact ret1 rfl hE rfl ⟨_, rfl, v3162, rfl, H⟩
def m54 (k : Nat)  : Option Bool := Option.bind (m55 k ([(⟨1, 2, 1⟩ : S_api_Arc), (⟨1, 3, 1⟩ : S_api_Arc), (⟨2, 4, 1⟩ : S_api_Arc), (⟨3, 4, 1⟩ : S_api_Arc)]) 1) fun x102 => Option.bind (α := Bool) (if (x102.length : Int) = 3 then (Option.bind (rdx x102 2) fun x127 => if (x127.Via.length : Int) = 2 then (Option.bind (rdx x102 2) fun x131 => if x131.Many = 2 then (Option.bind (rdx x102 2) fun x134 => if x134.Cost = 2 then (Option.bind (rdx x102 2) fun x137 => Option.bind (m59 x137 3) fun x140 => some (decide (x140 = 3))) else (some false)) else (some false)) else (some false)) else (some false)) fun s125 => some s125
set_option maxRecDepth 20000 in
set_option maxHeartbeats 4000000 in
theorem f54_ok (k : Nat)  {res : Bool} (hm : m54 k = some res) {z w : World} {I : Hp} {r : List Asn} (hz : z.drawn = 0) (H : St z I w (r)) :
    Calls Try.prog 54 #[] w (Rt fun v w' => v = (.bool res) ∧ St z I w' (r)) := by
  unfold m54 at hm
  refine enter (args := []) Try.func54 rfl Try.ntmps54 rfl fun a hE => ?_
  refine wp_seq ?_
  refine wp_region_lit ?_
  refine s1 hE rfl (d_assign hE rfl) fun a hE => ?_
  refine wpList_nil ?_
  refine wp_seq ?_
  refine wp_region_lit ?_
  refine s1 hE rfl (d_build hE rfl (bld60_0In_1In_2In _ _ _)) fun a hE => ?_
  refine s1 hE rfl (d_build hE rfl (bld60_0In_1In_2In _ _ _)) fun a hE => ?_
  refine s1 hE rfl (d_build hE rfl (bld60_0In_1In_2In _ _ _)) fun a hE => ?_
  refine s1 hE rfl (d_build hE rfl (bld60_0In_1In_2In _ _ _)) fun a hE => ?_
  refine s2 hE rfl (d_lit (c := c_api_Arc) (xs := [(⟨1, 2, 1⟩ : S_api_Arc), (⟨1, 3, 1⟩ : S_api_Arc), (⟨2, 4, 1⟩ : S_api_Arc), (⟨3, 4, 1⟩ : S_api_Arc)]) hE rfl (lit55_4 _ _ _ _ _ _ _ _ _ _ _ _) rfl rfl (fun J h iJ s => rowsC (cs := [(.int .i64 1), (.int .i64 2), (.int .i64 1)]) rfl (rowsC (cs := [(.int .i64 1), (.int .i64 3), (.int .i64 1)]) rfl (rowsC (cs := [(.int .i64 2), (.int .i64 4), (.int .i64 1)]) rfl (rowsC (cs := [(.int .i64 3), (.int .i64 4), (.int .i64 1)]) rfl (rows0))))) H) fun a v w hR hE => ?_
  obtain ⟨v98, rfl⟩ : ∃ x, x = v := ⟨v, rfl⟩
  have H : St z I w (OwnSl c_api_Arc v98 ([(⟨1, 2, 1⟩ : S_api_Arc), (⟨1, 3, 1⟩ : S_api_Arc), (⟨2, 4, 1⟩ : S_api_Arc), (⟨3, 4, 1⟩ : S_api_Arc)]) :: r) := hR
  refine s1 hE rfl (d_assign hE rfl) fun a hE => ?_
  refine wpList_nil ?_
  refine wp_seq ?_
  refine wp_region_lit ?_
  refine s1 hE rfl (d_move hE rfl) fun a hE => ?_
  obtain ⟨x102, hc103, hm⟩ := bnd hm
  refine s2 hE rfl (d_call c55 hE rfl (f55_ok k ([(⟨1, 2, 1⟩ : S_api_Arc), (⟨1, 3, 1⟩ : S_api_Arc), (⟨2, 4, 1⟩ : S_api_Arc), (⟨3, 4, 1⟩ : S_api_Arc)]) 1 hc103 (Rd.own 0 rfl) hz H)) fun a v w hR hE => ?_
  obtain ⟨v104, hv_, H⟩ := hR
  have hv_ := hv_.symm
  subst hv_
  refine s1 hE rfl (d_assign hE rfl) fun a hE => ?_
  refine wpList_nil ?_
  refine wp_seq ?_
  obtain ⟨s125, hj125, hm⟩ := bnd hm
  refine cut2 (fun a w => Env a 42 [(0, (.bool s125))] ∧ St z I w (r)) ?_ ?_
  · have hm := hj125
    refine wp_region_lit ?_
    refine s1 hE rfl (d_move hE rfl) fun a hE => ?_
    refine s1 hE rfl (d_lenS Try.underlying87 hE rfl H (Rd.own 0 rfl)) fun a hE => ?_
    refine s1 hE rfl (d_eql hE rfl rfl) fun a hE => ?_
    refine s1 hE rfl (d_move hE rfl) fun a hE => ?_
    by_cases c126 : (x102.length : Int) = 3
    · rw [if_pos c126] at hm
      refine gR hE rfl rfl (decide_eq_true c126) ?_
      refine s1 hE rfl (d_move hE rfl) fun a hE => ?_
      refine gR hE rfl rfl (decide_eq_true c126) ?_
      obtain ⟨x127, hx128, hm⟩ := bnd hm
      refine s1 hE rfl (d_indexS sl87 hE rfl rfl H (Rd.own 0 rfl) hx128) fun a hE => ?_
      refine gR hE rfl rfl (decide_eq_true c126) ?_
      refine s1 hE rfl (d_fieldAddr fld94_2 hE rfl) fun a hE => ?_
      refine gR hE rfl rfl (decide_eq_true c126) ?_
      refine s2 hE rfl (d_loadSfR (c := c_api_Ways) (j := 2) (Q := fun V => ImR (cInt .i64) V x127.Via) sc51 hE rfl H (Rd.own 0 rfl) hx128 (fun _ _ e => by obtain ⟨V0, rfl, h0⟩ := e; exact ⟨_, rfl, h0⟩)) fun a v w hR hE => ?_
      obtain ⟨v129, rfl⟩ : ∃ x, x = v := ⟨v, rfl⟩
      have H : St z I w (ImR (cInt .i64) v129 x127.Via :: OwnSl c_api_Ways v104 x102 :: OwnSl c_api_Arc v98 ([(⟨1, 2, 1⟩ : S_api_Arc), (⟨1, 3, 1⟩ : S_api_Arc), (⟨2, 4, 1⟩ : S_api_Arc), (⟨3, 4, 1⟩ : S_api_Arc)]) :: r) := hR
      refine gR hE rfl rfl (decide_eq_true c126) ?_
      refine s1 hE rfl (d_lenS Try.underlying51 hE rfl H (Rd.im 0 rfl)) fun a hE => ?_
      refine gR hE rfl rfl (decide_eq_true c126) ?_
      refine s1 hE rfl (d_eql hE rfl rfl) fun a hE => ?_
      refine s1 hE rfl (d_pT hE rfl (decide_eq_true c126) rfl) fun a hE => ?_
      refine s1 hE rfl (d_move hE rfl) fun a hE => ?_
      by_cases c130 : (x127.Via.length : Int) = 2
      · rw [if_pos c130] at hm
        refine gR hE rfl rfl (decide_eq_true c130) ?_
        refine s1 hE rfl (d_move hE rfl) fun a hE => ?_
        refine gR hE rfl rfl (decide_eq_true c130) ?_
        obtain ⟨x131, hx132, hm⟩ := bnd hm
        refine s1 hE rfl (d_indexS sl87 hE rfl rfl H (Rd.own 1 rfl) hx132) fun a hE => ?_
        refine gR hE rfl rfl (decide_eq_true c130) ?_
        refine s1 hE rfl (d_fieldAddr fld94_3 hE rfl) fun a hE => ?_
        refine gR hE rfl rfl (decide_eq_true c130) ?_
        refine s1 hE rfl (d_loadSf (j := 3) sc61 hE rfl H (Rd.own 1 rfl) hx132 (fun _ _ e => by obtain ⟨_, rfl, _⟩ := e; rfl)) fun a hE => ?_
        refine gR hE rfl rfl (decide_eq_true c130) ?_
        refine s1 hE rfl (d_eql hE rfl rfl) fun a hE => ?_
        refine s1 hE rfl (d_pT hE rfl (decide_eq_true c130) rfl) fun a hE => ?_
        refine s1 hE rfl (d_move hE rfl) fun a hE => ?_
        by_cases c133 : x131.Many = 2
        · rw [if_pos c133] at hm
          refine gR hE rfl rfl (decide_eq_true c133) ?_
          refine s1 hE rfl (d_move hE rfl) fun a hE => ?_
          refine gR hE rfl rfl (decide_eq_true c133) ?_
          obtain ⟨x134, hx135, hm⟩ := bnd hm
          refine s1 hE rfl (d_indexS sl87 hE rfl rfl H (Rd.own 1 rfl) hx135) fun a hE => ?_
          refine gR hE rfl rfl (decide_eq_true c133) ?_
          refine s1 hE rfl (d_fieldAddr fld94_1 hE rfl) fun a hE => ?_
          refine gR hE rfl rfl (decide_eq_true c133) ?_
          refine s1 hE rfl (d_loadSf (j := 1) sc61 hE rfl H (Rd.own 1 rfl) hx135 (fun _ _ e => by obtain ⟨_, rfl, _⟩ := e; rfl)) fun a hE => ?_
          refine gR hE rfl rfl (decide_eq_true c133) ?_
          refine s1 hE rfl (d_eql hE rfl rfl) fun a hE => ?_
          refine s1 hE rfl (d_pT hE rfl (decide_eq_true c133) rfl) fun a hE => ?_
          refine s1 hE rfl (d_move hE rfl) fun a hE => ?_
          by_cases c136 : x134.Cost = 2
          · rw [if_pos c136] at hm
            refine gR hE rfl rfl (decide_eq_true c136) ?_
            refine s1 hE rfl (d_move hE rfl) fun a hE => ?_
            refine gR hE rfl rfl (decide_eq_true c136) ?_
            obtain ⟨x137, hx138, hm⟩ := bnd hm
            refine s1 hE rfl (d_indexS sl87 hE rfl rfl H (Rd.own 1 rfl) hx138) fun a hE => ?_
            refine gR hE rfl rfl (decide_eq_true c136) ?_
            refine s2 hE rfl (d_loadSR ag94 rfl hE rfl H (Rd.own 1 rfl) hx138) fun a v w hR hE => ?_
            obtain ⟨cs_, rfl, H⟩ := hR
            obtain ⟨v139, he_, H'⟩ := enc_api_Ways H
            clear H
            subst he_
            have H := H'
            have H : St z I w (ImR (cInt .i64) v139 x137.Via :: ImR (cInt .i64) v129 x127.Via :: OwnSl c_api_Ways v104 x102 :: OwnSl c_api_Arc v98 ([(⟨1, 2, 1⟩ : S_api_Arc), (⟨1, 3, 1⟩ : S_api_Arc), (⟨2, 4, 1⟩ : S_api_Arc), (⟨3, 4, 1⟩ : S_api_Arc)]) :: r) := H
            refine gR hE rfl rfl (decide_eq_true c136) ?_
            obtain ⟨x140, hc141, hm⟩ := bnd hm
            refine s2 hE rfl (d_call c59 hE rfl (f59_ok x137 3 hc141 (Imm.im 0 rfl) H)) fun a v w hR hE => ?_
            obtain ⟨hv_, H⟩ := hR
            have hv_ := hv_.symm
            subst hv_
            refine gR hE rfl rfl (decide_eq_true c136) ?_
            refine s1 hE rfl (d_eql hE rfl rfl) fun a hE => ?_
            refine s1 hE rfl (d_pT hE rfl (decide_eq_true c136) rfl) fun a hE => ?_
            refine s1 hE rfl (d_assign hE rfl) fun a hE => ?_
            refine wpList_nil ?_
            cases hm
            have H := St.del H 0
            have H := St.del H 0
            have H := St.del H 0
            have H := St.del H 0
            exact ⟨hE.sub ⟨rfl, trivial⟩, H⟩
          · rw [if_neg c136] at hm
            refine gP hE rfl rfl rfl (decide_eq_false c136) fun a hE => ?_
            refine gP hE rfl rfl rfl (decide_eq_false c136) fun a hE => ?_
            refine gP hE rfl rfl rfl (decide_eq_false c136) fun a hE => ?_
            refine gP hE rfl rfl rfl (decide_eq_false c136) fun a hE => ?_
            refine gP hE rfl rfl rfl (decide_eq_false c136) fun a hE => ?_
            refine s1 hE rfl (d_pF hE rfl (decide_eq_false c136) rfl) fun a hE => ?_
            refine s1 hE rfl (d_assign hE rfl) fun a hE => ?_
            refine wpList_nil ?_
            cases hm
            have H := St.del H 0
            have H := St.del H 0
            have H := St.del H 0
            exact ⟨hE.sub ⟨rfl, trivial⟩, H⟩
        · rw [if_neg c133] at hm
          refine gP hE rfl rfl rfl (decide_eq_false c133) fun a hE => ?_
          refine gP hE rfl rfl rfl (decide_eq_false c133) fun a hE => ?_
          refine gP hE rfl rfl rfl (decide_eq_false c133) fun a hE => ?_
          refine gP hE rfl rfl rfl (decide_eq_false c133) fun a hE => ?_
          refine gP hE rfl rfl rfl (decide_eq_false c133) fun a hE => ?_
          refine s1 hE rfl (d_pF hE rfl (decide_eq_false c133) rfl) fun a hE => ?_
          refine s1 hE rfl (d_move hE rfl) fun a hE => ?_
          refine gP hE rfl rfl rfl rfl fun a hE => ?_
          refine gP hE rfl rfl rfl rfl fun a hE => ?_
          refine gP hE rfl rfl rfl rfl fun a hE => ?_
          refine gP hE rfl rfl rfl rfl fun a hE => ?_
          refine gP hE rfl rfl rfl rfl fun a hE => ?_
          refine s1 hE rfl (d_pF hE rfl rfl rfl) fun a hE => ?_
          refine s1 hE rfl (d_assign hE rfl) fun a hE => ?_
          refine wpList_nil ?_
          cases hm
          have H := St.del H 0
          have H := St.del H 0
          have H := St.del H 0
          exact ⟨hE.sub ⟨rfl, trivial⟩, H⟩
      · rw [if_neg c130] at hm
        refine gP hE rfl rfl rfl (decide_eq_false c130) fun a hE => ?_
        refine gP hE rfl rfl rfl (decide_eq_false c130) fun a hE => ?_
        refine gP hE rfl rfl rfl (decide_eq_false c130) fun a hE => ?_
        refine gP hE rfl rfl rfl (decide_eq_false c130) fun a hE => ?_
        refine gP hE rfl rfl rfl (decide_eq_false c130) fun a hE => ?_
        refine s1 hE rfl (d_pF hE rfl (decide_eq_false c130) rfl) fun a hE => ?_
        refine s1 hE rfl (d_move hE rfl) fun a hE => ?_
        refine gP hE rfl rfl rfl rfl fun a hE => ?_
        refine gP hE rfl rfl rfl rfl fun a hE => ?_
        refine gP hE rfl rfl rfl rfl fun a hE => ?_
        refine gP hE rfl rfl rfl rfl fun a hE => ?_
        refine gP hE rfl rfl rfl rfl fun a hE => ?_
        refine s1 hE rfl (d_pF hE rfl rfl rfl) fun a hE => ?_
        refine s1 hE rfl (d_move hE rfl) fun a hE => ?_
        refine gP hE rfl rfl rfl rfl fun a hE => ?_
        refine gP hE rfl rfl rfl rfl fun a hE => ?_
        refine gP hE rfl rfl rfl rfl fun a hE => ?_
        refine gP hE rfl rfl rfl rfl fun a hE => ?_
        refine gP hE rfl rfl rfl rfl fun a hE => ?_
        refine s1 hE rfl (d_pF hE rfl rfl rfl) fun a hE => ?_
        refine s1 hE rfl (d_assign hE rfl) fun a hE => ?_
        refine wpList_nil ?_
        cases hm
        have H := St.del H 0
        have H := St.del H 0
        have H := St.del H 0
        exact ⟨hE.sub ⟨rfl, trivial⟩, H⟩
    · rw [if_neg c126] at hm
      refine gP hE rfl rfl rfl (decide_eq_false c126) fun a hE => ?_
      refine gP hE rfl rfl rfl (decide_eq_false c126) fun a hE => ?_
      refine gP hE rfl rfl rfl (decide_eq_false c126) fun a hE => ?_
      refine gP hE rfl rfl rfl (decide_eq_false c126) fun a hE => ?_
      refine gP hE rfl rfl rfl (decide_eq_false c126) fun a hE => ?_
      refine gP hE rfl rfl rfl (decide_eq_false c126) fun a hE => ?_
      refine s1 hE rfl (d_pF hE rfl (decide_eq_false c126) rfl) fun a hE => ?_
      refine s1 hE rfl (d_move hE rfl) fun a hE => ?_
      refine gP hE rfl rfl rfl rfl fun a hE => ?_
      refine gP hE rfl rfl rfl rfl fun a hE => ?_
      refine gP hE rfl rfl rfl rfl fun a hE => ?_
      refine gP hE rfl rfl rfl rfl fun a hE => ?_
      refine gP hE rfl rfl rfl rfl fun a hE => ?_
      refine s1 hE rfl (d_pF hE rfl rfl rfl) fun a hE => ?_
      refine s1 hE rfl (d_move hE rfl) fun a hE => ?_
      refine gP hE rfl rfl rfl rfl fun a hE => ?_
      refine gP hE rfl rfl rfl rfl fun a hE => ?_
      refine gP hE rfl rfl rfl rfl fun a hE => ?_
      refine gP hE rfl rfl rfl rfl fun a hE => ?_
      refine gP hE rfl rfl rfl rfl fun a hE => ?_
      refine s1 hE rfl (d_pF hE rfl rfl rfl) fun a hE => ?_
      refine s1 hE rfl (d_move hE rfl) fun a hE => ?_
      refine gP hE rfl rfl rfl rfl fun a hE => ?_
      refine gP hE rfl rfl rfl rfl fun a hE => ?_
      refine gP hE rfl rfl rfl rfl fun a hE => ?_
      refine gP hE rfl rfl rfl rfl fun a hE => ?_
      refine gP hE rfl rfl rfl rfl fun a hE => ?_
      refine s1 hE rfl (d_pF hE rfl rfl rfl) fun a hE => ?_
      refine s1 hE rfl (d_assign hE rfl) fun a hE => ?_
      refine wpList_nil ?_
      cases hm
      have H := St.del H 0
      have H := St.del H 0
      exact ⟨hE.sub ⟨rfl, trivial⟩, H⟩
  · rintro a w ⟨hE, H⟩
    refine wp_ret ?_
    cases hm
    exact ret1 rfl hE rfl ⟨_, rfl, rfl, H⟩
end Go.Proofs.Ytbielnhpfbhkgaa
