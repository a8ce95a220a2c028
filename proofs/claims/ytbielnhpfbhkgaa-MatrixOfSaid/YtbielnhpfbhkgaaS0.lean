/- Functions and what their calls do, by program (gen.py). -/
import Derived.Test.YtbielnhpfbhkgaaB1
import Derived.Test.YtbielnhpfbhkgaaShelfS
set_option linter.unusedVariables false
set_option linter.unusedSimpArgs false
namespace Go.Proofs.Ytbielnhpfbhkgaa
open Go Go.RowKit
structure S_api_Spot where
  Cost : Int
  Node : Int
instance : DecidableEq S_api_Spot := fun x y => decidable_of_iff (x.Cost = y.Cost ∧ x.Node = y.Node) ⟨fun h => by cases x; cases y; simp at h; simp [h], fun h => by subst h; simp⟩
def c_api_Spot : Cod S_api_Spot := Cod.flat 2 (fun x => [(.int .u64 x.Cost), (.int .i64 x.Node)]) (fun _ => rfl) (by intro x v hv; simp at hv; rcases hv with rfl | rfl <;> rfl)
structure S_api_Route where
  To : Int
  Via : Int
  Cost : Int
instance : DecidableEq S_api_Route := fun x y => decidable_of_iff (x.To = y.To ∧ x.Via = y.Via ∧ x.Cost = y.Cost) ⟨fun h => by cases x; cases y; simp at h; simp [h], fun h => by subst h; simp⟩
def c_api_Route : Cod S_api_Route := Cod.flat 3 (fun x => [(.int .i64 x.To), (.int .i64 x.Via), (.int .u64 x.Cost)]) (fun _ => rfl) (by intro x v hv; simp at hv; rcases hv with rfl | rfl | rfl <;> rfl)
theorem fld193_0 : Fld Try.prog 193 0 0 := fun p w => by kernel_rfl
theorem sc61 : Scal Try.prog 61 := fun w => ⟨by kernel_rfl, by kernel_rfl⟩
theorem fld193_1 : Fld Try.prog 193 1 1 := fun p w => by kernel_rfl
theorem fld233_0 : Fld Try.prog 233 0 0 := fun p w => by kernel_rfl
theorem sc231 : Scal Try.prog 231 := fun w => ⟨by kernel_rfl, by kernel_rfl⟩
theorem al193 : ∀ w : World, (Instr.alloc 193 true (.tuple #[])).run Try.prog w = .ok (.pointer (some (ad w.heap.size 0))) (w.alloc (.cells (List.toArray [(.int .u64 0), (.int .i64 0)]) 193)) := fun w => by kernel_rfl
theorem c220 : Callable Try.prog 220 := ⟨Try.f220, Try.func220, by kernel_rfl, by kernel_rfl⟩
theorem bld193_   : ∀ w : World, (Instr.build 193 (List.toArray [])).run Try.prog w = .ok (.agg #[(.int .u64 0), (.int .i64 0)]) w := by
  intro w
  kernel_rfl
theorem sz193 : ∀ w : World, (sizeOf 193).run Try.prog w = .ok 2 w := fun w => by kernel_rfl
theorem sl231 : Slc Try.prog 231 193 2 := ⟨Try.underlying231, fun w => by kernel_rfl⟩
theorem ag193 : Aggr Try.prog 193 2 := fun w => ⟨by kernel_rfl, by kernel_rfl⟩
theorem c219 : Callable Try.prog 219 := ⟨Try.f219, Try.func219, by kernel_rfl, by kernel_rfl⟩
theorem lit231_1 (x0 : Int) (x1 : Int)  : ∀ w : World, (Instr.buildSlice 231 1 (List.toArray [(0, (.agg #[(.int .u64 x0), (.int .i64 x1)]))])).run Try.prog w = .ok (.slice (some (ad w.heap.size 0)) 1 1) (w.alloc (.cells (List.toArray [(.int .u64 x0), (.int .i64 x1)]) 193)) := fun w => by kernel_rfl
theorem el231 : Elt Try.prog 231 193 2 16 := ⟨Try.underlying231, by kernel_rfl, by decide⟩
theorem bld233_   : ∀ w : World, (Instr.build 233 (List.toArray [])).run Try.prog w = .ok (.agg #[(.slice none 0 0)]) w := by
  intro w
  kernel_rfl
theorem c165 : Callable Try.prog 165 := ⟨Try.f165, Try.func165, by kernel_rfl, by kernel_rfl⟩
theorem c166 : Callable Try.prog 166 := ⟨Try.f166, Try.func166, by kernel_rfl, by kernel_rfl⟩
theorem c167 : Callable Try.prog 167 := ⟨Try.f167, Try.func167, by kernel_rfl, by kernel_rfl⟩
theorem fld195_1 : Fld Try.prog 195 1 1 := fun p w => by kernel_rfl
theorem sc189 : Scal Try.prog 189 := fun w => ⟨by kernel_rfl, by kernel_rfl⟩
theorem fld96_0 : Fld Try.prog 96 0 0 := fun p w => by kernel_rfl
theorem zv96 : ∀ w : World, (zeroValue 96).run Try.prog w = .ok (.agg #[(.int .i64 0), (.int .i64 0), (.int .u64 0)]) w := fun w => by kernel_rfl
theorem al96 : ∀ w : World, (Instr.alloc 96 true (.tuple #[])).run Try.prog w = .ok (.pointer (some (ad w.heap.size 0))) (w.alloc (.cells (List.toArray [(.int .i64 0), (.int .i64 0), (.int .u64 0)]) 96)) := fun w => by kernel_rfl
theorem sz96 : ∀ w : World, (sizeOf 96).run Try.prog w = .ok 3 w := fun w => by kernel_rfl
theorem fld96_2 : Fld Try.prog 96 2 2 := fun p w => by kernel_rfl
theorem fld195_3 : Fld Try.prog 195 3 3 := fun p w => by kernel_rfl
theorem sc190 : Scal Try.prog 190 := fun w => ⟨by kernel_rfl, by kernel_rfl⟩
theorem bld193_0In_1In (x0 : Int) (x1 : Int)  : ∀ w : World, (Instr.build 193 (List.toArray [(0, (.int .u64 x0)), (1, (.int .i64 x1))])).run Try.prog w = .ok (.agg #[(.int .u64 x0), (.int .i64 x1)]) w := by
  intro w
  kernel_rfl
theorem fld96_1 : Fld Try.prog 96 1 1 := fun p w => by kernel_rfl
theorem ag96 : Aggr Try.prog 96 3 := fun w => ⟨by kernel_rfl, by kernel_rfl⟩
theorem fld195_0 : Fld Try.prog 195 0 0 := fun p w => by kernel_rfl
theorem fld195_2 : Fld Try.prog 195 2 2 := fun p w => by kernel_rfl
theorem sc158 : Scal Try.prog 158 := fun w => ⟨by kernel_rfl, by kernel_rfl⟩
theorem zv4 : ∀ w : World, (zeroValue 4).run Try.prog w = .ok (.bool false) w := fun w => by kernel_rfl
theorem cv3_61 (x : Int) : ∀ w : World, (convert 3 61 (.int .i64 x)).run Try.prog w = .ok (.int .u64 (IntKind.u64.wrap x)) w := fun w => by kernel_rfl
theorem c89 : Callable Try.prog 89 := ⟨Try.f89, Try.func89, by kernel_rfl, by kernel_rfl⟩
theorem bld96_0In_1In_2In (x0 : Int) (x1 : Int) (x2 : Int)  : ∀ w : World, (Instr.build 96 (List.toArray [(0, (.int .i64 x0)), (1, (.int .i64 x1)), (2, (.int .u64 x2))])).run Try.prog w = .ok (.agg #[(.int .i64 x0), (.int .i64 x1), (.int .u64 x2)]) w := by
  intro w
  kernel_rfl
theorem c168 : Callable Try.prog 168 := ⟨Try.f168, Try.func168, by kernel_rfl, by kernel_rfl⟩
theorem zv55 : ∀ w : World, (zeroValue 55).run Try.prog w = .ok (.slice none 0 0) w := fun w => by kernel_rfl
theorem lit55_1 (x0 : Int) (x1 : Int) (x2 : Int)  : ∀ w : World, (Instr.buildSlice 55 1 (List.toArray [(0, (.agg #[(.int .i64 x0), (.int .i64 x1), (.int .i64 x2)]))])).run Try.prog w = .ok (.slice (some (ad w.heap.size 0)) 1 1) (w.alloc (.cells (List.toArray [(.int .i64 x0), (.int .i64 x1), (.int .i64 x2)]) 60)) := fun w => by kernel_rfl
theorem el55 : Elt Try.prog 55 60 3 24 := ⟨Try.underlying55, by kernel_rfl, by decide⟩
theorem bld193_1In (x0 : Int)  : ∀ w : World, (Instr.build 193 (List.toArray [(1, (.int .i64 x0))])).run Try.prog w = .ok (.agg #[(.int .u64 0), (.int .i64 x0)]) w := by
  intro w
  kernel_rfl
theorem c122 : Callable Try.prog 122 := ⟨Try.f122, Try.func122, by kernel_rfl, by kernel_rfl⟩
theorem bld195_0In_1Ma_2Ma_3Pt (x0 : Int) (x1 : Nat) (x2 : Nat) (x3 : Nat)  : ∀ w : World, (Instr.build 195 (List.toArray [(0, (.int .i64 x0)), (1, (.map (some x1))), (2, (.map (some x2))), (3, (.pointer (some (ad x3 0))))])).run Try.prog w = .ok (.agg #[(.int .i64 x0), (.map (some x1)), (.map (some x2)), (.pointer (some (ad x3 0)))]) w := by
  intro w
  kernel_rfl
theorem c123 : Callable Try.prog 123 := ⟨Try.f123, Try.func123, by kernel_rfl, by kernel_rfl⟩
theorem c124 : Callable Try.prog 124 := ⟨Try.f124, Try.func124, by kernel_rfl, by kernel_rfl⟩
theorem c125 : Callable Try.prog 125 := ⟨Try.f125, Try.func125, by kernel_rfl, by kernel_rfl⟩
theorem k125 {b : Nat} {z w : World} {I : Hp} {r : List Asn} (H : St z I w r) : Calls Try.prog 125 #[.map (some b)] w (Rt fun v w' => ∃ q, v = .func (.func 169) #[] #[.pointer (some (ad q 0))] ∧ St z I w' (Bl q 189 [.map (some b)] :: r)) := by
  have cK : CallsIn Fence.wide 5 Try.prog 125 #[.map (some b)] w fun e w' => e = .returned (.func (.func 169) #[] #[.pointer (some ⟨w.heap.size, 0, none⟩)]) ∧ w' = w.alloc (.cells #[.map (some b)] 189) := AnyZI.keys_in Try.keys125 Fence.wide 5 trivial rfl (some b) w
  refine Calls.mono ((callsIn_wide (n := 5)).1 cK) fun e w' h => ?_
  obtain ⟨rfl, rfl⟩ := h
  exact ⟨_, rfl, _, rfl, H.alloc _⟩
theorem s75_169 {α : Type} {c : Cod α} {g : Bool} {b q : Nat} {m : List (Int × α)} {res : List Int} (hm : skeys m = some res) {z w : World} {I : Hp} {r : List Asn} (hz : z.drawn = 0) (H : St z I w r) (i : Nat) (hi : r[i]? = some (Bl q 189 [.map (some b)])) (j : Nat) (hj : r[j]? = some (MapR c g b m)) :
    Calls Try.prog 75 #[.func (.func 169) #[] #[.pointer (some (ad q 0))]] w (Rt fun v w' => St z I w' (OwnSl (cInt .i64) v res :: r)) := by
  obtain ⟨rfl, hl, hw⟩ := skeys_some hm
  obtain ⟨D0, hown, hperm, hsize⟩ := H.ownsMap (kt := 3) Try.underlying3 j hj hl hw
  have hq := H.ob i hi
  have hseq : SeqGives Fence.wide 2 Try.prog 169 #[.pointer (some ⟨q, 0, none⟩)] encZ (fun ss => ss.Perm (intKeys D0)) (Maps.size D0) w :=
    AnyZI.keys_gives (ρ := Try.keys125_ren) { Try.keys125 with } Fence.wide _ trivial rfl (by omega) q b m.length D0 (R := Rtriv) w (Array.getElem?_eq_some_iff.1 hq).1 (by simp [World.cell?, hq]) hown
  have cS := AnyZI.sorted_in Try.sorted75 Fence.wide 5 trivial trivial trivial trivial rfl (by omega) (sorts75 _) (enters_of Try.func119 (by kernel_rfl) rfl) 169 #[.pointer (some ⟨q, 0, none⟩)] trivial (enters_of Try.func169 (by kernel_rfl) rfl) _ _ (by rw [hsize]; exact Nat.le_trans hl (by decide)) (by rw [hsize]; omega) _ hseq
  change CallsIn _ _ Try.prog 75 _ _ _ at cS
  refine Calls.mono ((callsIn_wide (n := 5)).1 cS) fun e w' h => ?_
  obtain ⟨v, ss, rfl, hS, hrow, _, hb⟩ := h
  refine ⟨v, rfl, ?_⟩
  have he : (ss.mergeSort fun x y => decide (x ≤ y)) = sortZ (mkeys m) := sortZ_perm (hS.trans hperm)
  rw [he] at hrow
  exact H.newRow hb hz hrow
theorem lit91_1 (x0 : Int) (x1 : Int) (x2 : Int)  : ∀ w : World, (Instr.buildSlice 91 1 (List.toArray [(0, (.agg #[(.int .i64 x0), (.int .i64 x1), (.int .u64 x2)]))])).run Try.prog w = .ok (.slice (some (ad w.heap.size 0)) 1 1) (w.alloc (.cells (List.toArray [(.int .i64 x0), (.int .i64 x1), (.int .u64 x2)]) 96)) := fun w => by kernel_rfl
theorem el91 : Elt Try.prog 91 96 3 24 := ⟨Try.underlying91, by kernel_rfl, by decide⟩
theorem c58 : Callable Try.prog 58 := ⟨Try.f58, Try.func58, by kernel_rfl, by kernel_rfl⟩
theorem sl91 : Slc Try.prog 91 96 3 := ⟨Try.underlying91, fun w => by kernel_rfl⟩
def m219 (a0 : S_api_Spot) (a1 : S_api_Spot) : Option Bool := if a0.Cost = a1.Cost then (some (decide (a0.Node < a1.Node))) else (some (decide (a0.Cost < a1.Cost)))
set_option maxRecDepth 20000 in
set_option maxHeartbeats 4000000 in
theorem f219_ok (a0 : S_api_Spot) (a1 : S_api_Spot) {res : Bool} (hm : m219 a0 a1 = some res) {z w : World} {I : Hp} {r : List Asn}  (H : St z I w (r)) :
    Calls Try.prog 219 #[(.agg #[(.int .u64 a0.Cost), (.int .i64 a0.Node)]), (.agg #[(.int .u64 a1.Cost), (.int .i64 a1.Node)])] w (Rt fun v w' => v = (.bool res) ∧ St z I w' (r)) := by
  unfold m219 at hm
  refine enter (args := [(.agg #[(.int .u64 a0.Cost), (.int .i64 a0.Node)]), (.agg #[(.int .u64 a1.Cost), (.int .i64 a1.Node)])]) Try.func219 rfl Try.ntmps219 rfl fun a hE => ?_
  refine wp_seq ?_
  refine wp_region_lit ?_
  refine s2 hE rfl (d_box hE rfl H) fun a v w hR hE => ?_
  obtain ⟨q60, rfl, H⟩ := hR
  have H : St z I w (Bl q60 193 [(.int .u64 a0.Cost), (.int .i64 a0.Node)] :: r) := H
  refine s2 hE rfl (d_box hE rfl H) fun a v w hR hE => ?_
  obtain ⟨q61, rfl, H⟩ := hR
  have H : St z I w (Bl q61 193 [(.int .u64 a1.Cost), (.int .i64 a1.Node)] :: Bl q60 193 [(.int .u64 a0.Cost), (.int .i64 a0.Node)] :: r) := H
  refine s1 hE rfl (d_assign hE rfl) fun a hE => ?_
  refine wpList_nil ?_
  refine wp_seq ?_
  refine wp_seq ?_
  refine wp_region_lit ?_
  refine s1 hE rfl (d_fieldAddr fld193_0 hE rfl) fun a hE => ?_
  refine s1 hE rfl (d_load sc61 hE rfl H 1 rfl rfl) fun a hE => ?_
  refine s1 hE rfl (d_fieldAddr fld193_0 hE rfl) fun a hE => ?_
  refine s1 hE rfl (d_load sc61 hE rfl H 0 rfl rfl) fun a hE => ?_
  refine s1 hE rfl (d_neq hE rfl rfl) fun a hE => ?_
  refine wpList_nil ?_
  by_cases c63 : a0.Cost = a1.Cost
  · rw [if_pos c63] at hm
    refine cF hE rfl (not_f (decide_eq_true c63)) ?_
    refine wp_skip ?_
    refine wp_seq ?_
    refine wp_region_lit ?_
    refine s1 hE rfl (d_fieldAddr fld193_1 hE rfl) fun a hE => ?_
    refine s1 hE rfl (d_load sc3 hE rfl H 1 rfl rfl) fun a hE => ?_
    refine s1 hE rfl (d_fieldAddr fld193_1 hE rfl) fun a hE => ?_
    refine s1 hE rfl (d_load sc3 hE rfl H 0 rfl rfl) fun a hE => ?_
    refine s1 hE rfl (d_lss hE rfl rfl) fun a hE => ?_
    refine s1 hE rfl (d_assign hE rfl) fun a hE => ?_
    refine wpList_nil ?_
    refine wp_ret ?_
    cases hm
    have H := St.del H 0
    have H := St.del H 0
    exact ret1 rfl hE rfl ⟨_, rfl, rfl, H⟩
  · rw [if_neg c63] at hm
    refine cT hE rfl (not_t (decide_eq_false c63)) ?_
    refine wp_seq ?_
    refine wp_region_lit ?_
    refine s1 hE rfl (d_fieldAddr fld193_0 hE rfl) fun a hE => ?_
    refine s1 hE rfl (d_load sc61 hE rfl H 1 rfl rfl) fun a hE => ?_
    refine s1 hE rfl (d_fieldAddr fld193_0 hE rfl) fun a hE => ?_
    refine s1 hE rfl (d_load sc61 hE rfl H 0 rfl rfl) fun a hE => ?_
    refine s1 hE rfl (d_lss hE rfl rfl) fun a hE => ?_
    refine s1 hE rfl (d_assign hE rfl) fun a hE => ?_
    refine wpList_nil ?_
    refine wp_ret ?_
    cases hm
    have H := St.del H 0
    have H := St.del H 0
    exact ret1 rfl hE rfl ⟨_, rfl, rfl, H⟩
def m220 (a0_l : List S_api_Spot) : Option Int := some (a0_l.length : Int)
set_option maxRecDepth 20000 in
set_option maxHeartbeats 4000000 in
theorem f220_ok {q0 : Nat} {u0_l : Value} (a0_l : List S_api_Spot) {res : Int} (hm : m220 a0_l = some res) {z w : World} {I : Hp} {r : List Asn}  (H : St z I w (Bl q0 233 [u0_l] :: OwnSl c_api_Spot u0_l a0_l :: r)) :
    Calls Try.prog 220 #[(.pointer (some (ad q0 0)))] w (Rt fun v w' => v = (.int .i64 res) ∧ St z I w' (Bl q0 233 [u0_l] :: OwnSl c_api_Spot u0_l a0_l :: r)) := by
  unfold m220 at hm
  refine enter (args := [(.pointer (some (ad q0 0)))]) Try.func220 rfl Try.ntmps220 rfl fun a hE => ?_
  refine wp_seq ?_
  refine wp_region_lit ?_
  refine s1 hE rfl (d_assign hE rfl) fun a hE => ?_
  refine wpList_nil ?_
  refine wp_seq ?_
  refine wp_seq ?_
  refine wp_region_lit ?_
  refine s1 hE rfl (d_move hE rfl) fun a hE => ?_
  refine s1 hE rfl (d_eqP Try.underlying190 hE rfl rfl) fun a hE => ?_
  refine wpList_nil ?_
  refine cF hE rfl rfl ?_
  refine wp_skip ?_
  refine wp_seq ?_
  refine wp_region_lit ?_
  refine s1 hE rfl (d_move hE rfl) fun a hE => ?_
  refine s1 hE rfl (d_nilCheck hE rfl) fun a hE => ?_
  refine s1 hE rfl (d_fieldAddr fld233_0 hE rfl) fun a hE => ?_
  refine s1 hE rfl (d_load sc231 hE rfl H 0 rfl rfl) fun a hE => ?_
  refine s1 hE rfl (d_lenS Try.underlying231 hE rfl H (Rd.own 1 rfl)) fun a hE => ?_
  refine s1 hE rfl (d_assign hE rfl) fun a hE => ?_
  refine wpList_nil ?_
  refine wp_ret ?_
  cases hm
  exact ret1 rfl hE rfl ⟨_, rfl, rfl, H⟩
def m166 (a0_l : List S_api_Spot) : Option (S_api_Spot × Bool) := Option.bind (m220 a0_l) fun x69 => if x69 = 0 then (some ((⟨0, 0⟩ : S_api_Spot), false)) else (Option.bind (rdx a0_l 0) fun x75 => some (x75, true))
set_option maxRecDepth 20000 in
set_option maxHeartbeats 4000000 in
theorem f166_ok {q0 : Nat} {u0_l : Value} (a0_l : List S_api_Spot) {res : S_api_Spot × Bool} (hm : m166 a0_l = some res) {z w : World} {I : Hp} {r : List Asn}  (H : St z I w (Bl q0 233 [u0_l] :: OwnSl c_api_Spot u0_l a0_l :: r)) :
    Calls Try.prog 166 #[(.pointer (some (ad q0 0)))] w (Rt fun v w' => v = (.tuple #[(.agg #[(.int .u64 res.1.Cost), (.int .i64 res.1.Node)]), (.bool res.2)]) ∧ St z I w' (Bl q0 233 [u0_l] :: OwnSl c_api_Spot u0_l a0_l :: r)) := by
  unfold m166 at hm
  refine enter (args := [(.pointer (some (ad q0 0)))]) Try.func166 rfl Try.ntmps166 rfl fun a hE => ?_
  refine wp_seq ?_
  refine wp_region_lit ?_
  refine s2 hE rfl (d_alloc al193 H) fun a v w hR hE => ?_
  obtain ⟨q66, rfl, H⟩ := hR
  refine s1 hE rfl (d_assign hE rfl) fun a hE => ?_
  refine wpList_nil ?_
  refine wp_seq ?_
  refine wp_seq ?_
  refine wp_region_lit ?_
  refine s1 hE rfl (d_move hE rfl) fun a hE => ?_
  obtain ⟨x69, hc70, hm⟩ := bnd hm
  have H := St.get H 2 rfl
  have H := St.get H 2 rfl
  have H : St z I w (Bl q0 233 [u0_l] :: OwnSl c_api_Spot u0_l a0_l :: Bl q66 193 [(.int .u64 0), (.int .i64 0)] :: r) := H
  refine s2 hE rfl (d_call c220 hE rfl (f220_ok a0_l hc70  H)) fun a v w hR hE => ?_
  obtain ⟨hv_, H⟩ := hR
  have hv_ := hv_.symm
  subst hv_
  refine s1 hE rfl (d_eql hE rfl rfl) fun a hE => ?_
  refine wpList_nil ?_
  by_cases c72 : x69 = 0
  · rw [if_pos c72] at hm
    refine cT hE rfl (decide_eq_true c72) ?_
    refine wp_seq ?_
    refine wp_region_lit ?_
    refine s1 hE rfl (d_build hE rfl (bld193_)) fun a hE => ?_
    have H := St.get H 2 rfl
    refine s3 (d_store sz193 hE rfl rfl rfl (oneAll rfl) H rfl) fun v w hR => ?_
    have H : St z I w (Bl q66 193 [(.int .u64 0), (.int .i64 0)] :: Bl q0 233 [u0_l] :: OwnSl c_api_Spot u0_l a0_l :: r) := hR
    refine s1 hE rfl (d_assign hE rfl) fun a hE => ?_
    refine wpList_nil ?_
    refine wp_ret ?_
    have hb0 := H.ob 0 rfl
    cases hm
    have H := St.get H 2 rfl
    have H := St.get H 2 rfl
    have H := St.del H 2
    exact retCT rfl hE rfl hb0 ag193 rfl ⟨_, rfl, rfl, H⟩
  · rw [if_neg c72] at hm
    refine cF hE rfl (decide_eq_false c72) ?_
    refine wp_skip ?_
    refine wp_seq ?_
    refine wp_region_lit ?_
    refine s1 hE rfl (d_move hE rfl) fun a hE => ?_
    refine s1 hE rfl (d_nilCheck hE rfl) fun a hE => ?_
    refine s1 hE rfl (d_fieldAddr fld233_0 hE rfl) fun a hE => ?_
    refine s1 hE rfl (d_load sc231 hE rfl H 0 rfl rfl) fun a hE => ?_
    obtain ⟨x75, hx76, hm⟩ := bnd hm
    refine s1 hE rfl (d_indexS sl231 hE rfl rfl H (Rd.own 1 rfl) hx76) fun a hE => ?_
    refine s1 hE rfl (d_loadSA ag193 rfl hE rfl H (Rd.own 1 rfl) hx76 (fun _ _ e => e)) fun a hE => ?_
    have H := St.get H 2 rfl
    refine s3 (d_store sz193 hE rfl rfl rfl (oneAll rfl) H rfl) fun v w hR => ?_
    have H : St z I w (Bl q66 193 [(.int .u64 x75.Cost), (.int .i64 x75.Node)] :: Bl q0 233 [u0_l] :: OwnSl c_api_Spot u0_l a0_l :: r) := hR
    refine s1 hE rfl (d_assign hE rfl) fun a hE => ?_
    refine wpList_nil ?_
    refine wp_ret ?_
    have hb0 := H.ob 0 rfl
    cases hm
    have H := St.get H 2 rfl
    have H := St.get H 2 rfl
    have H := St.del H 2
    exact retCT rfl hE rfl hb0 ag193 rfl ⟨_, rfl, rfl, H⟩
def m167_l0 (a1 : Int) (a0_l : List S_api_Spot) : Nat → Int → Int → Option Int
  | 0, _, _ => none
  | k + 1, y208, y209 => Option.bind (α := Bool) (if y209 ≤ (IntKind.i64.wrap ((IntKind.i64.wrap (2 * a1)) + 2)) then (some (decide (y209 < (a0_l.length : Int)))) else (some false)) fun s252 => if s252 = true then (Option.bind (rdx a0_l y209) fun x278 => Option.bind (rdx a0_l y208) fun x280 => Option.bind (m219 x278 x280) fun x282 => Option.bind (α := Int) (if x282 = true then (some y209) else (some y208)) fun s286 => m167_l0 a1 a0_l k s286 (IntKind.i64.wrap (y209 + 1))) else (some y208)
def m167 (k : Nat) (a0_l : List S_api_Spot) (a1 : Int) : Option Int := Option.bind (m167_l0 a1 a0_l k a1 (IntKind.i64.wrap ((IntKind.i64.wrap (2 * a1)) + 1))) fun s249 => some s249
set_option maxRecDepth 20000 in
set_option maxHeartbeats 4000000 in
theorem f167_ok (k : Nat) {q0 : Nat} {u0_l : Value} (a0_l : List S_api_Spot) (a1 : Int) {res : Int} (hm : m167 k a0_l a1 = some res) {z w : World} {I : Hp} {r : List Asn}  (H : St z I w (Bl q0 233 [u0_l] :: OwnSl c_api_Spot u0_l a0_l :: r)) :
    Calls Try.prog 167 #[(.pointer (some (ad q0 0))), (.int .i64 a1)] w (Rt fun v w' => v = (.int .i64 res) ∧ St z I w' (Bl q0 233 [u0_l] :: OwnSl c_api_Spot u0_l a0_l :: r)) := by
  unfold m167 at hm
  refine enter (args := [(.pointer (some (ad q0 0))), (.int .i64 a1)]) Try.func167 rfl Try.ntmps167 rfl fun a hE => ?_
  refine wp_seq ?_
  refine wp_region_lit ?_
  refine s1 hE rfl (d_assign hE rfl) fun a hE => ?_
  refine wpList_nil ?_
  refine wp_seq ?_
  refine wp_region_lit ?_
  refine s1 hE rfl (d_move hE rfl) fun a hE => ?_
  refine s1 hE rfl (d_assign hE rfl) fun a hE => ?_
  refine wpList_nil ?_
  refine wp_seq ?_
  refine wp_seq ?_
  refine wp_region_lit ?_
  refine s1 hE rfl (d_move hE rfl) fun a hE => ?_
  refine s1 hE rfl (d_mul hE rfl rfl) fun a hE => ?_
  refine s1 hE rfl (d_add hE rfl rfl) fun a hE => ?_
  refine s1 hE rfl (d_assign hE rfl) fun a hE => ?_
  refine wpList_nil ?_
  obtain ⟨s249, hj249, hm⟩ := bnd hm
  refine cut2 (fun a w => Env a 44 [(5, (.int .i64 s249))] ∧ St z I w (Bl q0 233 [u0_l] :: OwnSl c_api_Spot u0_l a0_l :: r)) ?_ ?_
  · refine wp_block ?_
    refine loopI (fun k a w => ∃ y208 : Int, ∃ y209 : Int, m167_l0 a1 a0_l k y208 y209 = some s249 ∧ Env a 44 [(0, (.pointer (some (ad q0 0)))), (1, (.int .i64 a1)), (5, (.int .i64 y208)), (6, (.int .i64 y209))] ∧ St z I w (Bl q0 233 [u0_l] :: OwnSl c_api_Spot u0_l a0_l :: r)) ?_ k _ _ ?_
    · rintro k a w ⟨y208, y209, hm, hE, H⟩
      cases k with
      | zero => rw [m167_l0] at hm; cases hm
      | succ k =>
        rw [m167_l0] at hm
        refine wp_seq ?_
        refine wp_seq ?_
        obtain ⟨s252, hj252, hm⟩ := bnd hm
        refine cut2 (fun a w => Env a 44 [(0, (.pointer (some (ad q0 0)))), (1, (.int .i64 a1)), (5, (.int .i64 y208)), (6, (.int .i64 y209)), (24, (.bool s252))] ∧ St z I w (Bl q0 233 [u0_l] :: OwnSl c_api_Spot u0_l a0_l :: r)) ?_ ?_
        · have hm := hj252
          refine wp_region_lit ?_
          refine s1 hE rfl (d_move hE rfl) fun a hE => ?_
          refine s1 hE rfl (d_move hE rfl) fun a hE => ?_
          refine s1 hE rfl (d_mul hE rfl rfl) fun a hE => ?_
          refine s1 hE rfl (d_add hE rfl rfl) fun a hE => ?_
          refine s1 hE rfl (d_leq hE rfl rfl) fun a hE => ?_
          refine s1 hE rfl (d_move hE rfl) fun a hE => ?_
          by_cases c253 : y209 ≤ (IntKind.i64.wrap ((IntKind.i64.wrap (2 * a1)) + 2))
          · rw [if_pos c253] at hm
            refine gR hE rfl rfl (decide_eq_true c253) ?_
            refine s1 hE rfl (d_move hE rfl) fun a hE => ?_
            refine gR hE rfl rfl (decide_eq_true c253) ?_
            refine s1 hE rfl (d_move hE rfl) fun a hE => ?_
            refine gR hE rfl rfl (decide_eq_true c253) ?_
            refine s1 hE rfl (d_nilCheck hE rfl) fun a hE => ?_
            refine gR hE rfl rfl (decide_eq_true c253) ?_
            refine s1 hE rfl (d_fieldAddr fld233_0 hE rfl) fun a hE => ?_
            refine gR hE rfl rfl (decide_eq_true c253) ?_
            refine s1 hE rfl (d_load sc231 hE rfl H 0 rfl rfl) fun a hE => ?_
            refine gR hE rfl rfl (decide_eq_true c253) ?_
            refine s1 hE rfl (d_lenS Try.underlying231 hE rfl H (Rd.own 1 rfl)) fun a hE => ?_
            refine gR hE rfl rfl (decide_eq_true c253) ?_
            refine s1 hE rfl (d_lss hE rfl rfl) fun a hE => ?_
            refine s1 hE rfl (d_pT hE rfl (decide_eq_true c253) rfl) fun a hE => ?_
            refine wpList_nil ?_
            cases hm
            exact ⟨hE.sub ⟨rfl, rfl, rfl, rfl, rfl, trivial⟩, H⟩
          · rw [if_neg c253] at hm
            refine gP hE rfl rfl rfl (decide_eq_false c253) fun a hE => ?_
            refine gP hE rfl rfl rfl (decide_eq_false c253) fun a hE => ?_
            refine gP hE rfl rfl rfl (decide_eq_false c253) fun a hE => ?_
            refine gP hE rfl rfl rfl (decide_eq_false c253) fun a hE => ?_
            refine gP hE rfl rfl rfl (decide_eq_false c253) fun a hE => ?_
            refine gP hE rfl rfl rfl (decide_eq_false c253) fun a hE => ?_
            refine gP hE rfl rfl rfl (decide_eq_false c253) fun a hE => ?_
            refine s1 hE rfl (d_pF hE rfl (decide_eq_false c253) rfl) fun a hE => ?_
            refine wpList_nil ?_
            cases hm
            exact ⟨hE.sub ⟨rfl, rfl, rfl, rfl, rfl, trivial⟩, H⟩
        · rintro a w ⟨hE, H⟩
          by_cases c255 : s252 = true
          · rw [if_pos c255] at hm
            refine cT hE rfl c255 ?_
            refine wp_skip ?_
            refine wp_seq ?_
            refine wp_block ?_
            refine wp_seq ?_
            obtain ⟨x278, hx279, hm⟩ := bnd hm
            obtain ⟨x280, hx281, hm⟩ := bnd hm
            obtain ⟨x282, hc283, hm⟩ := bnd hm
            refine Dr.region (γ := Unit) (pre := [[], [0], [0, 1], [0, 1, 2], [], [0, 1, 2, 3, 4], [0, 1, 2, 3, 4, 5], [], [7], [7, 8], [7, 8, 9], [], [7, 8, 9, 10, 11], [7, 8, 9, 10, 11, 12], [0, 1, 2, 3, 4, 5, 6, 7, 8, 9, 10, 11, 12, 13]]) (val := [some (.pointer (some (ad q0 0))), some (.pointer (some (ad q0 0))), some (.pointer (some (ad q0 (0 + 0)))), some u0_l, some (.int .i64 y209), some (.pointer (some (ad (sb u0_l) (so u0_l + (Int.toNat y209) * c_api_Spot.n)))), some (.agg #[(.int .u64 x278.Cost), (.int .i64 x278.Node)]), some (.pointer (some (ad q0 0))), some (.pointer (some (ad q0 0))), some (.pointer (some (ad q0 (0 + 0)))), some u0_l, some (.int .i64 y208), some (.pointer (some (ad (sb u0_l) (so u0_l + (Int.toNat y208) * c_api_Spot.n)))), some (.agg #[(.int .u64 x280.Cost), (.int .i64 x280.Node)]), some (.bool x282)]) (eff := []) (mask := [[]]) (keys := [[]]) (src := [[.base 0], [.op 0], [.op 1], [.op 2], [.base 6], [.op 3, .op 4], [.op 5], [.base 0], [.op 7], [.op 8], [.op 9], [.base 5], [.op 10, .op 11], [.op 12], [.op 6, .op 13]]) (z := z) (ef := fun p g => ([[]] : List (List (Nat × Value))).getD p []) (hi := fun _ _ => I) (rs := fun p g => ([Bl q0 233 [u0_l] :: OwnSl c_api_Spot u0_l a0_l :: r] : List (List Asn)).getD p []) [(0, 0), (1, 0), (2, 0), (3, 0), (4, 0), (5, 0), (6, 0), (7, 0), (8, 0), (9, 0), (10, 0), (11, 0), (12, 0), (13, 0), (14, 0)] [] [0, 1, 2, 3, 4, 5, 6, 7, 8, 9, 10, 11, 12, 13, 14] 0 mo hE () rfl H (by kernel_rfl) (by kernel_rfl) (fun p g => by cases p <;> rfl) ?_ ?_ (by kernel_rfl) (by kernel_rfl) ?_
            · exact ⟨by intro a w g hE H; exact Dr.is H rfl (Dr.run rfl (d_move hE rfl)),
    by intro a w g hE H; exact Dr.is H rfl (Dr.run rfl (d_nilCheck hE rfl)),
    by intro a w g hE H; exact Dr.is H rfl (Dr.run rfl (d_fieldAddr fld233_0 hE rfl)),
    by intro a w g hE H; exact Dr.is H rfl (Dr.run rfl (d_load sc231 hE rfl H 0 rfl rfl)),
    by intro a w g hE H; exact Dr.is H rfl (Dr.run rfl (d_move hE rfl)),
    by intro a w g hE H; exact Dr.is H rfl (Dr.run rfl (d_indexS sl231 hE rfl rfl H (Rd.own 1 rfl) hx279)),
    by intro a w g hE H; exact Dr.is H rfl (Dr.run rfl (d_loadSA ag193 rfl hE rfl H (Rd.own 1 rfl) hx279 (fun _ _ e => e))),
    by intro a w g hE H; exact Dr.is H rfl (Dr.run rfl (d_move hE rfl)),
    by intro a w g hE H; exact Dr.is H rfl (Dr.run rfl (d_nilCheck hE rfl)),
    by intro a w g hE H; exact Dr.is H rfl (Dr.run rfl (d_fieldAddr fld233_0 hE rfl)),
    by intro a w g hE H; exact Dr.is H rfl (Dr.run rfl (d_load sc231 hE rfl H 0 rfl rfl)),
    by intro a w g hE H; exact Dr.is H rfl (Dr.run rfl (d_move hE rfl)),
    by intro a w g hE H; exact Dr.is H rfl (Dr.run rfl (d_indexS sl231 hE rfl rfl H (Rd.own 1 rfl) hx281)),
    by intro a w g hE H; exact Dr.is H rfl (Dr.run rfl (d_loadSA ag193 rfl hE rfl H (Rd.own 1 rfl) hx281 (fun _ _ e => e))),
    by intro a w g hE H; exact (Dr.run rfl (d_call c219 hE rfl (f219_ok x278 x280 hc283  H))).mono fun v w' hR => by obtain ⟨rfl, H⟩ := hR; exact ⟨rfl, H⟩,
    trivial⟩
            · trivial
            · intro a w g hE H
              have H : St z I w (Bl q0 233 [u0_l] :: OwnSl c_api_Spot u0_l a0_l :: r) := H
              obtain ⟨s286, hj286, hm⟩ := bnd hm
              refine cut2 (fun a w => Env a 44 [(0, (.pointer (some (ad q0 0)))), (1, (.int .i64 a1)), (5, (.int .i64 s286)), (6, (.int .i64 y209))] ∧ St z I w (Bl q0 233 [u0_l] :: OwnSl c_api_Spot u0_l a0_l :: r)) ?_ ?_
              · have hm := hj286
                by_cases c287 : x282 = true
                · rw [if_pos c287] at hm
                  refine cT hE rfl c287 ?_
                  refine wp_region_lit ?_
                  refine s1 hE rfl (d_move hE rfl) fun a hE => ?_
                  refine s1 hE rfl (d_assign hE rfl) fun a hE => ?_
                  refine wpList_nil ?_
                  cases hm
                  exact ⟨hE.sub ⟨rfl, rfl, rfl, rfl, trivial⟩, H⟩
                · rw [if_neg c287] at hm
                  refine cF hE rfl (b_f c287) ?_
                  refine wp_skip ?_
                  cases hm
                  exact ⟨hE.sub ⟨rfl, rfl, rfl, rfl, trivial⟩, H⟩
              · rintro a w ⟨hE, H⟩
                refine wp_region_lit ?_
                refine s1 hE rfl (d_move hE rfl) fun a hE => ?_
                refine s1 hE rfl (d_add hE rfl rfl) fun a hE => ?_
                refine s1 hE rfl (d_assign hE rfl) fun a hE => ?_
                refine wpList_nil ?_
                exact ⟨k, Nat.lt_succ_self k, s286, IntKind.i64.wrap (y209 + 1), hm, hE.sub ⟨rfl, rfl, rfl, rfl, trivial⟩, H⟩
          · rw [if_neg c255] at hm
            refine cF hE rfl (b_f c255) ?_
            refine wp_exit ?_
            cases hm
            exact ⟨hE.sub ⟨rfl, trivial⟩, H⟩
    · exact ⟨a1, IntKind.i64.wrap ((IntKind.i64.wrap (2 * a1)) + 1), hj249, hE.sub ⟨rfl, rfl, rfl, rfl, trivial⟩, H⟩
  · rintro a w ⟨hE, H⟩
    refine wp_seq ?_
    refine wp_region_lit ?_
    refine s1 hE rfl (d_move hE rfl) fun a hE => ?_
    refine s1 hE rfl (d_assign hE rfl) fun a hE => ?_
    refine wpList_nil ?_
    refine wp_ret ?_
    cases hm
    exact ret1 rfl hE rfl ⟨_, rfl, rfl, H⟩
def m165_l0  : Nat → (List S_api_Spot) → Int → Option (Out (List S_api_Spot) (List S_api_Spot))
  | 0, _, _ => none
  | k + 1, l390, y391 => if 0 < y391 then (Option.bind (rdx l390 y391) fun x518 => Option.bind (rdx l390 (IntKind.i64.wrap (Int.tdiv (IntKind.i64.wrap (y391 - 1)) 2))) fun x520 => Option.bind (m219 x518 x520) fun x522 => if x522 = true then (Option.bind (rdx l390 (IntKind.i64.wrap (Int.tdiv (IntKind.i64.wrap (y391 - 1)) 2))) fun x538 => Option.bind (rdx l390 y391) fun x540 => Option.bind (rdx l390 y391) fun x542 => Option.bind (some (l390.set (Int.toNat y391) x538)) fun l544 => Option.bind (rdx l544 (IntKind.i64.wrap (Int.tdiv (IntKind.i64.wrap (y391 - 1)) 2))) fun x546 => Option.bind (some (l544.set (Int.toNat (IntKind.i64.wrap (Int.tdiv (IntKind.i64.wrap (y391 - 1)) 2))) x540)) fun l548 => m165_l0 k l548 (IntKind.i64.wrap (Int.tdiv (IntKind.i64.wrap (y391 - 1)) 2))) else (some (.ret l390))) else (some (.go l390))
def m165 (k : Nat) (a0_l : List S_api_Spot) (a1 : S_api_Spot) : Option (List S_api_Spot) := Option.bind (appd 8796093022208 a0_l ([a1])) fun l309 => Option.bind (m165_l0  k l309 (IntKind.i64.wrap ((l309.length : Int) - 1))) fun s471 => s471.on (fun q_ => some q_) fun s471 => some s471
set_option maxRecDepth 20000 in
set_option maxHeartbeats 4000000 in
theorem f165_ok (k : Nat) {q0 : Nat} {u0_l : Value} (a0_l : List S_api_Spot) (a1 : S_api_Spot) {res : (List S_api_Spot)} (hm : m165 k a0_l a1 = some res) {z w : World} {I : Hp} {r : List Asn}  (H : St z I w (Bl q0 233 [u0_l] :: OwnSl c_api_Spot u0_l a0_l :: r)) :
    Calls Try.prog 165 #[(.pointer (some (ad q0 0))), (.agg #[(.int .u64 a1.Cost), (.int .i64 a1.Node)])] w (Rt fun v w' => ∃ v300 : Value, v = (.tuple #[]) ∧ St z I w' (Bl q0 233 [v300] :: OwnSl c_api_Spot v300 res :: r)) := by
  unfold m165 at hm
  refine enter (args := [(.pointer (some (ad q0 0))), (.agg #[(.int .u64 a1.Cost), (.int .i64 a1.Node)])]) Try.func165 rfl Try.ntmps165 rfl fun a hE => ?_
  refine wp_seq ?_
  refine wp_region_lit ?_
  refine s2 hE rfl (d_box hE rfl H) fun a v w hR hE => ?_
  obtain ⟨q303, rfl, H⟩ := hR
  have H : St z I w (Bl q303 193 [(.int .u64 a1.Cost), (.int .i64 a1.Node)] :: Bl q0 233 [u0_l] :: OwnSl c_api_Spot u0_l a0_l :: r) := H
  refine wpList_nil ?_
  refine wp_seq ?_
  refine wp_seq ?_
  refine wp_region_lit ?_
  refine s1 hE rfl (d_move hE rfl) fun a hE => ?_
  refine s1 hE rfl (d_eqP Try.underlying190 hE rfl rfl) fun a hE => ?_
  refine wpList_nil ?_
  refine cF hE rfl rfl ?_
  refine wp_skip ?_
  refine wp_seq ?_
  obtain ⟨l309, ha310, hm⟩ := bnd hm
  refine Dr.region (γ := Value × Value) (pre := [[], [], [1], [1, 2], [1, 2, 3], [], [5], [1, 2, 3, 4, 5, 6], [0, 1, 2, 3, 4, 5, 6, 7], [0, 1, 2, 3, 4, 5, 6, 7, 8], [0, 1, 2, 3, 4, 5, 6, 7, 8, 9]]) (val := [some (.pointer (some (ad q0 0))), some (.pointer (some (ad q0 0))), some (.pointer (some (ad q0 0))), some (.pointer (some (ad q0 (0 + 0)))), some u0_l, some (.agg #[(.int .u64 a1.Cost), (.int .i64 a1.Node)]), none, none, some (.pointer (some (ad q0 0))), some (.pointer (some (ad q0 (0 + 0)))), none]) (eff := [6, 7, 10]) (mask := [[], [6], [6, 7], [6, 7, 10]]) (keys := [[], [14], [15, 14], [15, 14]]) (src := [[.base 0], [.base 0], [.op 1], [.op 2], [.op 3], [.base 3], [.op 5], [.op 4], [.op 0], [.op 8], [.op 9]]) (z := z) (ef := fun p g => ([[], [(14, g.1)], [(15, g.2), (14, g.1)], [(15, g.2), (14, g.1)]] : List (List (Nat × Value))).getD p []) (hi := fun _ _ => I) (rs := fun p g => ([Bl q303 193 [(.int .u64 a1.Cost), (.int .i64 a1.Node)] :: Bl q0 233 [u0_l] :: OwnSl c_api_Spot u0_l a0_l :: r, OwnSl c_api_Spot g.1 ([a1]) :: Bl q303 193 [(.int .u64 a1.Cost), (.int .i64 a1.Node)] :: Bl q0 233 [u0_l] :: OwnSl c_api_Spot u0_l a0_l :: r, OwnSl c_api_Spot g.2 l309 :: Bl q303 193 [(.int .u64 a1.Cost), (.int .i64 a1.Node)] :: Bl q0 233 [u0_l] :: r, Bl q0 233 [g.2] :: OwnSl c_api_Spot g.2 l309 :: Bl q303 193 [(.int .u64 a1.Cost), (.int .i64 a1.Node)] :: r] : List (List Asn)).getD p []) [(0, 0), (1, 0), (2, 0), (3, 0), (4, 0), (5, 0), (0, 1), (1, 1), (2, 1), (3, 1), (4, 1), (0, 2), (8, 2), (9, 2)] [(0, 6, 1), (1, 7, 2), (2, 10, 3)] [0, 1, 2, 3, 4, 5, 8, 9] 3 mo hE (undef, undef) rfl H (by kernel_rfl) (by kernel_rfl) (fun p g => by rcases p with _ | _ | _ | _ | p <;> rfl) ?_ ?_ (by kernel_rfl) (by kernel_rfl) ?_
  · exact ⟨by intro a w g hE H; obtain ⟨v308, v311⟩ := g; exact Dr.is H rfl (Dr.run rfl (d_move hE rfl)),
    by intro a w g hE H; obtain ⟨v308, v311⟩ := g; exact Dr.is H rfl (Dr.run rfl (d_move hE rfl)),
    by intro a w g hE H; obtain ⟨v308, v311⟩ := g; exact Dr.is H rfl (Dr.run rfl (d_nilCheck hE rfl)),
    by intro a w g hE H; obtain ⟨v308, v311⟩ := g; exact Dr.is H rfl (Dr.run rfl (d_fieldAddr fld233_0 hE rfl)),
    by intro a w g hE H; obtain ⟨v308, v311⟩ := g; exact Dr.is H rfl (Dr.run rfl (d_load sc231 hE rfl H 1 rfl rfl)),
    by intro a w g hE H; obtain ⟨v308, v311⟩ := g; exact Dr.is H rfl (Dr.run rfl (d_loadA ag193 hE rfl H 0 rfl rfl)),
    by intro a w g hE H; obtain ⟨v308, v311⟩ := g; exact Dr.is H rfl (Dr.run rfl (d_move hE rfl)),
    by intro a w g hE H; obtain ⟨v308, v311⟩ := g; exact Dr.is H rfl (Dr.run rfl (d_move hE rfl)),
    by intro a w g hE H; obtain ⟨v308, v311⟩ := g; exact Dr.is H rfl (Dr.run rfl (d_nilCheck hE rfl)),
    by intro a w g hE H; obtain ⟨v308, v311⟩ := g; exact Dr.is H rfl (Dr.run rfl (d_fieldAddr fld233_0 hE rfl)),
    by intro a w g hE H; obtain ⟨v308, v311⟩ := g; exact Dr.is H rfl (Dr.run rfl (d_load sc231 hE rfl H 2 rfl rfl)),
    by intro a w g hE H; obtain ⟨v308, v311⟩ := g; exact Dr.is H rfl (Dr.run rfl (d_move hE rfl)),
    by intro a w g hE H; obtain ⟨v308, v311⟩ := g; exact Dr.is H rfl (Dr.run rfl (d_nilCheck hE rfl)),
    by intro a w g hE H; obtain ⟨v308, v311⟩ := g; exact Dr.is H rfl (Dr.run rfl (d_fieldAddr fld233_0 hE rfl)),
    trivial⟩
  · exact ⟨by intro a w g hE hF H; obtain ⟨v308, v311⟩ := g; refine (Dr.run rfl (d_lit (c := c_api_Spot) (xs := [a1]) hE rfl (lit231_1 _ _) rfl rfl (fun J h iJ s => rowsC (cs := [(.int .u64 a1.Cost), (.int .i64 a1.Node)]) rfl (rows0)) H)).mono fun v w hR => ?_; obtain ⟨v308, rfl⟩ : ∃ x, x = v := ⟨v, rfl⟩; have H : St z I w (OwnSl c_api_Spot v308 ([a1]) :: Bl q303 193 [(.int .u64 a1.Cost), (.int .i64 a1.Node)] :: Bl q0 233 [u0_l] :: OwnSl c_api_Spot u0_l a0_l :: r) := hR; exact ⟨(v308, v311), H, Dr.lkSub ⟨rfl, trivial⟩⟩,
    by intro a w g hE hF H; obtain ⟨v308, v311⟩ := g; have hE := Dr.env_both hE hF; have H := St.get H 3 rfl; have H : St z I w (OwnSl c_api_Spot u0_l a0_l :: OwnSl c_api_Spot v308 ([a1]) :: Bl q303 193 [(.int .u64 a1.Cost), (.int .i64 a1.Node)] :: Bl q0 233 [u0_l] :: r) := H; refine (Dr.run rfl (d_appendO (lim := 8796093022208) el231 (by decide) (by decide) hE rfl rfl H ha310)).mono fun v w hR => ?_; obtain ⟨v311, rfl⟩ : ∃ x, x = v := ⟨v, rfl⟩; have H : St z I w (OwnSl c_api_Spot v311 l309 :: Bl q303 193 [(.int .u64 a1.Cost), (.int .i64 a1.Node)] :: Bl q0 233 [u0_l] :: r) := hR; exact ⟨(v308, v311), H, Dr.lkSub ⟨rfl, rfl, trivial⟩⟩,
    by intro a w g hE hF H; obtain ⟨v308, v311⟩ := g; have hE := Dr.env_both hE hF; have H := St.get H 2 rfl; refine (Dr.run rfl (d_store1 sc231 hE rfl rfl (one_slice (Rd.slice H (Rd.own 1 rfl))) H rfl)).mono fun v w hR => ?_; have H : St z I w (Bl q0 233 [v311] :: OwnSl c_api_Spot v311 l309 :: Bl q303 193 [(.int .u64 a1.Cost), (.int .i64 a1.Node)] :: r) := hR; exact ⟨(v308, v311), H, Dr.lkSub ⟨rfl, rfl, trivial⟩⟩,
    trivial⟩
  · intro a w g hE H
    obtain ⟨v308, v311⟩ := g
    have H : St z I w (Bl q0 233 [v311] :: OwnSl c_api_Spot v311 l309 :: Bl q303 193 [(.int .u64 a1.Cost), (.int .i64 a1.Node)] :: r) := H
    refine wp_seq ?_
    refine wp_region_lit ?_
    refine s1 hE rfl (d_move hE rfl) fun a hE => ?_
    refine s1 hE rfl (d_nilCheck hE rfl) fun a hE => ?_
    refine s1 hE rfl (d_fieldAddr fld233_0 hE rfl) fun a hE => ?_
    refine s1 hE rfl (d_load sc231 hE rfl H 0 rfl rfl) fun a hE => ?_
    refine s1 hE rfl (d_lenS Try.underlying231 hE rfl H (Rd.own 1 rfl)) fun a hE => ?_
    refine s1 hE rfl (d_sub hE rfl rfl) fun a hE => ?_
    refine s1 hE rfl (d_assign hE rfl) fun a hE => ?_
    refine wpList_nil ?_
    obtain ⟨s471, hj471, hq471⟩ := bnd hm
    refine cut2 (fun a w => ∃ s_ : (List S_api_Spot), s471 = .go s_ ∧ Env a 72 [] ∧ St z I w (Bl q0 233 [v311] :: OwnSl c_api_Spot v311 s_ :: r)) ?_ ?_
    · refine wp_block ?_
      refine loopI (fun k a w => ∃ l390 : List S_api_Spot, ∃ y391 : Int, m165_l0  k l390 y391 = some s471 ∧ Env a 72 [(0, (.pointer (some (ad q0 0)))), (4, (.int .i64 y391))] ∧ St z I w (Bl q0 233 [v311] :: OwnSl c_api_Spot v311 l390 :: r)) ?_ k _ _ ?_
      · rintro k a w ⟨l390, y391, hm, hE, H⟩
        cases k with
        | zero => rw [m165_l0] at hm; cases hm
        | succ k =>
          rw [m165_l0] at hm
          refine wp_seq ?_
          refine wp_seq ?_
          refine wp_region_lit ?_
          refine s1 hE rfl (d_move hE rfl) fun a hE => ?_
          refine s1 hE rfl (d_gtr hE rfl rfl) fun a hE => ?_
          refine wpList_nil ?_
          by_cases c473 : 0 < y391
          · rw [if_pos c473] at hm
            refine cT hE rfl (decide_eq_true c473) ?_
            refine wp_skip ?_
            refine wp_block ?_
            refine wp_seq ?_
            refine wp_region_lit ?_
            refine s1 hE rfl (d_move hE rfl) fun a hE => ?_
            refine s1 hE rfl (d_sub hE rfl rfl) fun a hE => ?_
            refine s1 hE rfl (d_quo hE rfl rfl (by decide)) fun a hE => ?_
            refine s1 hE rfl (d_assign hE rfl) fun a hE => ?_
            refine wpList_nil ?_
            refine wp_seq ?_
            refine wp_seq ?_
            obtain ⟨x518, hx519, hm⟩ := bnd hm
            obtain ⟨x520, hx521, hm⟩ := bnd hm
            obtain ⟨x522, hc523, hm⟩ := bnd hm
            refine Dr.region (γ := Unit) (pre := [[], [0], [0, 1], [0, 1, 2], [], [0, 1, 2, 3, 4], [0, 1, 2, 3, 4, 5], [], [7], [7, 8], [7, 8, 9], [], [7, 8, 9, 10, 11], [7, 8, 9, 10, 11, 12], [0, 1, 2, 3, 4, 5, 6, 7, 8, 9, 10, 11, 12, 13], [0, 1, 2, 3, 4, 5, 6, 7, 8, 9, 10, 11, 12, 13, 14]]) (val := [some (.pointer (some (ad q0 0))), some (.pointer (some (ad q0 0))), some (.pointer (some (ad q0 (0 + 0)))), some v311, some (.int .i64 y391), some (.pointer (some (ad (sb v311) (so v311 + (Int.toNat y391) * c_api_Spot.n)))), some (.agg #[(.int .u64 x518.Cost), (.int .i64 x518.Node)]), some (.pointer (some (ad q0 0))), some (.pointer (some (ad q0 0))), some (.pointer (some (ad q0 (0 + 0)))), some v311, some (.int .i64 (IntKind.i64.wrap (Int.tdiv (IntKind.i64.wrap (y391 - 1)) 2))), some (.pointer (some (ad (sb v311) (so v311 + (Int.toNat (IntKind.i64.wrap (Int.tdiv (IntKind.i64.wrap (y391 - 1)) 2))) * c_api_Spot.n)))), some (.agg #[(.int .u64 x520.Cost), (.int .i64 x520.Node)]), some (.bool x522), some (.bool (!x522))]) (eff := []) (mask := [[]]) (keys := [[]]) (src := [[.base 0], [.op 0], [.op 1], [.op 2], [.base 4], [.op 3, .op 4], [.op 5], [.base 0], [.op 7], [.op 8], [.op 9], [.base 5], [.op 10, .op 11], [.op 12], [.op 6, .op 13], [.op 14]]) (z := z) (ef := fun p g => ([[]] : List (List (Nat × Value))).getD p []) (hi := fun _ _ => I) (rs := fun p g => ([Bl q0 233 [v311] :: OwnSl c_api_Spot v311 l390 :: r] : List (List Asn)).getD p []) [(0, 0), (1, 0), (2, 0), (3, 0), (4, 0), (5, 0), (6, 0), (7, 0), (8, 0), (9, 0), (10, 0), (11, 0), (12, 0), (13, 0), (14, 0), (15, 0)] [] [0, 1, 2, 3, 4, 5, 6, 7, 8, 9, 10, 11, 12, 13, 14, 15] 0 mo hE () rfl H (by kernel_rfl) (by kernel_rfl) (fun p g => by cases p <;> rfl) ?_ ?_ (by kernel_rfl) (by kernel_rfl) ?_
            · exact ⟨by intro a w g hE H; exact Dr.is H rfl (Dr.run rfl (d_move hE rfl)),
    by intro a w g hE H; exact Dr.is H rfl (Dr.run rfl (d_nilCheck hE rfl)),
    by intro a w g hE H; exact Dr.is H rfl (Dr.run rfl (d_fieldAddr fld233_0 hE rfl)),
    by intro a w g hE H; exact Dr.is H rfl (Dr.run rfl (d_load sc231 hE rfl H 0 rfl rfl)),
    by intro a w g hE H; exact Dr.is H rfl (Dr.run rfl (d_move hE rfl)),
    by intro a w g hE H; exact Dr.is H rfl (Dr.run rfl (d_indexS sl231 hE rfl rfl H (Rd.own 1 rfl) hx519)),
    by intro a w g hE H; exact Dr.is H rfl (Dr.run rfl (d_loadSA ag193 rfl hE rfl H (Rd.own 1 rfl) hx519 (fun _ _ e => e))),
    by intro a w g hE H; exact Dr.is H rfl (Dr.run rfl (d_move hE rfl)),
    by intro a w g hE H; exact Dr.is H rfl (Dr.run rfl (d_nilCheck hE rfl)),
    by intro a w g hE H; exact Dr.is H rfl (Dr.run rfl (d_fieldAddr fld233_0 hE rfl)),
    by intro a w g hE H; exact Dr.is H rfl (Dr.run rfl (d_load sc231 hE rfl H 0 rfl rfl)),
    by intro a w g hE H; exact Dr.is H rfl (Dr.run rfl (d_move hE rfl)),
    by intro a w g hE H; exact Dr.is H rfl (Dr.run rfl (d_indexS sl231 hE rfl rfl H (Rd.own 1 rfl) hx521)),
    by intro a w g hE H; exact Dr.is H rfl (Dr.run rfl (d_loadSA ag193 rfl hE rfl H (Rd.own 1 rfl) hx521 (fun _ _ e => e))),
    by intro a w g hE H; exact (Dr.run rfl (d_call c219 hE rfl (f219_ok x518 x520 hc523  H))).mono fun v w' hR => by obtain ⟨rfl, H⟩ := hR; exact ⟨rfl, H⟩,
    by intro a w g hE H; exact Dr.is H rfl (Dr.run rfl (d_not hE rfl)),
    trivial⟩
            · trivial
            · intro a w g hE H
              have H : St z I w (Bl q0 233 [v311] :: OwnSl c_api_Spot v311 l390 :: r) := H
              by_cases c525 : x522 = true
              · rw [if_pos c525] at hm
                refine cF hE rfl (not_f c525) ?_
                refine wp_skip ?_
                refine wp_seq ?_
                obtain ⟨x538, hx539, hm⟩ := bnd hm
                obtain ⟨x540, hx541, hm⟩ := bnd hm
                obtain ⟨x542, hx543, hm⟩ := bnd hm
                obtain ⟨l544, hl545, hm⟩ := bnd hm
                obtain ⟨x546, hx547, hm⟩ := bnd hm
                obtain ⟨l548, hl549, hm⟩ := bnd hm
                refine Dr.region (γ := Unit) (pre := [[], [0], [0, 1], [0, 1, 2], [], [], [5], [5, 6], [5, 6, 7], [], [], [10], [10, 11], [10, 11, 12], [], [10, 11, 12, 13, 14], [10, 11, 12, 13, 14, 15], [], [17], [17, 18], [17, 18, 19], [], [17, 18, 19, 20, 21], [17, 18, 19, 20, 21, 22], [0, 1, 2, 3, 4, 5, 6, 7, 8, 10, 11, 12, 13, 14, 15, 16, 17, 18, 19, 20, 21, 22, 23], [0, 1, 2, 3, 4, 5, 6, 7, 8, 10, 11, 12, 13, 14, 15, 16, 17, 18, 19, 20, 21, 22, 23, 24], [0, 1, 2, 3, 4, 5, 6, 7, 8, 9, 10, 11, 12, 13, 14, 15, 16, 17, 18, 19, 20, 21, 22, 23, 24, 25], [0, 1, 2, 3, 4, 5, 6, 7, 8, 9, 10, 11, 12, 13, 14, 15, 16, 17, 18, 19, 20, 21, 22, 23, 24, 25, 26]]) (val := [some (.pointer (some (ad q0 0))), some (.pointer (some (ad q0 0))), some (.pointer (some (ad q0 (0 + 0)))), some v311, some (.int .i64 y391), some (.pointer (some (ad q0 0))), some (.pointer (some (ad q0 0))), some (.pointer (some (ad q0 (0 + 0)))), some v311, some (.int .i64 (IntKind.i64.wrap (Int.tdiv (IntKind.i64.wrap (y391 - 1)) 2))), some (.pointer (some (ad q0 0))), some (.pointer (some (ad q0 0))), some (.pointer (some (ad q0 (0 + 0)))), some v311, some (.int .i64 (IntKind.i64.wrap (Int.tdiv (IntKind.i64.wrap (y391 - 1)) 2))), some (.pointer (some (ad (sb v311) (so v311 + (Int.toNat (IntKind.i64.wrap (Int.tdiv (IntKind.i64.wrap (y391 - 1)) 2))) * c_api_Spot.n)))), some (.agg #[(.int .u64 x538.Cost), (.int .i64 x538.Node)]), some (.pointer (some (ad q0 0))), some (.pointer (some (ad q0 0))), some (.pointer (some (ad q0 (0 + 0)))), some v311, some (.int .i64 y391), some (.pointer (some (ad (sb v311) (so v311 + (Int.toNat y391) * c_api_Spot.n)))), some (.agg #[(.int .u64 x540.Cost), (.int .i64 x540.Node)]), some (.pointer (some (ad (sb v311) (so v311 + (Int.toNat y391) * c_api_Spot.n)))), none, some (.pointer (some (ad (sb v311) (so v311 + (Int.toNat (IntKind.i64.wrap (Int.tdiv (IntKind.i64.wrap (y391 - 1)) 2))) * c_api_Spot.n)))), none]) (eff := [25, 27]) (mask := [[], [25], [25, 27]]) (keys := [[], [], []]) (src := [[.base 0], [.op 0], [.op 1], [.op 2], [.base 4], [.base 0], [.op 5], [.op 6], [.op 7], [.base 5], [.base 0], [.op 10], [.op 11], [.op 12], [.base 5], [.op 13, .op 14], [.op 15], [.base 0], [.op 17], [.op 18], [.op 19], [.base 4], [.op 20, .op 21], [.op 22], [.op 3, .op 4], [.op 16, .op 24], [.op 8, .op 9], [.op 23, .op 26]]) (z := z) (ef := fun p g => ([[], [], []] : List (List (Nat × Value))).getD p []) (hi := fun _ _ => I) (rs := fun p g => ([Bl q0 233 [v311] :: OwnSl c_api_Spot v311 l390 :: r, OwnSl c_api_Spot v311 l544 :: Bl q0 233 [v311] :: r, OwnSl c_api_Spot v311 l548 :: Bl q0 233 [v311] :: r] : List (List Asn)).getD p []) [(0, 0), (1, 0), (2, 0), (3, 0), (4, 0), (5, 0), (6, 0), (7, 0), (8, 0), (9, 0), (10, 0), (11, 0), (12, 0), (13, 0), (14, 0), (15, 0), (16, 0), (17, 0), (18, 0), (19, 0), (20, 0), (21, 0), (22, 0), (23, 0), (24, 0), (9, 1), (26, 1)] [(0, 25, 1), (1, 27, 2)] [0, 1, 2, 3, 4, 5, 6, 7, 8, 9, 10, 11, 12, 13, 14, 15, 16, 17, 18, 19, 20, 21, 22, 23, 24, 26] 2 mo hE () rfl H (by kernel_rfl) (by kernel_rfl) (fun p g => by rcases p with _ | _ | _ | p <;> rfl) ?_ ?_ (by kernel_rfl) (by kernel_rfl) ?_
                · exact ⟨by intro a w g hE H; exact Dr.is H rfl (Dr.run rfl (d_move hE rfl)),
    by intro a w g hE H; exact Dr.is H rfl (Dr.run rfl (d_nilCheck hE rfl)),
    by intro a w g hE H; exact Dr.is H rfl (Dr.run rfl (d_fieldAddr fld233_0 hE rfl)),
    by intro a w g hE H; exact Dr.is H rfl (Dr.run rfl (d_load sc231 hE rfl H 0 rfl rfl)),
    by intro a w g hE H; exact Dr.is H rfl (Dr.run rfl (d_move hE rfl)),
    by intro a w g hE H; exact Dr.is H rfl (Dr.run rfl (d_move hE rfl)),
    by intro a w g hE H; exact Dr.is H rfl (Dr.run rfl (d_nilCheck hE rfl)),
    by intro a w g hE H; exact Dr.is H rfl (Dr.run rfl (d_fieldAddr fld233_0 hE rfl)),
    by intro a w g hE H; exact Dr.is H rfl (Dr.run rfl (d_load sc231 hE rfl H 0 rfl rfl)),
    by intro a w g hE H; exact Dr.is H rfl (Dr.run rfl (d_move hE rfl)),
    by intro a w g hE H; exact Dr.is H rfl (Dr.run rfl (d_move hE rfl)),
    by intro a w g hE H; exact Dr.is H rfl (Dr.run rfl (d_nilCheck hE rfl)),
    by intro a w g hE H; exact Dr.is H rfl (Dr.run rfl (d_fieldAddr fld233_0 hE rfl)),
    by intro a w g hE H; exact Dr.is H rfl (Dr.run rfl (d_load sc231 hE rfl H 0 rfl rfl)),
    by intro a w g hE H; exact Dr.is H rfl (Dr.run rfl (d_move hE rfl)),
    by intro a w g hE H; exact Dr.is H rfl (Dr.run rfl (d_indexS sl231 hE rfl rfl H (Rd.own 1 rfl) hx539)),
    by intro a w g hE H; exact Dr.is H rfl (Dr.run rfl (d_loadSA ag193 rfl hE rfl H (Rd.own 1 rfl) hx539 (fun _ _ e => e))),
    by intro a w g hE H; exact Dr.is H rfl (Dr.run rfl (d_move hE rfl)),
    by intro a w g hE H; exact Dr.is H rfl (Dr.run rfl (d_nilCheck hE rfl)),
    by intro a w g hE H; exact Dr.is H rfl (Dr.run rfl (d_fieldAddr fld233_0 hE rfl)),
    by intro a w g hE H; exact Dr.is H rfl (Dr.run rfl (d_load sc231 hE rfl H 0 rfl rfl)),
    by intro a w g hE H; exact Dr.is H rfl (Dr.run rfl (d_move hE rfl)),
    by intro a w g hE H; exact Dr.is H rfl (Dr.run rfl (d_indexS sl231 hE rfl rfl H (Rd.own 1 rfl) hx541)),
    by intro a w g hE H; exact Dr.is H rfl (Dr.run rfl (d_loadSA ag193 rfl hE rfl H (Rd.own 1 rfl) hx541 (fun _ _ e => e))),
    by intro a w g hE H; exact Dr.is H rfl (Dr.run rfl (d_indexS sl231 hE rfl rfl H (Rd.own 1 rfl) hx543)),
    by intro a w g hE H; exact Dr.is H rfl (Dr.run rfl (d_move hE rfl)),
    by intro a w g hE H; exact Dr.is H rfl (Dr.run rfl (d_indexS sl231 hE rfl rfl H (Rd.own 0 rfl) hx547)),
    trivial⟩
                · exact ⟨by intro a w g hE hF H; have H := St.get H 1 rfl; refine (Dr.run rfl (b_storeS (e' := x538) (c := c_api_Spot) sz193 hE rfl rfl rfl (oneAll rfl) rfl hx543 (fun _ _ _ _ => by rfl) hl545 H)).mono fun v w hR => ?_; have H : St z I w (OwnSl c_api_Spot v311 l544 :: Bl q0 233 [v311] :: r) := hR; exact ⟨(), H, Dr.lkSub trivial⟩,
    by intro a w g hE hF H; refine (Dr.run rfl (b_storeS (e' := x540) (c := c_api_Spot) sz193 hE rfl rfl rfl (oneAll rfl) rfl hx547 (fun _ _ _ _ => by rfl) hl549 H)).mono fun v w hR => ?_; have H : St z I w (OwnSl c_api_Spot v311 l548 :: Bl q0 233 [v311] :: r) := hR; exact ⟨(), H, Dr.lkSub trivial⟩,
    trivial⟩
                · intro a w g hE H
                  have H : St z I w (OwnSl c_api_Spot v311 l548 :: Bl q0 233 [v311] :: r) := H
                  refine wp_region_lit ?_
                  refine s1 hE rfl (d_move hE rfl) fun a hE => ?_
                  refine s1 hE rfl (d_assign hE rfl) fun a hE => ?_
                  refine wpList_nil ?_
                  have H := St.get H 1 rfl
                  exact ⟨k, Nat.lt_succ_self k, l548, IntKind.i64.wrap (Int.tdiv (IntKind.i64.wrap (y391 - 1)) 2), hm, hE.sub ⟨rfl, rfl, trivial⟩, H⟩
              · rw [if_neg c525] at hm
                refine cT hE rfl (not_t (b_f c525)) ?_
                refine wp_ret ?_
                cases hm
                have hm := hq471
                simp only [Out.on] at hm
                cases hm
                exact ret0 rfl hE  ⟨_, rfl, v311, rfl, H⟩
          · rw [if_neg c473] at hm
            refine cF hE rfl (decide_eq_false c473) ?_
            refine wp_exit ?_
            cases hm
            exact ⟨_, rfl, hE.sub trivial, H⟩
      · have H := St.del H 2
        exact ⟨l309, IntKind.i64.wrap ((l309.length : Int) - 1), hj471, hE.sub ⟨rfl, rfl, trivial⟩, H⟩
    · rintro a w ⟨s471, rfl, hE, H⟩
      have hm := hq471
      simp only [Out.on] at hm
      cases hm
      exact end0 rfl hE  ⟨_, rfl, v311, rfl, H⟩
def m122_l0 (a0 : List S_api_Spot) : Nat → (List S_api_Spot) → Int → Option (List S_api_Spot)
  | 0, _, _ => none
  | k + 1, l169, y170 => if y170 < (a0.length : Int) then (Option.bind (rdx a0 y170) fun x217 => Option.bind (m165 k l169 x217) fun x223 => m122_l0 a0 k x223 (IntKind.i64.wrap (y170 + 1))) else (some l169)
def m122 (k : Nat) (a0 : List S_api_Spot) : Option (List S_api_Spot) := Option.bind (m122_l0 a0 k [] 0) fun s199 => some s199
set_option maxRecDepth 20000 in
set_option maxHeartbeats 4000000 in
theorem f122_ok (k : Nat) {u0 : Value} (a0 : List S_api_Spot) {res : (List S_api_Spot)} (hm : m122 k a0 = some res) {z w : World} {I : Hp} {r : List Asn} (hr0 : Rd c_api_Spot I r u0 a0) (H : St z I w (r)) :
    Calls Try.prog 122 #[u0] w (Rt fun v w' => ∃ q137 : Nat, ∃ v138 : Value, v = (.pointer (some (ad q137 0))) ∧ St z I w' (Bl q137 233 [v138] :: OwnSl c_api_Spot v138 res :: r)) := by
  unfold m122 at hm
  refine enter (args := [u0]) Try.func122 rfl Try.ntmps122 rfl fun a hE => ?_
  refine wp_seq ?_
  refine wp_region_lit ?_
  refine s1 hE rfl (d_assign hE rfl) fun a hE => ?_
  refine wpList_nil ?_
  refine wp_seq ?_
  refine wp_region_lit ?_
  refine s1 hE rfl (d_build hE rfl (bld233_)) fun a hE => ?_
  refine s2 hE rfl (d_box hE rfl H) fun a v w hR hE => ?_
  obtain ⟨q141, rfl, H⟩ := hR
  have H : St z I w (Bl q141 233 [(.slice none 0 0)] :: r) := H
  refine s1 hE rfl (d_assign hE rfl) fun a hE => ?_
  refine wpList_nil ?_
  refine wp_seq ?_
  refine wp_seq ?_
  refine wp_region_lit ?_
  refine s1 hE rfl (d_move hE rfl) fun a hE => ?_
  refine s1 hE rfl (d_lenS Try.underlying231 hE rfl H (Rd.cons hr0)) fun a hE => ?_
  refine s1 hE rfl (d_move hE rfl) fun a hE => ?_
  refine wpList_nil ?_
  obtain ⟨s199, hj199, hm⟩ := bnd hm
  refine cut2 (fun a w => ∃ v197 : Value, Env a 19 [(3, (.pointer (some (ad q141 0))))] ∧ St z I w (Bl q141 233 [v197] :: OwnSl c_api_Spot v197 s199 :: r)) ?_ ?_
  · refine wp_block ?_
    refine loopI (fun k a w => ∃ l169 : List S_api_Spot, ∃ y170 : Int, m122_l0 a0 k l169 y170 = some s199 ∧ ∃ v168 : Value, Env a 19 [(3, (.pointer (some (ad q141 0)))), (8, u0), (9, (.int .i64 (a0.length : Int))), (10, (.int .i64 y170))] ∧ St z I w (Bl q141 233 [v168] :: OwnSl c_api_Spot v168 l169 :: r)) ?_ k _ _ ?_
    · rintro k a w ⟨l169, y170, hm, v168, hE, H⟩
      cases k with
      | zero => rw [m122_l0] at hm; cases hm
      | succ k =>
        rw [m122_l0] at hm
        refine wp_seq ?_
        refine wp_region_lit ?_
        refine s1 hE rfl (d_lss hE rfl rfl) fun a hE => ?_
        refine wpList_nil ?_
        refine wp_seq ?_
        by_cases c201 : y170 < (a0.length : Int)
        · rw [if_pos c201] at hm
          refine cT hE rfl (decide_eq_true c201) ?_
          refine wp_skip ?_
          refine wp_seq ?_
          refine wp_block ?_
          refine wp_seq ?_
          refine wp_region_lit ?_
          obtain ⟨x217, hx218, hm⟩ := bnd hm
          refine s1 hE rfl (d_indexS sl231 hE rfl rfl H (Rd.cons (Rd.cons hr0)) hx218) fun a hE => ?_
          refine s1 hE rfl (d_loadSA ag193 rfl hE rfl H (Rd.cons (Rd.cons hr0)) hx218 (fun _ _ e => e)) fun a hE => ?_
          refine s2 hE rfl (d_alloc al193 H) fun a v w hR hE => ?_
          obtain ⟨q219, rfl, H⟩ := hR
          refine s3 (d_store sz193 hE rfl rfl rfl (oneAll rfl) H rfl) fun v w hR => ?_
          have H : St z I w (Bl q219 193 [(.int .u64 x217.Cost), (.int .i64 x217.Node)] :: Bl q141 233 [v168] :: OwnSl c_api_Spot v168 l169 :: r) := hR
          refine wpList_nil ?_
          refine wp_region_lit ?_
          refine s1 hE rfl (d_move hE rfl) fun a hE => ?_
          refine s1 hE rfl (d_loadA ag193 hE rfl H 0 rfl rfl) fun a hE => ?_
          obtain ⟨x223, hc224, hm⟩ := bnd hm
          have H := St.get H 2 rfl
          have H := St.get H 2 rfl
          have H : St z I w (Bl q141 233 [v168] :: OwnSl c_api_Spot v168 l169 :: Bl q219 193 [(.int .u64 x217.Cost), (.int .i64 x217.Node)] :: r) := H
          refine s2 hE rfl (d_call c165 hE rfl (f165_ok k l169 x217 hc224  H)) fun a v w hR hE => ?_
          obtain ⟨v225, hv_, H⟩ := hR
          have hv_ := hv_.symm
          subst hv_
          refine wpList_nil ?_
          refine wp_region_lit ?_
          refine s1 hE rfl (d_add hE rfl rfl) fun a hE => ?_
          refine s1 hE rfl (d_move hE rfl) fun a hE => ?_
          refine wpList_nil ?_
          have H := St.del H 2
          exact ⟨k, Nat.lt_succ_self k, x223, IntKind.i64.wrap (y170 + 1), hm, v225, hE.sub ⟨rfl, rfl, rfl, rfl, trivial⟩, H⟩
        · rw [if_neg c201] at hm
          refine cF hE rfl (decide_eq_false c201) ?_
          refine wp_exit ?_
          cases hm
          exact ⟨v168, hE.sub ⟨rfl, trivial⟩, H⟩
    · have H := St.nil (c := c_api_Spot) H none
      have H := St.get H 1 rfl
      exact ⟨[], 0, hj199, (.slice none 0 0), hE.sub ⟨rfl, rfl, rfl, rfl, trivial⟩, H⟩
  · rintro a w ⟨v197, hE, H⟩
    refine wp_seq ?_
    refine wp_region_lit ?_
    refine s1 hE rfl (d_move hE rfl) fun a hE => ?_
    refine s1 hE rfl (d_assign hE rfl) fun a hE => ?_
    refine wpList_nil ?_
    refine wp_ret ?_
    cases hm
    exact ret1 rfl hE rfl ⟨_, rfl, q141, v197, rfl, H⟩
def m123_l0 (x271 : S_api_Spot × Bool) : Nat → (List S_api_Spot) → Int → Option (Out (S_api_Spot × Bool × (List S_api_Spot)) Unit)
  | 0, _, _ => none
  | k + 1, l352, y353 => Option.bind (m167 k l352 y353) fun x447 => if x447 = y353 then (some (.ret (x271.1, true, l352))) else (Option.bind (rdx l352 x447) fun x463 => Option.bind (rdx l352 y353) fun x465 => Option.bind (rdx l352 y353) fun x467 => Option.bind (some (l352.set (Int.toNat y353) x463)) fun l469 => Option.bind (rdx l469 x447) fun x471 => Option.bind (some (l469.set (Int.toNat x447) x465)) fun l473 => m123_l0 x271 k l473 x447)
def m123 (k : Nat) (a0_l : List S_api_Spot) : Option (S_api_Spot × Bool × (List S_api_Spot)) := Option.bind (m166 a0_l) fun x271 => if x271.2 = true then (Option.bind (rdx a0_l (IntKind.i64.wrap ((a0_l.length : Int) - 1))) fun x282 => Option.bind (rdx a0_l 0) fun x284 => Option.bind (some (a0_l.set (Int.toNat 0) x282)) fun l286 => Option.bind (cutx l286 0 (IntKind.i64.wrap ((a0_l.length : Int) - 1))) fun l290 => Option.bind (m123_l0 x271 k l290 0) fun s414 => s414.on (fun q_ => some q_) fun s414 => none) else (some ((⟨0, 0⟩ : S_api_Spot), false, a0_l))
set_option maxRecDepth 20000 in
set_option maxHeartbeats 4000000 in
theorem f123_ok (k : Nat) {q0 : Nat} {u0_l : Value} (a0_l : List S_api_Spot) {res : S_api_Spot × Bool × (List S_api_Spot)} (hm : m123 k a0_l = some res) {z w : World} {I : Hp} {r : List Asn}  (H : St z I w (Bl q0 233 [u0_l] :: OwnSl c_api_Spot u0_l a0_l :: r)) :
    Calls Try.prog 123 #[(.pointer (some (ad q0 0)))] w (Rt fun v w' => ∃ v262 : Value, v = (.tuple #[(.agg #[(.int .u64 res.1.Cost), (.int .i64 res.1.Node)]), (.bool res.2.1)]) ∧ St z I w' (Bl q0 233 [v262] :: OwnSl c_api_Spot v262 res.2.2 :: r)) := by
  unfold m123 at hm
  refine enter (args := [(.pointer (some (ad q0 0)))]) Try.func123 rfl Try.ntmps123 rfl fun a hE => ?_
  refine wp_seq ?_
  refine wp_region_lit ?_
  refine s2 hE rfl (d_alloc al193 H) fun a v w hR hE => ?_
  obtain ⟨q267, rfl, H⟩ := hR
  refine s1 hE rfl (d_assign hE rfl) fun a hE => ?_
  refine wpList_nil ?_
  refine wp_seq ?_
  refine wp_region_lit ?_
  refine s1 hE rfl (d_move hE rfl) fun a hE => ?_
  obtain ⟨x271, hc272, hm⟩ := bnd hm
  have H := St.get H 2 rfl
  have H := St.get H 2 rfl
  have H : St z I w (Bl q0 233 [u0_l] :: OwnSl c_api_Spot u0_l a0_l :: Bl q267 193 [(.int .u64 0), (.int .i64 0)] :: r) := H
  refine s2 hE rfl (d_call c166 hE rfl (f166_ok a0_l hc272  H)) fun a v w hR hE => ?_
  obtain ⟨hv_, H⟩ := hR
  have hv_ := hv_.symm
  subst hv_
  refine s1 hE rfl (d_move hE rfl) fun a hE => ?_
  refine s1 hE rfl (d_extract hE rfl rfl) fun a hE => ?_
  refine s1 hE rfl (d_extract hE rfl rfl) fun a hE => ?_
  refine s2 hE rfl (d_alloc al193 H) fun a v w hR hE => ?_
  obtain ⟨q273, rfl, H⟩ := hR
  refine s3 (d_store sz193 hE rfl rfl rfl (oneAll rfl) H rfl) fun v w hR => ?_
  have H : St z I w (Bl q273 193 [(.int .u64 x271.1.Cost), (.int .i64 x271.1.Node)] :: Bl q0 233 [u0_l] :: OwnSl c_api_Spot u0_l a0_l :: Bl q267 193 [(.int .u64 0), (.int .i64 0)] :: r) := hR
  refine s1 hE rfl (d_assign hE rfl) fun a hE => ?_
  refine wpList_nil ?_
  refine wp_seq ?_
  refine wp_seq ?_
  refine wp_region_lit ?_
  refine s1 hE rfl (d_move hE rfl) fun a hE => ?_
  refine s1 hE rfl (d_not hE rfl) fun a hE => ?_
  refine wpList_nil ?_
  by_cases c275 : x271.2 = true
  · rw [if_pos c275] at hm
    refine cF hE rfl (not_f c275) ?_
    refine wp_skip ?_
    refine wp_seq ?_
    refine wp_region_lit ?_
    refine s1 hE rfl (d_move hE rfl) fun a hE => ?_
    refine s1 hE rfl (d_nilCheck hE rfl) fun a hE => ?_
    refine s1 hE rfl (d_fieldAddr fld233_0 hE rfl) fun a hE => ?_
    refine s1 hE rfl (d_load sc231 hE rfl H 1 rfl rfl) fun a hE => ?_
    refine s1 hE rfl (d_lenS Try.underlying231 hE rfl H (Rd.own 2 rfl)) fun a hE => ?_
    refine s1 hE rfl (d_sub hE rfl rfl) fun a hE => ?_
    refine s1 hE rfl (d_assign hE rfl) fun a hE => ?_
    refine wpList_nil ?_
    refine wp_seq ?_
    obtain ⟨x282, hx283, hm⟩ := bnd hm
    obtain ⟨x284, hx285, hm⟩ := bnd hm
    obtain ⟨l286, hl287, hm⟩ := bnd hm
    refine Dr.region (γ := Unit) (pre := [[], [0], [0, 1], [0, 1, 2], [], [4], [4, 5], [4, 5, 6], [], [4, 5, 6, 7, 8], [4, 5, 6, 7, 8, 9], [0, 1, 2, 3, 4, 5, 6, 7, 8, 9, 10], [0, 1, 2, 3, 4, 5, 6, 7, 8, 9, 10, 11]]) (val := [some (.pointer (some (ad q0 0))), some (.pointer (some (ad q0 0))), some (.pointer (some (ad q0 (0 + 0)))), some u0_l, some (.pointer (some (ad q0 0))), some (.pointer (some (ad q0 0))), some (.pointer (some (ad q0 (0 + 0)))), some u0_l, some (.int .i64 (IntKind.i64.wrap ((a0_l.length : Int) - 1))), some (.pointer (some (ad (sb u0_l) (so u0_l + (Int.toNat (IntKind.i64.wrap ((a0_l.length : Int) - 1))) * c_api_Spot.n)))), some (.agg #[(.int .u64 x282.Cost), (.int .i64 x282.Node)]), some (.pointer (some (ad (sb u0_l) (so u0_l + (Int.toNat 0) * c_api_Spot.n)))), none]) (eff := [12]) (mask := [[], [12]]) (keys := [[], []]) (src := [[.base 0], [.op 0], [.op 1], [.op 2], [.base 0], [.op 4], [.op 5], [.op 6], [.base 6], [.op 7, .op 8], [.op 9], [.op 3], [.op 10, .op 11]]) (z := z) (ef := fun p g => ([[], []] : List (List (Nat × Value))).getD p []) (hi := fun _ _ => I) (rs := fun p g => ([Bl q273 193 [(.int .u64 x271.1.Cost), (.int .i64 x271.1.Node)] :: Bl q0 233 [u0_l] :: OwnSl c_api_Spot u0_l a0_l :: Bl q267 193 [(.int .u64 0), (.int .i64 0)] :: r, OwnSl c_api_Spot u0_l l286 :: Bl q273 193 [(.int .u64 x271.1.Cost), (.int .i64 x271.1.Node)] :: Bl q0 233 [u0_l] :: Bl q267 193 [(.int .u64 0), (.int .i64 0)] :: r] : List (List Asn)).getD p []) [(0, 0), (1, 0), (2, 0), (3, 0), (4, 0), (5, 0), (6, 0), (7, 0), (8, 0), (9, 0), (10, 0), (11, 0)] [(0, 12, 1)] [0, 1, 2, 3, 4, 5, 6, 7, 8, 9, 10, 11] 1 mo hE () rfl H (by kernel_rfl) (by kernel_rfl) (fun p g => by rcases p with _ | _ | p <;> rfl) ?_ ?_ (by kernel_rfl) (by kernel_rfl) ?_
    · exact ⟨by intro a w g hE H; exact Dr.is H rfl (Dr.run rfl (d_move hE rfl)),
    by intro a w g hE H; exact Dr.is H rfl (Dr.run rfl (d_nilCheck hE rfl)),
    by intro a w g hE H; exact Dr.is H rfl (Dr.run rfl (d_fieldAddr fld233_0 hE rfl)),
    by intro a w g hE H; exact Dr.is H rfl (Dr.run rfl (d_load sc231 hE rfl H 1 rfl rfl)),
    by intro a w g hE H; exact Dr.is H rfl (Dr.run rfl (d_move hE rfl)),
    by intro a w g hE H; exact Dr.is H rfl (Dr.run rfl (d_nilCheck hE rfl)),
    by intro a w g hE H; exact Dr.is H rfl (Dr.run rfl (d_fieldAddr fld233_0 hE rfl)),
    by intro a w g hE H; exact Dr.is H rfl (Dr.run rfl (d_load sc231 hE rfl H 1 rfl rfl)),
    by intro a w g hE H; exact Dr.is H rfl (Dr.run rfl (d_move hE rfl)),
    by intro a w g hE H; exact Dr.is H rfl (Dr.run rfl (d_indexS sl231 hE rfl rfl H (Rd.own 2 rfl) hx283)),
    by intro a w g hE H; exact Dr.is H rfl (Dr.run rfl (d_loadSA ag193 rfl hE rfl H (Rd.own 2 rfl) hx283 (fun _ _ e => e))),
    by intro a w g hE H; exact Dr.is H rfl (Dr.run rfl (d_indexS sl231 hE rfl rfl H (Rd.own 2 rfl) hx285)),
    trivial⟩
    · exact ⟨by intro a w g hE hF H; have H := St.get H 2 rfl; refine (Dr.run rfl (b_storeS (e' := x282) (c := c_api_Spot) sz193 hE rfl rfl rfl (oneAll rfl) rfl hx285 (fun _ _ _ _ => by rfl) hl287 H)).mono fun v w hR => ?_; have H : St z I w (OwnSl c_api_Spot u0_l l286 :: Bl q273 193 [(.int .u64 x271.1.Cost), (.int .i64 x271.1.Node)] :: Bl q0 233 [u0_l] :: Bl q267 193 [(.int .u64 0), (.int .i64 0)] :: r) := hR; exact ⟨(), H, Dr.lkSub trivial⟩,
    trivial⟩
    · intro a w g hE H
      have H : St z I w (OwnSl c_api_Spot u0_l l286 :: Bl q273 193 [(.int .u64 x271.1.Cost), (.int .i64 x271.1.Node)] :: Bl q0 233 [u0_l] :: Bl q267 193 [(.int .u64 0), (.int .i64 0)] :: r) := H
      refine wp_seq ?_
      refine wp_region_lit ?_
      refine s1 hE rfl (d_move hE rfl) fun a hE => ?_
      refine s1 hE rfl (d_move hE rfl) fun a hE => ?_
      refine s1 hE rfl (d_nilCheck hE rfl) fun a hE => ?_
      refine s1 hE rfl (d_fieldAddr fld233_0 hE rfl) fun a hE => ?_
      refine s1 hE rfl (d_load sc231 hE rfl H 2 rfl rfl) fun a hE => ?_
      refine s1 hE rfl (d_move hE rfl) fun a hE => ?_
      obtain ⟨l290, hl291, hm⟩ := bnd hm
      refine s1 hE rfl (d_sliceR (c := c_api_Spot) (lo := 0) (hi := IntKind.i64.wrap ((a0_l.length : Int) - 1)) sl231 hE rfl (.inr ⟨rfl, rfl⟩) (.inl ⟨_, rfl, rfl⟩) hl291 H (Rd.own 0 rfl)) fun a hE => ?_
      refine s1 hE rfl (d_nilCheck hE rfl) fun a hE => ?_
      refine s1 hE rfl (d_fieldAddr fld233_0 hE rfl) fun a hE => ?_
      have H := St.get H 2 rfl
      refine s3 (d_store1 sc231 hE rfl rfl (one_slice (Rd.slice H (Rd.cut hl291 (Rd.own 1 rfl)))) H rfl) fun v w hR => ?_
      have H : St z I w (Bl q0 233 [(slv 2 u0_l 0 (IntKind.i64.wrap ((a0_l.length : Int) - 1)))] :: OwnSl c_api_Spot u0_l l286 :: Bl q273 193 [(.int .u64 x271.1.Cost), (.int .i64 x271.1.Node)] :: Bl q267 193 [(.int .u64 0), (.int .i64 0)] :: r) := hR
      refine wpList_nil ?_
      refine wp_seq ?_
      refine wp_region_lit ?_
      refine s1 hE rfl (d_assign hE rfl) fun a hE => ?_
      refine wpList_nil ?_
      have H := St.get H 1 rfl
      have H := St.ownCut hl291 H
      have H : St z I w (OwnSl c_api_Spot (slv 2 u0_l 0 (IntKind.i64.wrap ((a0_l.length : Int) - 1))) l290 :: Bl q0 233 [(slv 2 u0_l 0 (IntKind.i64.wrap ((a0_l.length : Int) - 1)))] :: Bl q273 193 [(.int .u64 x271.1.Cost), (.int .i64 x271.1.Node)] :: Bl q267 193 [(.int .u64 0), (.int .i64 0)] :: r) := H
      obtain ⟨s414, hj414, hq414⟩ := bnd hm
      refine cut2 (fun a w => ∃ s_ : Unit, s414 = .go s_ ∧ Env a 78 [] ∧ St z I w (r)) ?_ ?_
      · refine wp_block ?_
        refine loopI (fun k a w => ∃ l352 : List S_api_Spot, ∃ y353 : Int, m123_l0 x271 k l352 y353 = some s414 ∧ Env a 78 [(0, (.pointer (some (ad q0 0)))), (2, (.pointer (some (ad q267 0)))), (4, (.pointer (some (ad q273 0)))), (7, (.int .i64 y353))] ∧ St z I w (Bl q0 233 [(slv 2 u0_l 0 (IntKind.i64.wrap ((a0_l.length : Int) - 1)))] :: OwnSl c_api_Spot (slv 2 u0_l 0 (IntKind.i64.wrap ((a0_l.length : Int) - 1))) l352 :: Bl q267 193 [(.int .u64 0), (.int .i64 0)] :: Bl q273 193 [(.int .u64 x271.1.Cost), (.int .i64 x271.1.Node)] :: r)) ?_ k _ _ ?_
        · rintro k a w ⟨l352, y353, hm, hE, H⟩
          cases k with
          | zero => rw [m123_l0] at hm; cases hm
          | succ k =>
            rw [m123_l0] at hm
            refine wp_block ?_
            refine wp_seq ?_
            refine wp_region_lit ?_
            refine s1 hE rfl (d_move hE rfl) fun a hE => ?_
            refine s1 hE rfl (d_move hE rfl) fun a hE => ?_
            obtain ⟨x447, hc448, hm⟩ := bnd hm
            refine s2 hE rfl (d_call c167 hE rfl (f167_ok k l352 y353 hc448  H)) fun a v w hR hE => ?_
            obtain ⟨hv_, H⟩ := hR
            have hv_ := hv_.symm
            subst hv_
            refine s1 hE rfl (d_assign hE rfl) fun a hE => ?_
            refine wpList_nil ?_
            refine wp_seq ?_
            refine wp_seq ?_
            refine wp_region_lit ?_
            refine s1 hE rfl (d_move hE rfl) fun a hE => ?_
            refine s1 hE rfl (d_move hE rfl) fun a hE => ?_
            refine s1 hE rfl (d_eql hE rfl rfl) fun a hE => ?_
            refine wpList_nil ?_
            by_cases c450 : x447 = y353
            · rw [if_pos c450] at hm
              refine cT hE rfl (decide_eq_true c450) ?_
              refine wp_seq ?_
              refine wp_region_lit ?_
              refine s1 hE rfl (d_loadA ag193 hE rfl H 3 rfl rfl) fun a hE => ?_
              have H := St.get H 2 rfl
              refine s3 (d_store sz193 hE rfl rfl rfl (oneAll rfl) H rfl) fun v w hR => ?_
              have H : St z I w (Bl q267 193 [(.int .u64 x271.1.Cost), (.int .i64 x271.1.Node)] :: Bl q0 233 [(slv 2 u0_l 0 (IntKind.i64.wrap ((a0_l.length : Int) - 1)))] :: OwnSl c_api_Spot (slv 2 u0_l 0 (IntKind.i64.wrap ((a0_l.length : Int) - 1))) l352 :: Bl q273 193 [(.int .u64 x271.1.Cost), (.int .i64 x271.1.Node)] :: r) := hR
              refine s1 hE rfl (d_assign hE rfl) fun a hE => ?_
              refine wpList_nil ?_
              refine wp_ret ?_
              have hb0 := H.ob 0 rfl
              cases hm
              have hm := hq414
              simp only [Out.on] at hm
              cases hm
              have H := St.get H 2 rfl
              have H := St.get H 2 rfl
              have H := St.del H 2
              have H := St.del H 2
              exact retCT rfl hE rfl hb0 ag193 rfl ⟨_, rfl, (slv 2 u0_l 0 (IntKind.i64.wrap ((a0_l.length : Int) - 1))), rfl, H⟩
            · rw [if_neg c450] at hm
              refine cF hE rfl (decide_eq_false c450) ?_
              refine wp_skip ?_
              refine wp_seq ?_
              obtain ⟨x463, hx464, hm⟩ := bnd hm
              obtain ⟨x465, hx466, hm⟩ := bnd hm
              obtain ⟨x467, hx468, hm⟩ := bnd hm
              obtain ⟨l469, hl470, hm⟩ := bnd hm
              obtain ⟨x471, hx472, hm⟩ := bnd hm
              obtain ⟨l473, hl474, hm⟩ := bnd hm
              refine Dr.region (γ := Unit) (pre := [[], [0], [0, 1], [0, 1, 2], [], [], [5], [5, 6], [5, 6, 7], [], [], [10], [10, 11], [10, 11, 12], [], [10, 11, 12, 13, 14], [10, 11, 12, 13, 14, 15], [], [17], [17, 18], [17, 18, 19], [], [17, 18, 19, 20, 21], [17, 18, 19, 20, 21, 22], [0, 1, 2, 3, 4, 5, 6, 7, 8, 10, 11, 12, 13, 14, 15, 16, 17, 18, 19, 20, 21, 22, 23], [0, 1, 2, 3, 4, 5, 6, 7, 8, 10, 11, 12, 13, 14, 15, 16, 17, 18, 19, 20, 21, 22, 23, 24], [0, 1, 2, 3, 4, 5, 6, 7, 8, 9, 10, 11, 12, 13, 14, 15, 16, 17, 18, 19, 20, 21, 22, 23, 24, 25], [0, 1, 2, 3, 4, 5, 6, 7, 8, 9, 10, 11, 12, 13, 14, 15, 16, 17, 18, 19, 20, 21, 22, 23, 24, 25, 26]]) (val := [some (.pointer (some (ad q0 0))), some (.pointer (some (ad q0 0))), some (.pointer (some (ad q0 (0 + 0)))), some (slv 2 u0_l 0 (IntKind.i64.wrap ((a0_l.length : Int) - 1))), some (.int .i64 y353), some (.pointer (some (ad q0 0))), some (.pointer (some (ad q0 0))), some (.pointer (some (ad q0 (0 + 0)))), some (slv 2 u0_l 0 (IntKind.i64.wrap ((a0_l.length : Int) - 1))), some (.int .i64 x447), some (.pointer (some (ad q0 0))), some (.pointer (some (ad q0 0))), some (.pointer (some (ad q0 (0 + 0)))), some (slv 2 u0_l 0 (IntKind.i64.wrap ((a0_l.length : Int) - 1))), some (.int .i64 x447), some (.pointer (some (ad (sb (slv 2 u0_l 0 (IntKind.i64.wrap ((a0_l.length : Int) - 1)))) (so (slv 2 u0_l 0 (IntKind.i64.wrap ((a0_l.length : Int) - 1))) + (Int.toNat x447) * c_api_Spot.n)))), some (.agg #[(.int .u64 x463.Cost), (.int .i64 x463.Node)]), some (.pointer (some (ad q0 0))), some (.pointer (some (ad q0 0))), some (.pointer (some (ad q0 (0 + 0)))), some (slv 2 u0_l 0 (IntKind.i64.wrap ((a0_l.length : Int) - 1))), some (.int .i64 y353), some (.pointer (some (ad (sb (slv 2 u0_l 0 (IntKind.i64.wrap ((a0_l.length : Int) - 1)))) (so (slv 2 u0_l 0 (IntKind.i64.wrap ((a0_l.length : Int) - 1))) + (Int.toNat y353) * c_api_Spot.n)))), some (.agg #[(.int .u64 x465.Cost), (.int .i64 x465.Node)]), some (.pointer (some (ad (sb (slv 2 u0_l 0 (IntKind.i64.wrap ((a0_l.length : Int) - 1)))) (so (slv 2 u0_l 0 (IntKind.i64.wrap ((a0_l.length : Int) - 1))) + (Int.toNat y353) * c_api_Spot.n)))), none, some (.pointer (some (ad (sb (slv 2 u0_l 0 (IntKind.i64.wrap ((a0_l.length : Int) - 1)))) (so (slv 2 u0_l 0 (IntKind.i64.wrap ((a0_l.length : Int) - 1))) + (Int.toNat x447) * c_api_Spot.n)))), none]) (eff := [25, 27]) (mask := [[], [25], [25, 27]]) (keys := [[], [], []]) (src := [[.base 0], [.op 0], [.op 1], [.op 2], [.base 7], [.base 0], [.op 5], [.op 6], [.op 7], [.base 8], [.base 0], [.op 10], [.op 11], [.op 12], [.base 8], [.op 13, .op 14], [.op 15], [.base 0], [.op 17], [.op 18], [.op 19], [.base 7], [.op 20, .op 21], [.op 22], [.op 3, .op 4], [.op 16, .op 24], [.op 8, .op 9], [.op 23, .op 26]]) (z := z) (ef := fun p g => ([[], [], []] : List (List (Nat × Value))).getD p []) (hi := fun _ _ => I) (rs := fun p g => ([Bl q0 233 [(slv 2 u0_l 0 (IntKind.i64.wrap ((a0_l.length : Int) - 1)))] :: OwnSl c_api_Spot (slv 2 u0_l 0 (IntKind.i64.wrap ((a0_l.length : Int) - 1))) l352 :: Bl q267 193 [(.int .u64 0), (.int .i64 0)] :: Bl q273 193 [(.int .u64 x271.1.Cost), (.int .i64 x271.1.Node)] :: r, OwnSl c_api_Spot (slv 2 u0_l 0 (IntKind.i64.wrap ((a0_l.length : Int) - 1))) l469 :: Bl q0 233 [(slv 2 u0_l 0 (IntKind.i64.wrap ((a0_l.length : Int) - 1)))] :: Bl q267 193 [(.int .u64 0), (.int .i64 0)] :: Bl q273 193 [(.int .u64 x271.1.Cost), (.int .i64 x271.1.Node)] :: r, OwnSl c_api_Spot (slv 2 u0_l 0 (IntKind.i64.wrap ((a0_l.length : Int) - 1))) l473 :: Bl q0 233 [(slv 2 u0_l 0 (IntKind.i64.wrap ((a0_l.length : Int) - 1)))] :: Bl q267 193 [(.int .u64 0), (.int .i64 0)] :: Bl q273 193 [(.int .u64 x271.1.Cost), (.int .i64 x271.1.Node)] :: r] : List (List Asn)).getD p []) [(0, 0), (1, 0), (2, 0), (3, 0), (4, 0), (5, 0), (6, 0), (7, 0), (8, 0), (9, 0), (10, 0), (11, 0), (12, 0), (13, 0), (14, 0), (15, 0), (16, 0), (17, 0), (18, 0), (19, 0), (20, 0), (21, 0), (22, 0), (23, 0), (24, 0), (9, 1), (26, 1)] [(0, 25, 1), (1, 27, 2)] [0, 1, 2, 3, 4, 5, 6, 7, 8, 9, 10, 11, 12, 13, 14, 15, 16, 17, 18, 19, 20, 21, 22, 23, 24, 26] 2 mo hE () rfl H (by kernel_rfl) (by kernel_rfl) (fun p g => by rcases p with _ | _ | _ | p <;> rfl) ?_ ?_ (by kernel_rfl) (by kernel_rfl) ?_
              · exact ⟨by intro a w g hE H; exact Dr.is H rfl (Dr.run rfl (d_move hE rfl)),
    by intro a w g hE H; exact Dr.is H rfl (Dr.run rfl (d_nilCheck hE rfl)),
    by intro a w g hE H; exact Dr.is H rfl (Dr.run rfl (d_fieldAddr fld233_0 hE rfl)),
    by intro a w g hE H; exact Dr.is H rfl (Dr.run rfl (d_load sc231 hE rfl H 0 rfl rfl)),
    by intro a w g hE H; exact Dr.is H rfl (Dr.run rfl (d_move hE rfl)),
    by intro a w g hE H; exact Dr.is H rfl (Dr.run rfl (d_move hE rfl)),
    by intro a w g hE H; exact Dr.is H rfl (Dr.run rfl (d_nilCheck hE rfl)),
    by intro a w g hE H; exact Dr.is H rfl (Dr.run rfl (d_fieldAddr fld233_0 hE rfl)),
    by intro a w g hE H; exact Dr.is H rfl (Dr.run rfl (d_load sc231 hE rfl H 0 rfl rfl)),
    by intro a w g hE H; exact Dr.is H rfl (Dr.run rfl (d_move hE rfl)),
    by intro a w g hE H; exact Dr.is H rfl (Dr.run rfl (d_move hE rfl)),
    by intro a w g hE H; exact Dr.is H rfl (Dr.run rfl (d_nilCheck hE rfl)),
    by intro a w g hE H; exact Dr.is H rfl (Dr.run rfl (d_fieldAddr fld233_0 hE rfl)),
    by intro a w g hE H; exact Dr.is H rfl (Dr.run rfl (d_load sc231 hE rfl H 0 rfl rfl)),
    by intro a w g hE H; exact Dr.is H rfl (Dr.run rfl (d_move hE rfl)),
    by intro a w g hE H; exact Dr.is H rfl (Dr.run rfl (d_indexS sl231 hE rfl rfl H (Rd.own 1 rfl) hx464)),
    by intro a w g hE H; exact Dr.is H rfl (Dr.run rfl (d_loadSA ag193 rfl hE rfl H (Rd.own 1 rfl) hx464 (fun _ _ e => e))),
    by intro a w g hE H; exact Dr.is H rfl (Dr.run rfl (d_move hE rfl)),
    by intro a w g hE H; exact Dr.is H rfl (Dr.run rfl (d_nilCheck hE rfl)),
    by intro a w g hE H; exact Dr.is H rfl (Dr.run rfl (d_fieldAddr fld233_0 hE rfl)),
    by intro a w g hE H; exact Dr.is H rfl (Dr.run rfl (d_load sc231 hE rfl H 0 rfl rfl)),
    by intro a w g hE H; exact Dr.is H rfl (Dr.run rfl (d_move hE rfl)),
    by intro a w g hE H; exact Dr.is H rfl (Dr.run rfl (d_indexS sl231 hE rfl rfl H (Rd.own 1 rfl) hx466)),
    by intro a w g hE H; exact Dr.is H rfl (Dr.run rfl (d_loadSA ag193 rfl hE rfl H (Rd.own 1 rfl) hx466 (fun _ _ e => e))),
    by intro a w g hE H; exact Dr.is H rfl (Dr.run rfl (d_indexS sl231 hE rfl rfl H (Rd.own 1 rfl) hx468)),
    by intro a w g hE H; exact Dr.is H rfl (Dr.run rfl (d_move hE rfl)),
    by intro a w g hE H; exact Dr.is H rfl (Dr.run rfl (d_indexS sl231 hE rfl rfl H (Rd.own 0 rfl) hx472)),
    trivial⟩
              · exact ⟨by intro a w g hE hF H; have H := St.get H 1 rfl; refine (Dr.run rfl (b_storeS (e' := x463) (c := c_api_Spot) sz193 hE rfl rfl rfl (oneAll rfl) rfl hx468 (fun _ _ _ _ => by rfl) hl470 H)).mono fun v w hR => ?_; have H : St z I w (OwnSl c_api_Spot (slv 2 u0_l 0 (IntKind.i64.wrap ((a0_l.length : Int) - 1))) l469 :: Bl q0 233 [(slv 2 u0_l 0 (IntKind.i64.wrap ((a0_l.length : Int) - 1)))] :: Bl q267 193 [(.int .u64 0), (.int .i64 0)] :: Bl q273 193 [(.int .u64 x271.1.Cost), (.int .i64 x271.1.Node)] :: r) := hR; exact ⟨(), H, Dr.lkSub trivial⟩,
    by intro a w g hE hF H; refine (Dr.run rfl (b_storeS (e' := x465) (c := c_api_Spot) sz193 hE rfl rfl rfl (oneAll rfl) rfl hx472 (fun _ _ _ _ => by rfl) hl474 H)).mono fun v w hR => ?_; have H : St z I w (OwnSl c_api_Spot (slv 2 u0_l 0 (IntKind.i64.wrap ((a0_l.length : Int) - 1))) l473 :: Bl q0 233 [(slv 2 u0_l 0 (IntKind.i64.wrap ((a0_l.length : Int) - 1)))] :: Bl q267 193 [(.int .u64 0), (.int .i64 0)] :: Bl q273 193 [(.int .u64 x271.1.Cost), (.int .i64 x271.1.Node)] :: r) := hR; exact ⟨(), H, Dr.lkSub trivial⟩,
    trivial⟩
              · intro a w g hE H
                have H : St z I w (OwnSl c_api_Spot (slv 2 u0_l 0 (IntKind.i64.wrap ((a0_l.length : Int) - 1))) l473 :: Bl q0 233 [(slv 2 u0_l 0 (IntKind.i64.wrap ((a0_l.length : Int) - 1)))] :: Bl q267 193 [(.int .u64 0), (.int .i64 0)] :: Bl q273 193 [(.int .u64 x271.1.Cost), (.int .i64 x271.1.Node)] :: r) := H
                refine wp_region_lit ?_
                refine s1 hE rfl (d_move hE rfl) fun a hE => ?_
                refine s1 hE rfl (d_assign hE rfl) fun a hE => ?_
                refine wpList_nil ?_
                have H := St.get H 3 rfl
                have H := St.get H 3 rfl
                have H := St.get H 2 rfl
                have H := St.get H 3 rfl
                exact ⟨k, Nat.lt_succ_self k, l473, x447, hm, hE.sub ⟨rfl, rfl, rfl, rfl, trivial⟩, H⟩
        · have H := St.get H 2 rfl
          have H := St.get H 3 rfl
          have H := St.get H 2 rfl
          have H := St.get H 3 rfl
          exact ⟨l290, 0, hj414, hE.sub ⟨rfl, rfl, rfl, rfl, trivial⟩, H⟩
      · rintro a w ⟨s414, rfl, hE, H⟩
        have hm := hq414
        simp only [Out.on] at hm
        cases hm
  · rw [if_neg c275] at hm
    refine cT hE rfl (not_t (b_f c275)) ?_
    refine wp_seq ?_
    refine wp_region_lit ?_
    refine s1 hE rfl (d_build hE rfl (bld193_)) fun a hE => ?_
    have H := St.get H 3 rfl
    refine s3 (d_store sz193 hE rfl rfl rfl (oneAll rfl) H rfl) fun v w hR => ?_
    have H : St z I w (Bl q267 193 [(.int .u64 0), (.int .i64 0)] :: Bl q273 193 [(.int .u64 x271.1.Cost), (.int .i64 x271.1.Node)] :: Bl q0 233 [u0_l] :: OwnSl c_api_Spot u0_l a0_l :: r) := hR
    refine s1 hE rfl (d_assign hE rfl) fun a hE => ?_
    refine wpList_nil ?_
    refine wp_ret ?_
    have hb0 := H.ob 0 rfl
    cases hm
    have H := St.get H 3 rfl
    have H := St.get H 3 rfl
    have H := St.del H 2
    have H := St.del H 2
    exact retCT rfl hE rfl hb0 ag193 rfl ⟨_, rfl, u0_l, rfl, H⟩
def m168 (k : Nat) (a0_root : Int) (a0_known : List (Int × S_api_Route)) (a0_done : List (Int × Bool)) (a0_h_l : List S_api_Spot) (a1 : S_api_Route) : Option ((List (Int × S_api_Route)) × (List S_api_Spot)) := Option.bind (some ((mget a0_known a1.To).getD (⟨0, 0, 0⟩ : S_api_Route))) fun x140 => Option.bind (α := Bool) (if (mget a0_known a1.To).isSome = true then (some (decide (a1.Cost < x140.Cost))) else (some true)) fun s178 => Option.bind (α := Out ((List (Int × S_api_Route)) × (List S_api_Spot)) (List S_api_Spot)) (if s178 = true then (Option.bind (m165 k a0_h_l (⟨a1.Cost, a1.To⟩ : S_api_Spot)) fun x200 => some (.go x200)) else (Option.bind (α := Bool) (if x140.Cost < a1.Cost then (some true) else (some (decide (x140.Via ≤ a1.Via)))) fun s205 => if s205 = true then (some (.ret (a0_known, a0_h_l))) else (some (.go a0_h_l)))) fun s195 => s195.on (fun q_ => some q_) fun s195 => Option.bind (some (mput a0_known a1.To a1)) fun mp211 => some (mp211, s195)
set_option maxRecDepth 20000 in
set_option maxHeartbeats 4000000 in
theorem f168_ok (k : Nat) {q0 : Nat} (a0_root : Int) {q0_known : Nat} (a0_known : List (Int × S_api_Route)) {q0_done : Nat} (a0_done : List (Int × Bool)) {q0_h : Nat} {u0_h_l : Value} (a0_h_l : List S_api_Spot) (a1 : S_api_Route) {res : (List (Int × S_api_Route)) × (List S_api_Spot)} (hm : m168 k a0_root a0_known a0_done a0_h_l a1 = some res) {z w : World} {I : Hp} {r : List Asn}  (H : St z I w (Bl q0 195 [(.int .i64 a0_root), (.map (some q0_known)), (.map (some q0_done)), (.pointer (some (ad q0_h 0)))] :: MapR c_api_Route true q0_known a0_known :: MapR cBool false q0_done a0_done :: Bl q0_h 233 [u0_h_l] :: OwnSl c_api_Spot u0_h_l a0_h_l :: r)) :
    Calls Try.prog 168 #[(.pointer (some (ad q0 0))), (.agg #[(.int .i64 a1.To), (.int .i64 a1.Via), (.int .u64 a1.Cost)])] w (Rt fun v w' => ∃ v133 : Value, v = (.tuple #[]) ∧ St z I w' (Bl q0 195 [(.int .i64 a0_root), (.map (some q0_known)), (.map (some q0_done)), (.pointer (some (ad q0_h 0)))] :: MapR c_api_Route true q0_known res.1 :: MapR cBool false q0_done a0_done :: Bl q0_h 233 [v133] :: OwnSl c_api_Spot v133 res.2 :: r)) := by
  unfold m168 at hm
  refine enter (args := [(.pointer (some (ad q0 0))), (.agg #[(.int .i64 a1.To), (.int .i64 a1.Via), (.int .u64 a1.Cost)])]) Try.func168 rfl Try.ntmps168 rfl fun a hE => ?_
  refine wp_seq ?_
  refine wp_region_lit ?_
  refine s2 hE rfl (d_box hE rfl H) fun a v w hR hE => ?_
  obtain ⟨q136, rfl, H⟩ := hR
  have H : St z I w (Bl q136 96 [(.int .i64 a1.To), (.int .i64 a1.Via), (.int .u64 a1.Cost)] :: Bl q0 195 [(.int .i64 a0_root), (.map (some q0_known)), (.map (some q0_done)), (.pointer (some (ad q0_h 0)))] :: MapR c_api_Route true q0_known a0_known :: MapR cBool false q0_done a0_done :: Bl q0_h 233 [u0_h_l] :: OwnSl c_api_Spot u0_h_l a0_h_l :: r) := H
  refine wpList_nil ?_
  refine wp_seq ?_
  obtain ⟨x140, hx141, hm⟩ := bnd hm
  refine Dr.region (γ := Nat) (pre := [[], [0], [0, 1], [0, 1, 2], [], [4], [0, 1, 2, 3, 4, 5], [0, 1, 2, 3, 4, 5, 6], [0, 1, 2, 3, 4, 5, 6, 7], [0, 1, 2, 3, 4, 5, 6, 7], [], [0, 1, 2, 3, 4, 5, 6, 7, 8, 10], [0, 1, 2, 3, 4, 5, 6, 7, 8, 9, 10, 11]]) (val := [some (.pointer (some (ad q0 0))), some (.pointer (some (ad q0 0))), some (.pointer (some (ad q0 (0 + 1)))), some (.map (some q0_known)), some (.pointer (some (ad q136 (0 + 0)))), some (.int .i64 a1.To), some (.tuple #[(.agg #[(.int .i64 x140.To), (.int .i64 x140.Via), (.int .u64 x140.Cost)]), (.bool ((mget a0_known a1.To).isSome))]), some (.tuple #[(.agg #[(.int .i64 x140.To), (.int .i64 x140.Via), (.int .u64 x140.Cost)]), (.bool ((mget a0_known a1.To).isSome))]), some (.agg #[(.int .i64 x140.To), (.int .i64 x140.Via), (.int .u64 x140.Cost)]), some (.bool ((mget a0_known a1.To).isSome)), none, none, some (.bool ((mget a0_known a1.To).isSome))]) (eff := [10, 11]) (mask := [[], [10], [10, 11]]) (keys := [[], [4], [4]]) (src := [[.base 0], [.op 0], [.op 1], [.op 2], [.base 3], [.op 4], [.op 3, .op 5], [.op 6], [.op 7], [.op 7], [], [.op 8], [.op 9]]) (z := z) (ef := fun p g => ([[], [(4, (.pointer (some (ad g 0))))], [(4, (.pointer (some (ad g 0))))]] : List (List (Nat × Value))).getD p []) (hi := fun _ _ => I) (rs := fun p g => ([Bl q136 96 [(.int .i64 a1.To), (.int .i64 a1.Via), (.int .u64 a1.Cost)] :: Bl q0 195 [(.int .i64 a0_root), (.map (some q0_known)), (.map (some q0_done)), (.pointer (some (ad q0_h 0)))] :: MapR c_api_Route true q0_known a0_known :: MapR cBool false q0_done a0_done :: Bl q0_h 233 [u0_h_l] :: OwnSl c_api_Spot u0_h_l a0_h_l :: r, Bl g 96 [(.int .i64 0), (.int .i64 0), (.int .u64 0)] :: Bl q136 96 [(.int .i64 a1.To), (.int .i64 a1.Via), (.int .u64 a1.Cost)] :: Bl q0 195 [(.int .i64 a0_root), (.map (some q0_known)), (.map (some q0_done)), (.pointer (some (ad q0_h 0)))] :: MapR c_api_Route true q0_known a0_known :: MapR cBool false q0_done a0_done :: Bl q0_h 233 [u0_h_l] :: OwnSl c_api_Spot u0_h_l a0_h_l :: r, Bl g 96 [(.int .i64 x140.To), (.int .i64 x140.Via), (.int .u64 x140.Cost)] :: Bl q136 96 [(.int .i64 a1.To), (.int .i64 a1.Via), (.int .u64 a1.Cost)] :: Bl q0 195 [(.int .i64 a0_root), (.map (some q0_known)), (.map (some q0_done)), (.pointer (some (ad q0_h 0)))] :: MapR c_api_Route true q0_known a0_known :: MapR cBool false q0_done a0_done :: Bl q0_h 233 [u0_h_l] :: OwnSl c_api_Spot u0_h_l a0_h_l :: r] : List (List Asn)).getD p []) [(0, 0), (1, 0), (2, 0), (3, 0), (4, 0), (5, 0), (6, 0), (7, 0), (8, 0), (9, 0), (0, 1), (1, 1), (2, 1), (3, 1), (4, 1), (5, 1), (6, 1), (7, 1), (8, 1), (9, 1), (9, 2), (12, 2)] [(0, 10, 1), (1, 11, 2)] [0, 1, 2, 3, 4, 5, 6, 7, 8, 9, 12] 2 mo hE (0) rfl H (by kernel_rfl) (by kernel_rfl) (fun p g => by rcases p with _ | _ | _ | p <;> rfl) ?_ ?_ (by kernel_rfl) (by kernel_rfl) ?_
  · exact ⟨by intro a w g hE H; obtain ⟨q142, rfl⟩ : ∃ x, x = g := ⟨g, rfl⟩; exact Dr.is H rfl (Dr.run rfl (d_move hE rfl)),
    by intro a w g hE H; obtain ⟨q142, rfl⟩ : ∃ x, x = g := ⟨g, rfl⟩; exact Dr.is H rfl (Dr.run rfl (d_nilCheck hE rfl)),
    by intro a w g hE H; obtain ⟨q142, rfl⟩ : ∃ x, x = g := ⟨g, rfl⟩; exact Dr.is H rfl (Dr.run rfl (d_fieldAddr fld195_1 hE rfl)),
    by intro a w g hE H; obtain ⟨q142, rfl⟩ : ∃ x, x = g := ⟨g, rfl⟩; exact Dr.is H rfl (Dr.run rfl (d_load sc189 hE rfl H 1 rfl rfl)),
    by intro a w g hE H; obtain ⟨q142, rfl⟩ : ∃ x, x = g := ⟨g, rfl⟩; exact Dr.is H rfl (Dr.run rfl (d_fieldAddr fld96_0 hE rfl)),
    by intro a w g hE H; obtain ⟨q142, rfl⟩ : ∃ x, x = g := ⟨g, rfl⟩; exact Dr.is H rfl (Dr.run rfl (d_load sc3 hE rfl H 0 rfl rfl)),
    by intro a w g hE H; obtain ⟨q142, rfl⟩ : ∃ x, x = g := ⟨g, rfl⟩; exact Dr.is H rfl (Dr.run rfl (b_lookup2 (V := (fun x : S_api_Route => (.agg #[(.int .i64 x.To), (.int .i64 x.Via), (.int .u64 x.Cost)]))) (zx := (⟨0, 0, 0⟩ : S_api_Route)) (c := c_api_Route) (g := true) Try.underlying189 Try.underlying3 zv96 (fun _ _ _ h => by rw [h]; rfl) hE rfl rfl hx141 H 2 rfl)),
    by intro a w g hE H; obtain ⟨q142, rfl⟩ : ∃ x, x = g := ⟨g, rfl⟩; exact Dr.is H rfl (Dr.run rfl (d_move hE rfl)),
    by intro a w g hE H; obtain ⟨q142, rfl⟩ : ∃ x, x = g := ⟨g, rfl⟩; exact Dr.is H rfl (Dr.run rfl (d_extract hE rfl rfl)),
    by intro a w g hE H; obtain ⟨q142, rfl⟩ : ∃ x, x = g := ⟨g, rfl⟩; exact Dr.is H rfl (Dr.run rfl (d_extract hE rfl rfl)),
    by intro a w g hE H; obtain ⟨q142, rfl⟩ : ∃ x, x = g := ⟨g, rfl⟩; exact Dr.is H rfl (Dr.run rfl (d_move hE rfl)),
    by intro a w g hE H; obtain ⟨q142, rfl⟩ : ∃ x, x = g := ⟨g, rfl⟩; exact Dr.is H rfl (Dr.run rfl (d_nilCheck hE rfl)),
    by intro a w g hE H; obtain ⟨q142, rfl⟩ : ∃ x, x = g := ⟨g, rfl⟩; exact Dr.is H rfl (Dr.run rfl (d_fieldAddr fld195_1 hE rfl)),
    by intro a w g hE H; obtain ⟨q142, rfl⟩ : ∃ x, x = g := ⟨g, rfl⟩; exact Dr.is H rfl (Dr.run rfl (d_load sc189 hE rfl H 2 rfl rfl)),
    by intro a w g hE H; obtain ⟨q142, rfl⟩ : ∃ x, x = g := ⟨g, rfl⟩; exact Dr.is H rfl (Dr.run rfl (d_fieldAddr fld96_0 hE rfl)),
    by intro a w g hE H; obtain ⟨q142, rfl⟩ : ∃ x, x = g := ⟨g, rfl⟩; exact Dr.is H rfl (Dr.run rfl (d_load sc3 hE rfl H 1 rfl rfl)),
    by intro a w g hE H; obtain ⟨q142, rfl⟩ : ∃ x, x = g := ⟨g, rfl⟩; exact Dr.is H rfl (Dr.run rfl (b_lookup2 (V := (fun x : S_api_Route => (.agg #[(.int .i64 x.To), (.int .i64 x.Via), (.int .u64 x.Cost)]))) (zx := (⟨0, 0, 0⟩ : S_api_Route)) (c := c_api_Route) (g := true) Try.underlying189 Try.underlying3 zv96 (fun _ _ _ h => by rw [h]; rfl) hE rfl rfl hx141 H 3 rfl)),
    by intro a w g hE H; obtain ⟨q142, rfl⟩ : ∃ x, x = g := ⟨g, rfl⟩; exact Dr.is H rfl (Dr.run rfl (d_move hE rfl)),
    by intro a w g hE H; obtain ⟨q142, rfl⟩ : ∃ x, x = g := ⟨g, rfl⟩; exact Dr.is H rfl (Dr.run rfl (d_extract hE rfl rfl)),
    by intro a w g hE H; obtain ⟨q142, rfl⟩ : ∃ x, x = g := ⟨g, rfl⟩; exact Dr.is H rfl (Dr.run rfl (d_extract hE rfl rfl)),
    by intro a w g hE H; obtain ⟨q142, rfl⟩ : ∃ x, x = g := ⟨g, rfl⟩; exact Dr.is H rfl (Dr.run rfl (d_extract hE rfl rfl)),
    by intro a w g hE H; obtain ⟨q142, rfl⟩ : ∃ x, x = g := ⟨g, rfl⟩; exact Dr.is H rfl (Dr.run rfl (d_assign hE rfl)),
    trivial⟩
  · exact ⟨by intro a w g hE hF H; obtain ⟨q142, rfl⟩ : ∃ x, x = g := ⟨g, rfl⟩; refine (Dr.run rfl (d_alloc al96 H)).mono fun v w hR => ?_; obtain ⟨q142, hv_, H⟩ := hR; have hv_ := hv_.symm; subst hv_; exact ⟨q142, H, Dr.lkSub ⟨rfl, trivial⟩⟩,
    by intro a w g hE hF H; obtain ⟨q142, rfl⟩ : ∃ x, x = g := ⟨g, rfl⟩; have hE := Dr.env_both hE hF; refine (Dr.run rfl (d_store sz96 hE rfl rfl rfl (oneAll rfl) H rfl)).mono fun v w hR => ?_; have H : St z I w (Bl q142 96 [(.int .i64 x140.To), (.int .i64 x140.Via), (.int .u64 x140.Cost)] :: Bl q136 96 [(.int .i64 a1.To), (.int .i64 a1.Via), (.int .u64 a1.Cost)] :: Bl q0 195 [(.int .i64 a0_root), (.map (some q0_known)), (.map (some q0_done)), (.pointer (some (ad q0_h 0)))] :: MapR c_api_Route true q0_known a0_known :: MapR cBool false q0_done a0_done :: Bl q0_h 233 [u0_h_l] :: OwnSl c_api_Spot u0_h_l a0_h_l :: r) := hR; exact ⟨q142, H, Dr.lkSub ⟨rfl, trivial⟩⟩,
    trivial⟩
  · intro a w g hE H
    obtain ⟨q142, rfl⟩ : ∃ x, x = g := ⟨g, rfl⟩
    have H : St z I w (Bl q142 96 [(.int .i64 x140.To), (.int .i64 x140.Via), (.int .u64 x140.Cost)] :: Bl q136 96 [(.int .i64 a1.To), (.int .i64 a1.Via), (.int .u64 a1.Cost)] :: Bl q0 195 [(.int .i64 a0_root), (.map (some q0_known)), (.map (some q0_done)), (.pointer (some (ad q0_h 0)))] :: MapR c_api_Route true q0_known a0_known :: MapR cBool false q0_done a0_done :: Bl q0_h 233 [u0_h_l] :: OwnSl c_api_Spot u0_h_l a0_h_l :: r) := H
    refine wp_seq ?_
    refine wp_block ?_
    refine wp_seq ?_
    obtain ⟨s178, hj178, hm⟩ := bnd hm
    refine cut2 (fun a w => Env a 56 [(0, (.pointer (some (ad q0 0)))), (3, (.pointer (some (ad q136 0)))), (4, (.pointer (some (ad q142 0)))), (16, (.bool s178))] ∧ St z I w (Bl q0 195 [(.int .i64 a0_root), (.map (some q0_known)), (.map (some q0_done)), (.pointer (some (ad q0_h 0)))] :: MapR c_api_Route true q0_known a0_known :: MapR cBool false q0_done a0_done :: Bl q0_h 233 [u0_h_l] :: OwnSl c_api_Spot u0_h_l a0_h_l :: Bl q136 96 [(.int .i64 a1.To), (.int .i64 a1.Via), (.int .u64 a1.Cost)] :: Bl q142 96 [(.int .i64 x140.To), (.int .i64 x140.Via), (.int .u64 x140.Cost)] :: r)) ?_ ?_
    · have hm := hj178
      refine wp_region_lit ?_
      refine s1 hE rfl (d_move hE rfl) fun a hE => ?_
      refine s1 hE rfl (d_not hE rfl) fun a hE => ?_
      refine s1 hE rfl (d_move hE rfl) fun a hE => ?_
      by_cases c179 : (mget a0_known a1.To).isSome = true
      · rw [if_pos c179] at hm
        refine gR hE rfl rfl (not_f c179) ?_
        refine s1 hE rfl (d_fieldAddr fld96_2 hE rfl) fun a hE => ?_
        refine gR hE rfl rfl (not_f c179) ?_
        refine s1 hE rfl (d_load sc61 hE rfl H 1 rfl rfl) fun a hE => ?_
        refine gR hE rfl rfl (not_f c179) ?_
        refine s1 hE rfl (d_fieldAddr fld96_2 hE rfl) fun a hE => ?_
        refine gR hE rfl rfl (not_f c179) ?_
        refine s1 hE rfl (d_load sc61 hE rfl H 0 rfl rfl) fun a hE => ?_
        refine gR hE rfl rfl (not_f c179) ?_
        refine s1 hE rfl (d_lss hE rfl rfl) fun a hE => ?_
        refine s1 hE rfl (d_pF hE rfl (not_f c179) rfl) fun a hE => ?_
        refine s1 hE rfl (d_assign hE rfl) fun a hE => ?_
        refine wpList_nil ?_
        cases hm
        have H := St.get H 1 rfl
        have H := St.get H 6 rfl
        have H := St.get H 6 rfl
        have H := St.get H 6 rfl
        have H := St.get H 6 rfl
        have H := St.get H 6 rfl
        exact ⟨hE.sub ⟨rfl, rfl, rfl, rfl, trivial⟩, H⟩
      · rw [if_neg c179] at hm
        refine gP hE rfl rfl rfl (not_t (b_f c179)) fun a hE => ?_
        refine gP hE rfl rfl rfl (not_t (b_f c179)) fun a hE => ?_
        refine gP hE rfl rfl rfl (not_t (b_f c179)) fun a hE => ?_
        refine gP hE rfl rfl rfl (not_t (b_f c179)) fun a hE => ?_
        refine gP hE rfl rfl rfl (not_t (b_f c179)) fun a hE => ?_
        refine s1 hE rfl (d_pT hE rfl (not_t (b_f c179)) rfl) fun a hE => ?_
        refine s1 hE rfl (d_assign hE rfl) fun a hE => ?_
        refine wpList_nil ?_
        cases hm
        have H := St.get H 1 rfl
        have H := St.get H 6 rfl
        have H := St.get H 6 rfl
        have H := St.get H 6 rfl
        have H := St.get H 6 rfl
        have H := St.get H 6 rfl
        exact ⟨hE.sub ⟨rfl, rfl, rfl, rfl, trivial⟩, H⟩
    · rintro a w ⟨hE, H⟩
      obtain ⟨s195, hj195, hq195⟩ := bnd hm
      refine cut2 (fun a w => ∃ s_ : (List S_api_Spot), s195 = .go s_ ∧ ∃ v193 : Value, Env a 56 [(0, (.pointer (some (ad q0 0)))), (3, (.pointer (some (ad q136 0))))] ∧ St z I w (Bl q0 195 [(.int .i64 a0_root), (.map (some q0_known)), (.map (some q0_done)), (.pointer (some (ad q0_h 0)))] :: MapR c_api_Route true q0_known a0_known :: MapR cBool false q0_done a0_done :: Bl q0_h 233 [v193] :: OwnSl c_api_Spot v193 s_ :: Bl q136 96 [(.int .i64 a1.To), (.int .i64 a1.Via), (.int .u64 a1.Cost)] :: r)) ?_ ?_
      · have hm := hj195
        by_cases c196 : s178 = true
        · rw [if_pos c196] at hm
          refine cT hE rfl c196 ?_
          obtain ⟨x200, hc201, hm⟩ := bnd hm
          refine Dr.region (γ := Value) (pre := [[], [0], [0, 1], [0, 1, 2], [], [4], [], [6], [4, 5, 6, 7], [0, 1, 2, 3, 4, 5, 6, 7, 8]]) (val := [some (.pointer (some (ad q0 0))), some (.pointer (some (ad q0 0))), some (.pointer (some (ad q0 (0 + 3)))), some (.pointer (some (ad q0_h 0))), some (.pointer (some (ad q136 (0 + 2)))), some (.int .u64 a1.Cost), some (.pointer (some (ad q136 (0 + 0)))), some (.int .i64 a1.To), some (.agg #[(.int .u64 a1.Cost), (.int .i64 a1.To)]), none]) (eff := [9]) (mask := [[], [9]]) (keys := [[], [35]]) (src := [[.base 0], [.op 0], [.op 1], [.op 2], [.base 3], [.op 4], [.base 3], [.op 6], [.op 5, .op 7], [.op 3, .op 8]]) (z := z) (ef := fun p g => ([[], [(35, (.tuple #[]))]] : List (List (Nat × Value))).getD p []) (hi := fun _ _ => I) (rs := fun p g => ([Bl q0 195 [(.int .i64 a0_root), (.map (some q0_known)), (.map (some q0_done)), (.pointer (some (ad q0_h 0)))] :: MapR c_api_Route true q0_known a0_known :: MapR cBool false q0_done a0_done :: Bl q0_h 233 [u0_h_l] :: OwnSl c_api_Spot u0_h_l a0_h_l :: Bl q136 96 [(.int .i64 a1.To), (.int .i64 a1.Via), (.int .u64 a1.Cost)] :: Bl q142 96 [(.int .i64 x140.To), (.int .i64 x140.Via), (.int .u64 x140.Cost)] :: r, Bl q0_h 233 [g] :: OwnSl c_api_Spot g x200 :: Bl q0 195 [(.int .i64 a0_root), (.map (some q0_known)), (.map (some q0_done)), (.pointer (some (ad q0_h 0)))] :: MapR c_api_Route true q0_known a0_known :: MapR cBool false q0_done a0_done :: Bl q136 96 [(.int .i64 a1.To), (.int .i64 a1.Via), (.int .u64 a1.Cost)] :: Bl q142 96 [(.int .i64 x140.To), (.int .i64 x140.Via), (.int .u64 x140.Cost)] :: r] : List (List Asn)).getD p []) [(0, 0), (1, 0), (2, 0), (3, 0), (4, 0), (5, 0), (6, 0), (7, 0), (8, 0)] [(0, 9, 1)] [0, 1, 2, 3, 4, 5, 6, 7, 8] 1 mo hE (undef) rfl H (by kernel_rfl) (by kernel_rfl) (fun p g => by rcases p with _ | _ | p <;> rfl) ?_ ?_ (by kernel_rfl) (by kernel_rfl) ?_
          · exact ⟨by intro a w g hE H; obtain ⟨v202, rfl⟩ : ∃ x, x = g := ⟨g, rfl⟩; exact Dr.is H rfl (Dr.run rfl (d_move hE rfl)),
    by intro a w g hE H; obtain ⟨v202, rfl⟩ : ∃ x, x = g := ⟨g, rfl⟩; exact Dr.is H rfl (Dr.run rfl (d_nilCheck hE rfl)),
    by intro a w g hE H; obtain ⟨v202, rfl⟩ : ∃ x, x = g := ⟨g, rfl⟩; exact Dr.is H rfl (Dr.run rfl (d_fieldAddr fld195_3 hE rfl)),
    by intro a w g hE H; obtain ⟨v202, rfl⟩ : ∃ x, x = g := ⟨g, rfl⟩; exact Dr.is H rfl (Dr.run rfl (d_load sc190 hE rfl H 0 rfl rfl)),
    by intro a w g hE H; obtain ⟨v202, rfl⟩ : ∃ x, x = g := ⟨g, rfl⟩; exact Dr.is H rfl (Dr.run rfl (d_fieldAddr fld96_2 hE rfl)),
    by intro a w g hE H; obtain ⟨v202, rfl⟩ : ∃ x, x = g := ⟨g, rfl⟩; exact Dr.is H rfl (Dr.run rfl (d_load sc61 hE rfl H 5 rfl rfl)),
    by intro a w g hE H; obtain ⟨v202, rfl⟩ : ∃ x, x = g := ⟨g, rfl⟩; exact Dr.is H rfl (Dr.run rfl (d_fieldAddr fld96_0 hE rfl)),
    by intro a w g hE H; obtain ⟨v202, rfl⟩ : ∃ x, x = g := ⟨g, rfl⟩; exact Dr.is H rfl (Dr.run rfl (d_load sc3 hE rfl H 5 rfl rfl)),
    by intro a w g hE H; obtain ⟨v202, rfl⟩ : ∃ x, x = g := ⟨g, rfl⟩; exact Dr.is H rfl (Dr.run rfl (d_build hE rfl (bld193_0In_1In _ _))),
    trivial⟩
          · exact ⟨by intro a w g hE hF H; obtain ⟨v202, rfl⟩ : ∃ x, x = g := ⟨g, rfl⟩; have H := St.get H 4 rfl; have H := St.get H 4 rfl; have H : St z I w (Bl q0_h 233 [u0_h_l] :: OwnSl c_api_Spot u0_h_l a0_h_l :: Bl q0 195 [(.int .i64 a0_root), (.map (some q0_known)), (.map (some q0_done)), (.pointer (some (ad q0_h 0)))] :: MapR c_api_Route true q0_known a0_known :: MapR cBool false q0_done a0_done :: Bl q136 96 [(.int .i64 a1.To), (.int .i64 a1.Via), (.int .u64 a1.Cost)] :: Bl q142 96 [(.int .i64 x140.To), (.int .i64 x140.Via), (.int .u64 x140.Cost)] :: r) := H; refine (Dr.run rfl (d_call c165 hE rfl (f165_ok k a0_h_l (⟨a1.Cost, a1.To⟩ : S_api_Spot) hc201  H))).mono fun v w hR => ?_; obtain ⟨v202, hv_, H⟩ := hR; have hv_ := hv_.symm; subst hv_; exact ⟨v202, H, Dr.lkSub ⟨rfl, trivial⟩⟩,
    trivial⟩
          · intro a w g hE H
            obtain ⟨v202, rfl⟩ : ∃ x, x = g := ⟨g, rfl⟩
            have H : St z I w (Bl q0_h 233 [v202] :: OwnSl c_api_Spot v202 x200 :: Bl q0 195 [(.int .i64 a0_root), (.map (some q0_known)), (.map (some q0_done)), (.pointer (some (ad q0_h 0)))] :: MapR c_api_Route true q0_known a0_known :: MapR cBool false q0_done a0_done :: Bl q136 96 [(.int .i64 a1.To), (.int .i64 a1.Via), (.int .u64 a1.Cost)] :: Bl q142 96 [(.int .i64 x140.To), (.int .i64 x140.Via), (.int .u64 x140.Cost)] :: r) := H
            cases hm
            have H := St.get H 5 rfl
            have H := St.get H 2 rfl
            have H := St.get H 2 rfl
            have H := St.get H 5 rfl
            have H := St.get H 5 rfl
            have H := St.get H 5 rfl
            have H := St.del H 6
            exact ⟨_, rfl, v202, hE.sub ⟨rfl, rfl, trivial⟩, H⟩
        · rw [if_neg c196] at hm
          refine cF hE rfl (b_f c196) ?_
          refine wp_seq ?_
          obtain ⟨s205, hj205, hm⟩ := bnd hm
          refine cut2 (fun a w => Env a 56 [(0, (.pointer (some (ad q0 0)))), (3, (.pointer (some (ad q136 0)))), (36, (.bool s205))] ∧ St z I w (Bl q0 195 [(.int .i64 a0_root), (.map (some q0_known)), (.map (some q0_done)), (.pointer (some (ad q0_h 0)))] :: MapR c_api_Route true q0_known a0_known :: MapR cBool false q0_done a0_done :: Bl q0_h 233 [u0_h_l] :: OwnSl c_api_Spot u0_h_l a0_h_l :: Bl q136 96 [(.int .i64 a1.To), (.int .i64 a1.Via), (.int .u64 a1.Cost)] :: r)) ?_ ?_
          · have hm := hj205
            refine wp_region_lit ?_
            refine s1 hE rfl (d_fieldAddr fld96_2 hE rfl) fun a hE => ?_
            refine s1 hE rfl (d_load sc61 hE rfl H 5 rfl rfl) fun a hE => ?_
            refine s1 hE rfl (d_fieldAddr fld96_2 hE rfl) fun a hE => ?_
            refine s1 hE rfl (d_load sc61 hE rfl H 6 rfl rfl) fun a hE => ?_
            refine s1 hE rfl (d_gtr hE rfl rfl) fun a hE => ?_
            refine s1 hE rfl (d_move hE rfl) fun a hE => ?_
            by_cases c206 : x140.Cost < a1.Cost
            · rw [if_pos c206] at hm
              refine gP hE rfl rfl rfl (decide_eq_true c206) fun a hE => ?_
              refine gP hE rfl rfl rfl (decide_eq_true c206) fun a hE => ?_
              refine gP hE rfl rfl rfl (decide_eq_true c206) fun a hE => ?_
              refine gP hE rfl rfl rfl (decide_eq_true c206) fun a hE => ?_
              refine gP hE rfl rfl rfl (decide_eq_true c206) fun a hE => ?_
              refine s1 hE rfl (d_pT hE rfl (decide_eq_true c206) rfl) fun a hE => ?_
              refine s1 hE rfl (d_assign hE rfl) fun a hE => ?_
              refine wpList_nil ?_
              cases hm
              have H := St.del H 6
              exact ⟨hE.sub ⟨rfl, rfl, rfl, trivial⟩, H⟩
            · rw [if_neg c206] at hm
              refine gR hE rfl rfl (decide_eq_false c206) ?_
              refine s1 hE rfl (d_fieldAddr fld96_1 hE rfl) fun a hE => ?_
              refine gR hE rfl rfl (decide_eq_false c206) ?_
              refine s1 hE rfl (d_load sc3 hE rfl H 5 rfl rfl) fun a hE => ?_
              refine gR hE rfl rfl (decide_eq_false c206) ?_
              refine s1 hE rfl (d_fieldAddr fld96_1 hE rfl) fun a hE => ?_
              refine gR hE rfl rfl (decide_eq_false c206) ?_
              refine s1 hE rfl (d_load sc3 hE rfl H 6 rfl rfl) fun a hE => ?_
              refine gR hE rfl rfl (decide_eq_false c206) ?_
              refine s1 hE rfl (d_geq hE rfl rfl) fun a hE => ?_
              refine s1 hE rfl (d_pF hE rfl (decide_eq_false c206) rfl) fun a hE => ?_
              refine s1 hE rfl (d_assign hE rfl) fun a hE => ?_
              refine wpList_nil ?_
              cases hm
              have H := St.del H 6
              exact ⟨hE.sub ⟨rfl, rfl, rfl, trivial⟩, H⟩
          · rintro a w ⟨hE, H⟩
            by_cases c208 : s205 = true
            · rw [if_pos c208] at hm
              refine cT hE rfl c208 ?_
              refine wp_ret ?_
              cases hm
              have hm := hq195
              simp only [Out.on] at hm
              cases hm
              have H := St.del H 5
              exact ret0 rfl hE  ⟨_, rfl, u0_h_l, rfl, H⟩
            · rw [if_neg c208] at hm
              refine cF hE rfl (b_f c208) ?_
              refine wp_skip ?_
              cases hm
              exact ⟨_, rfl, u0_h_l, hE.sub ⟨rfl, rfl, trivial⟩, H⟩
      · rintro a w ⟨s195, rfl, v193, hE, H⟩
        have hm := hq195
        simp only [Out.on] at hm
        obtain ⟨mp211, hl212, hm⟩ := bnd hm
        refine Dr.region (γ := Unit) (pre := [[], [0], [0, 1], [0, 1, 2], [], [4], [], [0, 1, 2, 3, 4, 5, 6]]) (val := [some (.pointer (some (ad q0 0))), some (.pointer (some (ad q0 0))), some (.pointer (some (ad q0 (0 + 1)))), some (.map (some q0_known)), some (.pointer (some (ad q136 (0 + 0)))), some (.int .i64 a1.To), some (.agg #[(.int .i64 a1.To), (.int .i64 a1.Via), (.int .u64 a1.Cost)]), none]) (eff := [7]) (mask := [[], [7]]) (keys := [[], []]) (src := [[.base 0], [.op 0], [.op 1], [.op 2], [.base 3], [.op 4], [.base 3], [.op 3, .op 5, .op 6]]) (z := z) (ef := fun p g => ([[], []] : List (List (Nat × Value))).getD p []) (hi := fun _ _ => I) (rs := fun p g => ([Bl q0 195 [(.int .i64 a0_root), (.map (some q0_known)), (.map (some q0_done)), (.pointer (some (ad q0_h 0)))] :: MapR c_api_Route true q0_known a0_known :: MapR cBool false q0_done a0_done :: Bl q0_h 233 [v193] :: OwnSl c_api_Spot v193 s195 :: Bl q136 96 [(.int .i64 a1.To), (.int .i64 a1.Via), (.int .u64 a1.Cost)] :: r, MapR c_api_Route true q0_known mp211 :: Bl q0 195 [(.int .i64 a0_root), (.map (some q0_known)), (.map (some q0_done)), (.pointer (some (ad q0_h 0)))] :: MapR cBool false q0_done a0_done :: Bl q0_h 233 [v193] :: OwnSl c_api_Spot v193 s195 :: Bl q136 96 [(.int .i64 a1.To), (.int .i64 a1.Via), (.int .u64 a1.Cost)] :: r] : List (List Asn)).getD p []) [(0, 0), (1, 0), (2, 0), (3, 0), (4, 0), (5, 0), (6, 0)] [(0, 7, 1)] [0, 1, 2, 3, 4, 5, 6] 1 mo hE () rfl H (by kernel_rfl) (by kernel_rfl) (fun p g => by rcases p with _ | _ | p <;> rfl) ?_ ?_ (by kernel_rfl) (by kernel_rfl) ?_
        · exact ⟨by intro a w g hE H; exact Dr.is H rfl (Dr.run rfl (d_move hE rfl)),
    by intro a w g hE H; exact Dr.is H rfl (Dr.run rfl (d_nilCheck hE rfl)),
    by intro a w g hE H; exact Dr.is H rfl (Dr.run rfl (d_fieldAddr fld195_1 hE rfl)),
    by intro a w g hE H; exact Dr.is H rfl (Dr.run rfl (d_load sc189 hE rfl H 0 rfl rfl)),
    by intro a w g hE H; exact Dr.is H rfl (Dr.run rfl (d_fieldAddr fld96_0 hE rfl)),
    by intro a w g hE H; exact Dr.is H rfl (Dr.run rfl (d_load sc3 hE rfl H 5 rfl rfl)),
    by intro a w g hE H; exact Dr.is H rfl (Dr.run rfl (d_loadA ag96 hE rfl H 5 rfl rfl)),
    trivial⟩
        · exact ⟨by intro a w g hE hF H; have H := St.get H 1 rfl; refine (Dr.run rfl (b_mapUpdate (c := c_api_Route) (g := true) (cs := [(.int .i64 a1.To), (.int .i64 a1.Via), (.int .u64 a1.Cost)]) (xv := a1) Try.underlying189 Try.underlying3 hE rfl rfl rfl rfl (fun _ _ _ _ => by rfl) hl212 H)).mono fun v w hR => ?_; have H : St z I w (MapR c_api_Route true q0_known mp211 :: Bl q0 195 [(.int .i64 a0_root), (.map (some q0_known)), (.map (some q0_done)), (.pointer (some (ad q0_h 0)))] :: MapR cBool false q0_done a0_done :: Bl q0_h 233 [v193] :: OwnSl c_api_Spot v193 s195 :: Bl q136 96 [(.int .i64 a1.To), (.int .i64 a1.Via), (.int .u64 a1.Cost)] :: r) := hR; exact ⟨(), H, Dr.lkSub trivial⟩,
    trivial⟩
        · intro a w g hE H
          have H : St z I w (MapR c_api_Route true q0_known mp211 :: Bl q0 195 [(.int .i64 a0_root), (.map (some q0_known)), (.map (some q0_done)), (.pointer (some (ad q0_h 0)))] :: MapR cBool false q0_done a0_done :: Bl q0_h 233 [v193] :: OwnSl c_api_Spot v193 s195 :: Bl q136 96 [(.int .i64 a1.To), (.int .i64 a1.Via), (.int .u64 a1.Cost)] :: r) := H
          cases hm
          have H := St.get H 4 rfl
          have H := St.get H 4 rfl
          have H := St.get H 4 rfl
          have H := St.get H 3 rfl
          have H := St.get H 4 rfl
          have H := St.del H 5
          exact end0 rfl hE  ⟨_, rfl, v193, rfl, H⟩
def m124_l0 (a1 : List S_api_Arc) (a2 : Int) (x269 : S_api_Route) (a0_done : List (Int × Bool)) (a0_root : Int) : Nat → (List (Int × S_api_Route)) → (List S_api_Spot) → Int → Option ((List (Int × S_api_Route)) × (List S_api_Spot))
  | 0, _, _, _ => none
  | k + 1, mp338, l340, y341 => if y341 < (a1.length : Int) then (Option.bind (α := (List (Int × S_api_Route)) × (List S_api_Spot)) (Option.bind (rdx a1 y341) fun x451 => Option.bind (α := Bool) (if x451.To = a0_root then (some true) else (Option.bind (some ((mget a0_done x451.To).getD false)) fun x460 => some x460)) fun s458 => if s458 = true then (some (mp338, l340)) else (Option.bind (α := Int) (if a2 = a0_root then (some x451.To) else (some x269.Via)) fun s466 => Option.bind (m89 x269.Cost (IntKind.u64.wrap x451.Cost)) fun x473 => Option.bind (m168 k a0_root mp338 a0_done l340 (⟨x451.To, s466, x473⟩ : S_api_Route)) fun x475 => some (x475.1, x475.2))) fun s447 => m124_l0 a1 a2 x269 a0_done a0_root k s447.1 s447.2 (IntKind.i64.wrap (y341 + 1))) else (some (mp338, l340))
def m124 (k : Nat) (a0_root : Int) (a0_known : List (Int × S_api_Route)) (a0_done : List (Int × Bool)) (a0_h_l : List S_api_Spot) (a1 : List S_api_Arc) (a2 : Int) : Option ((List (Int × S_api_Route)) × (List S_api_Spot)) := Option.bind (some ((mget a0_known a2).getD (⟨0, 0, 0⟩ : S_api_Route))) fun x269 => Option.bind (m124_l0 a1 a2 x269 a0_done a0_root k a0_known a0_h_l 0) fun s411 => some (s411.1, s411.2)
set_option maxRecDepth 20000 in
set_option maxHeartbeats 4000000 in
theorem f124_ok (k : Nat) {q0 : Nat} (a0_root : Int) {q0_known : Nat} (a0_known : List (Int × S_api_Route)) {q0_done : Nat} (a0_done : List (Int × Bool)) {q0_h : Nat} {u0_h_l : Value} (a0_h_l : List S_api_Spot) {u1 : Value} (a1 : List S_api_Arc) (a2 : Int) {res : (List (Int × S_api_Route)) × (List S_api_Spot)} (hm : m124 k a0_root a0_known a0_done a0_h_l a1 a2 = some res) {z w : World} {I : Hp} {r : List Asn} (hr1 : Rd c_api_Arc I r u1 a1) (H : St z I w (Bl q0 195 [(.int .i64 a0_root), (.map (some q0_known)), (.map (some q0_done)), (.pointer (some (ad q0_h 0)))] :: MapR c_api_Route true q0_known a0_known :: MapR cBool false q0_done a0_done :: Bl q0_h 233 [u0_h_l] :: OwnSl c_api_Spot u0_h_l a0_h_l :: r)) :
    Calls Try.prog 124 #[(.pointer (some (ad q0 0))), u1, (.int .i64 a2)] w (Rt fun v w' => ∃ v264 : Value, v = (.tuple #[]) ∧ St z I w' (Bl q0 195 [(.int .i64 a0_root), (.map (some q0_known)), (.map (some q0_done)), (.pointer (some (ad q0_h 0)))] :: MapR c_api_Route true q0_known res.1 :: MapR cBool false q0_done a0_done :: Bl q0_h 233 [v264] :: OwnSl c_api_Spot v264 res.2 :: r)) := by
  unfold m124 at hm
  refine enter (args := [(.pointer (some (ad q0 0))), u1, (.int .i64 a2)]) Try.func124 rfl Try.ntmps124 rfl fun a hE => ?_
  refine wp_seq ?_
  refine wp_region_lit ?_
  refine s1 hE rfl (d_move hE rfl) fun a hE => ?_
  refine s1 hE rfl (d_nilCheck hE rfl) fun a hE => ?_
  refine s1 hE rfl (d_fieldAddr fld195_1 hE rfl) fun a hE => ?_
  refine s1 hE rfl (d_load sc189 hE rfl H 0 rfl rfl) fun a hE => ?_
  refine s1 hE rfl (d_move hE rfl) fun a hE => ?_
  obtain ⟨x269, hx270, hm⟩ := bnd hm
  refine s1 hE rfl (b_lookup1 (V := (fun x : S_api_Route => (.agg #[(.int .i64 x.To), (.int .i64 x.Via), (.int .u64 x.Cost)]))) (zx := (⟨0, 0, 0⟩ : S_api_Route)) (c := c_api_Route) (g := true) Try.underlying189 Try.underlying3 zv96 (fun _ _ _ h => by rw [h]; rfl) hE rfl rfl hx270 H 1 rfl) fun a hE => ?_
  refine s2 hE rfl (d_alloc al96 H) fun a v w hR hE => ?_
  obtain ⟨q271, rfl, H⟩ := hR
  refine s3 (d_store sz96 hE rfl rfl rfl (oneAll rfl) H rfl) fun v w hR => ?_
  have H : St z I w (Bl q271 96 [(.int .i64 x269.To), (.int .i64 x269.Via), (.int .u64 x269.Cost)] :: Bl q0 195 [(.int .i64 a0_root), (.map (some q0_known)), (.map (some q0_done)), (.pointer (some (ad q0_h 0)))] :: MapR c_api_Route true q0_known a0_known :: MapR cBool false q0_done a0_done :: Bl q0_h 233 [u0_h_l] :: OwnSl c_api_Spot u0_h_l a0_h_l :: r) := hR
  refine wpList_nil ?_
  refine wp_seq ?_
  refine wp_region_lit ?_
  refine s1 hE rfl (d_move hE rfl) fun a hE => ?_
  refine s1 hE rfl (d_lenS Try.underlying55 hE rfl H (Rd.cons (Rd.cons (Rd.cons (Rd.cons (Rd.cons (Rd.cons hr1))))))) fun a hE => ?_
  refine s1 hE rfl (d_move hE rfl) fun a hE => ?_
  refine wpList_nil ?_
  obtain ⟨s411, hj411, hm⟩ := bnd hm
  refine cut2 (fun a w => ∃ v409 : Value, Env a 61 [] ∧ St z I w (Bl q0 195 [(.int .i64 a0_root), (.map (some q0_known)), (.map (some q0_done)), (.pointer (some (ad q0_h 0)))] :: MapR c_api_Route true q0_known s411.1 :: MapR cBool false q0_done a0_done :: Bl q0_h 233 [v409] :: OwnSl c_api_Spot v409 s411.2 :: r)) ?_ ?_
  · refine wp_block ?_
    refine loopI (fun k a w => ∃ mp338 : List (Int × S_api_Route), ∃ l340 : List S_api_Spot, ∃ y341 : Int, m124_l0 a1 a2 x269 a0_done a0_root k mp338 l340 y341 = some s411 ∧ ∃ v339 : Value, Env a 61 [(0, (.pointer (some (ad q0 0)))), (2, (.int .i64 a2)), (6, (.pointer (some (ad q271 0)))), (16, u1), (17, (.int .i64 (a1.length : Int))), (18, (.int .i64 y341))] ∧ St z I w (Bl q0 195 [(.int .i64 a0_root), (.map (some q0_known)), (.map (some q0_done)), (.pointer (some (ad q0_h 0)))] :: MapR c_api_Route true q0_known mp338 :: MapR cBool false q0_done a0_done :: Bl q0_h 233 [v339] :: OwnSl c_api_Spot v339 l340 :: Bl q271 96 [(.int .i64 x269.To), (.int .i64 x269.Via), (.int .u64 x269.Cost)] :: r)) ?_ k _ _ ?_
    · rintro k a w ⟨mp338, l340, y341, hm, v339, hE, H⟩
      cases k with
      | zero => rw [m124_l0] at hm; cases hm
      | succ k =>
        rw [m124_l0] at hm
        refine wp_seq ?_
        refine wp_region_lit ?_
        refine s1 hE rfl (d_lss hE rfl rfl) fun a hE => ?_
        refine wpList_nil ?_
        refine wp_seq ?_
        by_cases c413 : y341 < (a1.length : Int)
        · rw [if_pos c413] at hm
          refine cT hE rfl (decide_eq_true c413) ?_
          refine wp_skip ?_
          refine wp_seq ?_
          obtain ⟨s447, hj447, hm⟩ := bnd hm
          refine cut2 (fun a w => ∃ v445 : Value, Env a 61 [(0, (.pointer (some (ad q0 0)))), (2, (.int .i64 a2)), (6, (.pointer (some (ad q271 0)))), (16, u1), (17, (.int .i64 (a1.length : Int))), (18, (.int .i64 y341))] ∧ St z I w (Bl q0 195 [(.int .i64 a0_root), (.map (some q0_known)), (.map (some q0_done)), (.pointer (some (ad q0_h 0)))] :: MapR c_api_Route true q0_known s447.1 :: MapR cBool false q0_done a0_done :: Bl q0_h 233 [v445] :: OwnSl c_api_Spot v445 s447.2 :: Bl q271 96 [(.int .i64 x269.To), (.int .i64 x269.Via), (.int .u64 x269.Cost)] :: r)) ?_ ?_
          · have hm := hj447
            refine wp_block ?_
            refine wp_seq ?_
            refine wp_region_lit ?_
            obtain ⟨x451, hx452, hm⟩ := bnd hm
            refine s1 hE rfl (d_indexS sl55 hE rfl rfl H (Rd.cons (Rd.cons (Rd.cons (Rd.cons (Rd.cons (Rd.cons hr1)))))) hx452) fun a hE => ?_
            refine s1 hE rfl (d_loadSA ag60 rfl hE rfl H (Rd.cons (Rd.cons (Rd.cons (Rd.cons (Rd.cons (Rd.cons hr1)))))) hx452 (fun _ _ e => e)) fun a hE => ?_
            refine s2 hE rfl (d_alloc al60 H) fun a v w hR hE => ?_
            obtain ⟨q453, rfl, H⟩ := hR
            refine s3 (d_store sz60 hE rfl rfl rfl (oneAll rfl) H rfl) fun v w hR => ?_
            have H : St z I w (Bl q453 60 [(.int .i64 x451.From), (.int .i64 x451.To), (.int .i64 x451.Cost)] :: Bl q0 195 [(.int .i64 a0_root), (.map (some q0_known)), (.map (some q0_done)), (.pointer (some (ad q0_h 0)))] :: MapR c_api_Route true q0_known mp338 :: MapR cBool false q0_done a0_done :: Bl q0_h 233 [v339] :: OwnSl c_api_Spot v339 l340 :: Bl q271 96 [(.int .i64 x269.To), (.int .i64 x269.Via), (.int .u64 x269.Cost)] :: r) := hR
            refine wpList_nil ?_
            refine wp_seq ?_
            refine wp_seq ?_
            obtain ⟨s458, hj458, hm⟩ := bnd hm
            refine cut2 (fun a w => Env a 61 [(0, (.pointer (some (ad q0 0)))), (2, (.int .i64 a2)), (6, (.pointer (some (ad q271 0)))), (8, (.pointer (some (ad q453 0)))), (16, u1), (17, (.int .i64 (a1.length : Int))), (18, (.int .i64 y341)), (37, (.bool s458))] ∧ St z I w (Bl q0 195 [(.int .i64 a0_root), (.map (some q0_known)), (.map (some q0_done)), (.pointer (some (ad q0_h 0)))] :: MapR c_api_Route true q0_known mp338 :: MapR cBool false q0_done a0_done :: Bl q0_h 233 [v339] :: OwnSl c_api_Spot v339 l340 :: Bl q271 96 [(.int .i64 x269.To), (.int .i64 x269.Via), (.int .u64 x269.Cost)] :: Bl q453 60 [(.int .i64 x451.From), (.int .i64 x451.To), (.int .i64 x451.Cost)] :: r)) ?_ ?_
            · have hm := hj458
              by_cases c459 : x451.To = a0_root
              · rw [if_pos c459] at hm
                refine Dr.region (γ := Unit) (pre := [[], [0], [], [2], [2, 3], [2, 3, 4], [0, 1, 2, 3, 4, 5], [0, 1, 2, 3, 4, 5, 6], [0, 1, 2, 3, 4, 5, 6, 7], [0, 1, 2, 3, 4, 5, 6, 7, 8], [0, 1, 2, 3, 4, 5, 6, 7, 8, 9], [0, 1, 2, 3, 4, 5, 6, 7, 8, 9, 10], [0, 1, 2, 3, 4, 5, 6, 7], [0, 1, 2, 3, 4, 5, 6, 7, 12], [0, 1, 2, 3, 4, 5, 6, 7, 8, 9, 10, 11, 12, 13], [0, 1, 2, 3, 4, 5, 6, 7, 8, 9, 10, 11, 12, 13, 14]]) (val := [some (.pointer (some (ad q453 (0 + 1)))), some (.int .i64 x451.To), some (.pointer (some (ad q0 0))), some (.pointer (some (ad q0 0))), some (.pointer (some (ad q0 (0 + 0)))), some (.int .i64 a0_root), some (.bool (decide (x451.To = a0_root))), some (.bool (decide (x451.To = a0_root))), some undef, some undef, some undef, some undef, some undef, some undef, some undef, some (.bool true)]) (eff := []) (mask := [[]]) (keys := [[]]) (src := [[.base 8], [.op 0], [.base 0], [.op 2], [.op 3], [.op 4], [.op 1, .op 5], [.op 6], [.base 0, .op 7], [.op 7, .op 8], [.op 7, .op 9], [.op 7, .op 10], [.base 8, .op 7], [.op 7, .op 12], [.op 7, .op 11, .op 13], [.op 7, .op 14]]) (z := z) (ef := fun p g => ([[]] : List (List (Nat × Value))).getD p []) (hi := fun _ _ => I) (rs := fun p g => ([Bl q453 60 [(.int .i64 x451.From), (.int .i64 x451.To), (.int .i64 x451.Cost)] :: Bl q0 195 [(.int .i64 a0_root), (.map (some q0_known)), (.map (some q0_done)), (.pointer (some (ad q0_h 0)))] :: MapR c_api_Route true q0_known mp338 :: MapR cBool false q0_done a0_done :: Bl q0_h 233 [v339] :: OwnSl c_api_Spot v339 l340 :: Bl q271 96 [(.int .i64 x269.To), (.int .i64 x269.Via), (.int .u64 x269.Cost)] :: r] : List (List Asn)).getD p []) [(0, 0), (1, 0), (2, 0), (3, 0), (4, 0), (5, 0), (6, 0), (7, 0), (8, 0), (9, 0), (10, 0), (11, 0), (12, 0), (13, 0), (14, 0), (15, 0)] [] [0, 1, 2, 3, 4, 5, 6, 7, 8, 9, 10, 11, 12, 13, 14, 15] 0 mo hE () rfl H (by kernel_rfl) (by kernel_rfl) (fun p g => by cases p <;> rfl) ?_ ?_ (by kernel_rfl) (by kernel_rfl) ?_
                · exact ⟨by intro a w g hE H; exact Dr.is H rfl (Dr.run rfl (d_fieldAddr fld60_1 hE rfl)),
    by intro a w g hE H; exact Dr.is H rfl (Dr.run rfl (d_load sc3 hE rfl H 0 rfl rfl)),
    by intro a w g hE H; exact Dr.is H rfl (Dr.run rfl (d_move hE rfl)),
    by intro a w g hE H; exact Dr.is H rfl (Dr.run rfl (d_nilCheck hE rfl)),
    by intro a w g hE H; exact Dr.is H rfl (Dr.run rfl (d_fieldAddr fld195_0 hE rfl)),
    by intro a w g hE H; exact Dr.is H rfl (Dr.run rfl (d_load sc3 hE rfl H 1 rfl rfl)),
    by intro a w g hE H; exact Dr.is H rfl (Dr.run rfl (d_eql hE rfl rfl)),
    by intro a w g hE H; exact Dr.is H rfl (Dr.run rfl (d_move hE rfl)),
    by intro a w g hE H; exact Dr.is H rfl (Dr.pG rfl hE rfl rfl (decide_eq_true c459) ⟨rfl, rfl⟩),
    by intro a w g hE H; exact Dr.is H rfl (Dr.pG rfl hE rfl rfl (decide_eq_true c459) ⟨rfl, rfl⟩),
    by intro a w g hE H; exact Dr.is H rfl (Dr.pG rfl hE rfl rfl (decide_eq_true c459) ⟨rfl, rfl⟩),
    by intro a w g hE H; exact Dr.is H rfl (Dr.pG rfl hE rfl rfl (decide_eq_true c459) ⟨rfl, rfl⟩),
    by intro a w g hE H; exact Dr.is H rfl (Dr.pG rfl hE rfl rfl (decide_eq_true c459) ⟨rfl, rfl⟩),
    by intro a w g hE H; exact Dr.is H rfl (Dr.pG rfl hE rfl rfl (decide_eq_true c459) ⟨rfl, rfl⟩),
    by intro a w g hE H; exact Dr.is H rfl (Dr.pG rfl hE rfl rfl (decide_eq_true c459) ⟨rfl, rfl⟩),
    by intro a w g hE H; exact Dr.is H rfl (Dr.run rfl (d_pT hE rfl (decide_eq_true c459) rfl)),
    trivial⟩
                · trivial
                · intro a w g hE H
                  have H : St z I w (Bl q453 60 [(.int .i64 x451.From), (.int .i64 x451.To), (.int .i64 x451.Cost)] :: Bl q0 195 [(.int .i64 a0_root), (.map (some q0_known)), (.map (some q0_done)), (.pointer (some (ad q0_h 0)))] :: MapR c_api_Route true q0_known mp338 :: MapR cBool false q0_done a0_done :: Bl q0_h 233 [v339] :: OwnSl c_api_Spot v339 l340 :: Bl q271 96 [(.int .i64 x269.To), (.int .i64 x269.Via), (.int .u64 x269.Cost)] :: r) := H
                  cases hm
                  have H := St.get H 6 rfl
                  have H := St.get H 6 rfl
                  have H := St.get H 6 rfl
                  have H := St.get H 6 rfl
                  have H := St.get H 6 rfl
                  have H := St.get H 6 rfl
                  exact ⟨hE.sub ⟨rfl, rfl, rfl, rfl, rfl, rfl, rfl, rfl, trivial⟩, H⟩
              · rw [if_neg c459] at hm
                obtain ⟨x460, hx461, hm⟩ := bnd hm
                refine Dr.region (γ := Unit) (pre := [[], [0], [], [2], [2, 3], [2, 3, 4], [0, 1, 2, 3, 4, 5], [0, 1, 2, 3, 4, 5, 6], [0, 1, 2, 3, 4, 5, 6, 7], [0, 1, 2, 3, 4, 5, 6, 7, 8], [0, 1, 2, 3, 4, 5, 6, 7, 8, 9], [0, 1, 2, 3, 4, 5, 6, 7, 8, 9, 10], [0, 1, 2, 3, 4, 5, 6, 7], [0, 1, 2, 3, 4, 5, 6, 7, 12], [0, 1, 2, 3, 4, 5, 6, 7, 8, 9, 10, 11, 12, 13], [0, 1, 2, 3, 4, 5, 6, 7, 8, 9, 10, 11, 12, 13, 14]]) (val := [some (.pointer (some (ad q453 (0 + 1)))), some (.int .i64 x451.To), some (.pointer (some (ad q0 0))), some (.pointer (some (ad q0 0))), some (.pointer (some (ad q0 (0 + 0)))), some (.int .i64 a0_root), some (.bool (decide (x451.To = a0_root))), some (.bool (decide (x451.To = a0_root))), some (.pointer (some (ad q0 0))), some (.pointer (some (ad q0 0))), some (.pointer (some (ad q0 (0 + 2)))), some (.map (some q0_done)), some (.pointer (some (ad q453 (0 + 1)))), some (.int .i64 x451.To), some (.bool x460), some (.bool x460)]) (eff := []) (mask := [[]]) (keys := [[]]) (src := [[.base 8], [.op 0], [.base 0], [.op 2], [.op 3], [.op 4], [.op 1, .op 5], [.op 6], [.base 0, .op 7], [.op 7, .op 8], [.op 7, .op 9], [.op 7, .op 10], [.base 8, .op 7], [.op 7, .op 12], [.op 7, .op 11, .op 13], [.op 7, .op 14]]) (z := z) (ef := fun p g => ([[]] : List (List (Nat × Value))).getD p []) (hi := fun _ _ => I) (rs := fun p g => ([Bl q453 60 [(.int .i64 x451.From), (.int .i64 x451.To), (.int .i64 x451.Cost)] :: Bl q0 195 [(.int .i64 a0_root), (.map (some q0_known)), (.map (some q0_done)), (.pointer (some (ad q0_h 0)))] :: MapR c_api_Route true q0_known mp338 :: MapR cBool false q0_done a0_done :: Bl q0_h 233 [v339] :: OwnSl c_api_Spot v339 l340 :: Bl q271 96 [(.int .i64 x269.To), (.int .i64 x269.Via), (.int .u64 x269.Cost)] :: r] : List (List Asn)).getD p []) [(0, 0), (1, 0), (2, 0), (3, 0), (4, 0), (5, 0), (6, 0), (7, 0), (8, 0), (9, 0), (10, 0), (11, 0), (12, 0), (13, 0), (14, 0), (15, 0)] [] [0, 1, 2, 3, 4, 5, 6, 7, 8, 9, 10, 11, 12, 13, 14, 15] 0 mo hE () rfl H (by kernel_rfl) (by kernel_rfl) (fun p g => by cases p <;> rfl) ?_ ?_ (by kernel_rfl) (by kernel_rfl) ?_
                · exact ⟨by intro a w g hE H; exact Dr.is H rfl (Dr.run rfl (d_fieldAddr fld60_1 hE rfl)),
    by intro a w g hE H; exact Dr.is H rfl (Dr.run rfl (d_load sc3 hE rfl H 0 rfl rfl)),
    by intro a w g hE H; exact Dr.is H rfl (Dr.run rfl (d_move hE rfl)),
    by intro a w g hE H; exact Dr.is H rfl (Dr.run rfl (d_nilCheck hE rfl)),
    by intro a w g hE H; exact Dr.is H rfl (Dr.run rfl (d_fieldAddr fld195_0 hE rfl)),
    by intro a w g hE H; exact Dr.is H rfl (Dr.run rfl (d_load sc3 hE rfl H 1 rfl rfl)),
    by intro a w g hE H; exact Dr.is H rfl (Dr.run rfl (d_eql hE rfl rfl)),
    by intro a w g hE H; exact Dr.is H rfl (Dr.run rfl (d_move hE rfl)),
    by intro a w g hE H; exact Dr.is H rfl (Dr.rG rfl hE rfl rfl (decide_eq_false c459) (d_move hE rfl)),
    by intro a w g hE H; exact Dr.is H rfl (Dr.rG rfl hE rfl rfl (decide_eq_false c459) (d_nilCheck hE rfl)),
    by intro a w g hE H; exact Dr.is H rfl (Dr.rG rfl hE rfl rfl (decide_eq_false c459) (d_fieldAddr fld195_2 hE rfl)),
    by intro a w g hE H; exact Dr.is H rfl (Dr.rG rfl hE rfl rfl (decide_eq_false c459) (d_load sc158 hE rfl H 1 rfl rfl)),
    by intro a w g hE H; exact Dr.is H rfl (Dr.rG rfl hE rfl rfl (decide_eq_false c459) (d_fieldAddr fld60_1 hE rfl)),
    by intro a w g hE H; exact Dr.is H rfl (Dr.rG rfl hE rfl rfl (decide_eq_false c459) (d_load sc3 hE rfl H 0 rfl rfl)),
    by intro a w g hE H; exact Dr.is H rfl (Dr.rG rfl hE rfl rfl (decide_eq_false c459) (b_lookup1 (V := (fun x : Bool => (.bool x))) (zx := false) (c := cBool) (g := false) Try.underlying158 Try.underlying3 zv4 (fun _ _ _ h => by rw [h]; rfl) hE rfl rfl hx461 H 3 rfl)),
    by intro a w g hE H; exact Dr.is H rfl (Dr.run rfl (d_pF hE rfl (decide_eq_false c459) rfl)),
    trivial⟩
                · trivial
                · intro a w g hE H
                  have H : St z I w (Bl q453 60 [(.int .i64 x451.From), (.int .i64 x451.To), (.int .i64 x451.Cost)] :: Bl q0 195 [(.int .i64 a0_root), (.map (some q0_known)), (.map (some q0_done)), (.pointer (some (ad q0_h 0)))] :: MapR c_api_Route true q0_known mp338 :: MapR cBool false q0_done a0_done :: Bl q0_h 233 [v339] :: OwnSl c_api_Spot v339 l340 :: Bl q271 96 [(.int .i64 x269.To), (.int .i64 x269.Via), (.int .u64 x269.Cost)] :: r) := H
                  cases hm
                  have H := St.get H 6 rfl
                  have H := St.get H 6 rfl
                  have H := St.get H 6 rfl
                  have H := St.get H 6 rfl
                  have H := St.get H 6 rfl
                  have H := St.get H 6 rfl
                  exact ⟨hE.sub ⟨rfl, rfl, rfl, rfl, rfl, rfl, rfl, rfl, trivial⟩, H⟩
            · rintro a w ⟨hE, H⟩
              by_cases c463 : s458 = true
              · rw [if_pos c463] at hm
                refine cT hE rfl c463 ?_
                refine wp_exit ?_
                cases hm
                have H := St.del H 6
                exact ⟨v339, hE.sub ⟨rfl, rfl, rfl, rfl, rfl, rfl, trivial⟩, H⟩
              · rw [if_neg c463] at hm
                refine cF hE rfl (b_f c463) ?_
                refine wp_skip ?_
                refine wp_seq ?_
                refine wp_region_lit ?_
                refine s1 hE rfl (d_fieldAddr fld96_1 hE rfl) fun a hE => ?_
                refine s1 hE rfl (d_load sc3 hE rfl H 5 rfl rfl) fun a hE => ?_
                refine s1 hE rfl (d_assign hE rfl) fun a hE => ?_
                refine wpList_nil ?_
                refine wp_seq ?_
                refine wp_seq ?_
                refine wp_region_lit ?_
                refine s1 hE rfl (d_move hE rfl) fun a hE => ?_
                refine s1 hE rfl (d_move hE rfl) fun a hE => ?_
                refine s1 hE rfl (d_nilCheck hE rfl) fun a hE => ?_
                refine s1 hE rfl (d_fieldAddr fld195_0 hE rfl) fun a hE => ?_
                refine s1 hE rfl (d_load sc3 hE rfl H 0 rfl rfl) fun a hE => ?_
                refine s1 hE rfl (d_eql hE rfl rfl) fun a hE => ?_
                refine wpList_nil ?_
                obtain ⟨s466, hj466, hm⟩ := bnd hm
                refine cut2 (fun a w => Env a 61 [(0, (.pointer (some (ad q0 0)))), (2, (.int .i64 a2)), (6, (.pointer (some (ad q271 0)))), (8, (.pointer (some (ad q453 0)))), (9, (.int .i64 s466)), (16, u1), (17, (.int .i64 (a1.length : Int))), (18, (.int .i64 y341))] ∧ St z I w (Bl q0 195 [(.int .i64 a0_root), (.map (some q0_known)), (.map (some q0_done)), (.pointer (some (ad q0_h 0)))] :: MapR c_api_Route true q0_known mp338 :: MapR cBool false q0_done a0_done :: Bl q0_h 233 [v339] :: OwnSl c_api_Spot v339 l340 :: Bl q271 96 [(.int .i64 x269.To), (.int .i64 x269.Via), (.int .u64 x269.Cost)] :: Bl q453 60 [(.int .i64 x451.From), (.int .i64 x451.To), (.int .i64 x451.Cost)] :: r)) ?_ ?_
                · have hm := hj466
                  by_cases c467 : a2 = a0_root
                  · rw [if_pos c467] at hm
                    refine cT hE rfl (decide_eq_true c467) ?_
                    refine wp_region_lit ?_
                    refine s1 hE rfl (d_fieldAddr fld60_1 hE rfl) fun a hE => ?_
                    refine s1 hE rfl (d_load sc3 hE rfl H 6 rfl rfl) fun a hE => ?_
                    refine s1 hE rfl (d_assign hE rfl) fun a hE => ?_
                    refine wpList_nil ?_
                    cases hm
                    exact ⟨hE.sub ⟨rfl, rfl, rfl, rfl, rfl, rfl, rfl, rfl, trivial⟩, H⟩
                  · rw [if_neg c467] at hm
                    refine cF hE rfl (decide_eq_false c467) ?_
                    refine wp_skip ?_
                    cases hm
                    exact ⟨hE.sub ⟨rfl, rfl, rfl, rfl, rfl, rfl, rfl, rfl, trivial⟩, H⟩
                · rintro a w ⟨hE, H⟩
                  obtain ⟨x473, hc474, hm⟩ := bnd hm
                  obtain ⟨x475, hc476, hm⟩ := bnd hm
                  refine Dr.region (γ := Value) (pre := [[], [], [1], [], [], [4], [], [6], [6, 7], [4, 5, 6, 7, 8], [1, 2, 3, 4, 5, 6, 7, 8, 9], [0, 1, 2, 3, 4, 5, 6, 7, 8, 9, 10]]) (val := [some (.pointer (some (ad q0 0))), some (.pointer (some (ad q453 (0 + 1)))), some (.int .i64 x451.To), some (.int .i64 s466), some (.pointer (some (ad q271 (0 + 2)))), some (.int .u64 x269.Cost), some (.pointer (some (ad q453 (0 + 2)))), some (.int .i64 x451.Cost), some (.int .u64 (IntKind.u64.wrap x451.Cost)), some (.int .u64 x473), some (.agg #[(.int .i64 x451.To), (.int .i64 s466), (.int .u64 x473)]), none]) (eff := [11]) (mask := [[], [11]]) (keys := [[], [59]]) (src := [[.base 0], [.base 8], [.op 1], [.base 9], [.base 6], [.op 4], [.base 8], [.op 6], [.op 7], [.op 5, .op 8], [.op 2, .op 3, .op 9], [.op 0, .op 10]]) (z := z) (ef := fun p g => ([[], [(59, (.tuple #[]))]] : List (List (Nat × Value))).getD p []) (hi := fun _ _ => I) (rs := fun p g => ([Bl q0 195 [(.int .i64 a0_root), (.map (some q0_known)), (.map (some q0_done)), (.pointer (some (ad q0_h 0)))] :: MapR c_api_Route true q0_known mp338 :: MapR cBool false q0_done a0_done :: Bl q0_h 233 [v339] :: OwnSl c_api_Spot v339 l340 :: Bl q271 96 [(.int .i64 x269.To), (.int .i64 x269.Via), (.int .u64 x269.Cost)] :: Bl q453 60 [(.int .i64 x451.From), (.int .i64 x451.To), (.int .i64 x451.Cost)] :: r, Bl q0 195 [(.int .i64 a0_root), (.map (some q0_known)), (.map (some q0_done)), (.pointer (some (ad q0_h 0)))] :: MapR c_api_Route true q0_known x475.1 :: MapR cBool false q0_done a0_done :: Bl q0_h 233 [g] :: OwnSl c_api_Spot g x475.2 :: Bl q271 96 [(.int .i64 x269.To), (.int .i64 x269.Via), (.int .u64 x269.Cost)] :: Bl q453 60 [(.int .i64 x451.From), (.int .i64 x451.To), (.int .i64 x451.Cost)] :: r] : List (List Asn)).getD p []) [(0, 0), (1, 0), (2, 0), (3, 0), (4, 0), (5, 0), (6, 0), (7, 0), (8, 0), (9, 0), (10, 0)] [(0, 11, 1)] [0, 1, 2, 3, 4, 5, 6, 7, 8, 9, 10] 1 mo hE (undef) rfl H (by kernel_rfl) (by kernel_rfl) (fun p g => by rcases p with _ | _ | p <;> rfl) ?_ ?_ (by kernel_rfl) (by kernel_rfl) ?_
                  · exact ⟨by intro a w g hE H; obtain ⟨v477, rfl⟩ : ∃ x, x = g := ⟨g, rfl⟩; exact Dr.is H rfl (Dr.run rfl (d_move hE rfl)),
    by intro a w g hE H; obtain ⟨v477, rfl⟩ : ∃ x, x = g := ⟨g, rfl⟩; exact Dr.is H rfl (Dr.run rfl (d_fieldAddr fld60_1 hE rfl)),
    by intro a w g hE H; obtain ⟨v477, rfl⟩ : ∃ x, x = g := ⟨g, rfl⟩; exact Dr.is H rfl (Dr.run rfl (d_load sc3 hE rfl H 6 rfl rfl)),
    by intro a w g hE H; obtain ⟨v477, rfl⟩ : ∃ x, x = g := ⟨g, rfl⟩; exact Dr.is H rfl (Dr.run rfl (d_move hE rfl)),
    by intro a w g hE H; obtain ⟨v477, rfl⟩ : ∃ x, x = g := ⟨g, rfl⟩; exact Dr.is H rfl (Dr.run rfl (d_fieldAddr fld96_2 hE rfl)),
    by intro a w g hE H; obtain ⟨v477, rfl⟩ : ∃ x, x = g := ⟨g, rfl⟩; exact Dr.is H rfl (Dr.run rfl (d_load sc61 hE rfl H 5 rfl rfl)),
    by intro a w g hE H; obtain ⟨v477, rfl⟩ : ∃ x, x = g := ⟨g, rfl⟩; exact Dr.is H rfl (Dr.run rfl (d_fieldAddr fld60_2 hE rfl)),
    by intro a w g hE H; obtain ⟨v477, rfl⟩ : ∃ x, x = g := ⟨g, rfl⟩; exact Dr.is H rfl (Dr.run rfl (d_load sc3 hE rfl H 6 rfl rfl)),
    by intro a w g hE H; obtain ⟨v477, rfl⟩ : ∃ x, x = g := ⟨g, rfl⟩; exact Dr.is H rfl (Dr.run rfl (d_convert hE rfl (cv3_61 _))),
    by intro a w g hE H; obtain ⟨v477, rfl⟩ : ∃ x, x = g := ⟨g, rfl⟩; exact (Dr.run rfl (d_call c89 hE rfl (f89_ok x269.Cost (IntKind.u64.wrap x451.Cost) hc474  H))).mono fun v w' hR => by obtain ⟨rfl, H⟩ := hR; exact ⟨rfl, H⟩,
    by intro a w g hE H; obtain ⟨v477, rfl⟩ : ∃ x, x = g := ⟨g, rfl⟩; exact Dr.is H rfl (Dr.run rfl (d_build hE rfl (bld96_0In_1In_2In _ _ _))),
    trivial⟩
                  · exact ⟨by intro a w g hE hF H; obtain ⟨v477, rfl⟩ : ∃ x, x = g := ⟨g, rfl⟩; refine (Dr.run rfl (d_call c168 hE rfl (f168_ok k a0_root mp338 a0_done l340 (⟨x451.To, s466, x473⟩ : S_api_Route) hc476  H))).mono fun v w hR => ?_; obtain ⟨v477, hv_, H⟩ := hR; have hv_ := hv_.symm; subst hv_; exact ⟨v477, H, Dr.lkSub ⟨rfl, trivial⟩⟩,
    trivial⟩
                  · intro a w g hE H
                    obtain ⟨v477, rfl⟩ : ∃ x, x = g := ⟨g, rfl⟩
                    have H : St z I w (Bl q0 195 [(.int .i64 a0_root), (.map (some q0_known)), (.map (some q0_done)), (.pointer (some (ad q0_h 0)))] :: MapR c_api_Route true q0_known x475.1 :: MapR cBool false q0_done a0_done :: Bl q0_h 233 [v477] :: OwnSl c_api_Spot v477 x475.2 :: Bl q271 96 [(.int .i64 x269.To), (.int .i64 x269.Via), (.int .u64 x269.Cost)] :: Bl q453 60 [(.int .i64 x451.From), (.int .i64 x451.To), (.int .i64 x451.Cost)] :: r) := H
                    cases hm
                    have H := St.del H 6
                    exact ⟨v477, hE.sub ⟨rfl, rfl, rfl, rfl, rfl, rfl, trivial⟩, H⟩
          · rintro a w ⟨v445, hE, H⟩
            refine wp_region_lit ?_
            refine s1 hE rfl (d_add hE rfl rfl) fun a hE => ?_
            refine s1 hE rfl (d_move hE rfl) fun a hE => ?_
            refine wpList_nil ?_
            exact ⟨k, Nat.lt_succ_self k, s447.1, s447.2, IntKind.i64.wrap (y341 + 1), hm, v445, hE.sub ⟨rfl, rfl, rfl, rfl, rfl, rfl, trivial⟩, H⟩
        · rw [if_neg c413] at hm
          refine cF hE rfl (decide_eq_false c413) ?_
          refine wp_exit ?_
          cases hm
          have H := St.del H 5
          exact ⟨v339, hE.sub trivial, H⟩
    · have H := St.get H 5 rfl
      have H := St.get H 5 rfl
      have H := St.get H 5 rfl
      have H := St.get H 5 rfl
      have H := St.get H 5 rfl
      exact ⟨a0_known, a0_h_l, 0, hj411, u0_h_l, hE.sub ⟨rfl, rfl, rfl, rfl, rfl, rfl, trivial⟩, H⟩
  · rintro a w ⟨v409, hE, H⟩
    cases hm
    exact end0 rfl hE  ⟨_, rfl, v409, rfl, H⟩
def m58_l0 (a0 : List S_api_Arc) : Nat → (List (Int × (List S_api_Arc))) → Int → Option (List (Int × (List S_api_Arc)))
  | 0, _, _ => none
  | k + 1, mp694, y696 => if y696 < (a0.length : Int) then (Option.bind (rdx a0 y696) fun x779 => Option.bind (mgetO [] mp694 x779.From) fun x791 => Option.bind (appd 5864062014805 x791 ([x779])) fun l794 => Option.bind (some (mput mp694 x779.From l794)) fun mp797 => m58_l0 a0 k mp797 (IntKind.i64.wrap (y696 + 1))) else (some mp694)
def m58_l1 (a1 : Int) (s749 : (List (Int × (List S_api_Arc)))) : Nat → (List (Int × S_api_Route)) → (List (Int × Bool)) → (List S_api_Spot) → Int → Int → Bool → Option ((List (Int × S_api_Route)) × (List (Int × Bool)) × (List S_api_Spot))
  | 0, _, _, _, _, _, _ => none
  | k + 1, mp912, mp913, l915, y917, y918, b919 => if b919 = true then (Option.bind (some ((mget mp913 y918).getD false)) fun x1056 => Option.bind (α := (List (Int × S_api_Route)) × (List (Int × Bool)) × (List S_api_Spot)) (if x1056 = true then (some (mp912, mp913, l915)) else (Option.bind (some (mput mp913 y918 true)) fun mp1081 => Option.bind (mgetO [] s749 y918) fun x1088 => Option.bind (m124 k a1 mp912 mp1081 l915 x1088 y918) fun x1090 => some (x1090.1, mp1081, x1090.2))) fun s1077 => Option.bind (m123 k s1077.2.2) fun x1098 => m58_l1 a1 s749 k s1077.1 s1077.2.1 x1098.2.2 x1098.1.Cost x1098.1.Node x1098.2.1) else (some (mp912, mp913, l915))
def m58_l2 (l1106 : List Int) (s1012 : (List (Int × S_api_Route)) × (List (Int × Bool)) × (List S_api_Spot)) : Nat → (List S_api_Route) → Int → Option (List S_api_Route)
  | 0, _, _ => none
  | k + 1, l1144, y1145 => if y1145 < (l1106.length : Int) then (Option.bind (rdx l1106 y1145) fun x1203 => Option.bind (some ((mget s1012.1 x1203).getD (⟨0, 0, 0⟩ : S_api_Route))) fun x1211 => Option.bind (appd 5864062014805 l1144 ([x1211])) fun l1214 => m58_l2 l1106 s1012 k l1214 (IntKind.i64.wrap (y1145 + 1))) else (some l1144)
def m58 (k : Nat) (a0 : List S_api_Arc) (a1 : Int) : Option (List S_api_Route) := Option.bind (m98 k a0) fun x638 => if x638 = 0 then (Option.bind (m58_l0 a0 k [] 0) fun s749 => Option.bind (m122 k ([(⟨0, a1⟩ : S_api_Spot)])) fun x811 => Option.bind (m123 k x811) fun x820 => Option.bind (m58_l1 a1 s749 k [] [] x820.2.2 x820.1.Cost x820.1.Node x820.2.1) fun s1012 => Option.bind (skeys s1012.1) fun l1106 => Option.bind (m58_l2 l1106 s1012 k [] 0) fun s1182 => some s1182) else (some [])
set_option maxRecDepth 20000 in
set_option maxHeartbeats 4000000 in
theorem f58_ok (k : Nat) {u0 : Value} (a0 : List S_api_Arc) (a1 : Int) {res : (List S_api_Route)} (hm : m58 k a0 a1 = some res) {z w : World} {I : Hp} {r : List Asn} (hr0 : Rd c_api_Arc I r u0 a0) (hz : z.drawn = 0) (H : St z I w (r)) :
    Calls Try.prog 58 #[u0, (.int .i64 a1)] w (Rt fun v w' => ∃ v634 : Value, v = v634 ∧ St z I w' (OwnSl c_api_Route v634 res :: r)) := by
  unfold m58 at hm
  refine enter (args := [u0, (.int .i64 a1)]) Try.func58 rfl Try.ntmps58 rfl fun a hE => ?_
  refine wp_seq ?_
  refine wp_region_lit ?_
  refine s1 hE rfl (d_assign hE rfl) fun a hE => ?_
  refine wpList_nil ?_
  refine wp_seq ?_
  refine wp_seq ?_
  refine wp_region_lit ?_
  refine s1 hE rfl (d_move hE rfl) fun a hE => ?_
  obtain ⟨x638, hc639, hm⟩ := bnd hm
  refine s2 hE rfl (d_call c98 hE rfl (f98_ok k a0 hc639 hr0 H)) fun a v w hR hE => ?_
  obtain ⟨hv_, H⟩ := hR
  have hv_ := hv_.symm
  subst hv_
  refine s1 hE rfl (d_neq hE rfl rfl) fun a hE => ?_
  refine wpList_nil ?_
  by_cases c641 : x638 = 0
  · rw [if_pos c641] at hm
    refine cF hE rfl (not_f (decide_eq_true c641)) ?_
    refine wp_skip ?_
    refine wp_seq ?_
    refine wp_region_lit ?_
    refine s2 hE rfl (d_makeMapO (c := c_api_Arc) H) fun a v w hR hE => ?_
    obtain ⟨q643, rfl, H⟩ := hR
    refine s1 hE rfl (d_assign hE rfl) fun a hE => ?_
    refine wpList_nil ?_
    refine wp_seq ?_
    refine wp_seq ?_
    refine wp_region_lit ?_
    refine s1 hE rfl (d_move hE rfl) fun a hE => ?_
    refine s1 hE rfl (d_lenS Try.underlying55 hE rfl H (Rd.cons hr0)) fun a hE => ?_
    refine s1 hE rfl (d_move hE rfl) fun a hE => ?_
    refine wpList_nil ?_
    obtain ⟨s749, hj749, hm⟩ := bnd hm
    refine cut2 (fun a w => ∃ g747 : List Value, Env a 106 [(1, (.int .i64 a1)), (5, (.map (some q643)))] ∧ St z I w (MapO c_api_Arc q643 g747 s749 [] :: r)) ?_ ?_
    · refine wp_block ?_
      refine loopI (fun k a w => ∃ mp694 : List (Int × (List S_api_Arc)), ∃ y696 : Int, m58_l0 a0 k mp694 y696 = some s749 ∧ ∃ g695 : List Value, Env a 106 [(1, (.int .i64 a1)), (5, (.map (some q643))), (18, u0), (19, (.int .i64 (a0.length : Int))), (20, (.int .i64 y696))] ∧ St z I w (MapO c_api_Arc q643 g695 mp694 [] :: r)) ?_ k _ _ ?_
      · rintro k a w ⟨mp694, y696, hm, g695, hE, H⟩
        cases k with
        | zero => rw [m58_l0] at hm; cases hm
        | succ k =>
          rw [m58_l0] at hm
          refine wp_seq ?_
          refine wp_region_lit ?_
          refine s1 hE rfl (d_lss hE rfl rfl) fun a hE => ?_
          refine wpList_nil ?_
          refine wp_seq ?_
          by_cases c751 : y696 < (a0.length : Int)
          · rw [if_pos c751] at hm
            refine cT hE rfl (decide_eq_true c751) ?_
            refine wp_skip ?_
            refine wp_seq ?_
            refine wp_block ?_
            refine wp_seq ?_
            refine wp_region_lit ?_
            obtain ⟨x779, hx780, hm⟩ := bnd hm
            refine s1 hE rfl (d_indexS sl55 hE rfl rfl H (Rd.cons hr0) hx780) fun a hE => ?_
            refine s1 hE rfl (d_loadSA ag60 rfl hE rfl H (Rd.cons hr0) hx780 (fun _ _ e => e)) fun a hE => ?_
            refine s2 hE rfl (d_alloc al60 H) fun a v w hR hE => ?_
            obtain ⟨q781, rfl, H⟩ := hR
            refine s3 (d_store sz60 hE rfl rfl rfl (oneAll rfl) H rfl) fun v w hR => ?_
            have H : St z I w (Bl q781 60 [(.int .i64 x779.From), (.int .i64 x779.To), (.int .i64 x779.Cost)] :: MapO c_api_Arc q643 g695 mp694 [] :: r) := hR
            refine wpList_nil ?_
            obtain ⟨x791, hx792, hm⟩ := bnd hm
            obtain ⟨l794, ha795, hm⟩ := bnd hm
            obtain ⟨mp797, hl798, hm⟩ := bnd hm
            refine Dr.region (γ := Value × Value × List Value) (pre := [[], [], [1], [], [], [4], [3, 4, 5], [], [7], [3, 4, 5, 6, 7, 8], [0, 1, 2, 3, 4, 5, 6, 7, 8, 9]]) (val := [some (.map (some q643)), some (.pointer (some (ad q781 (0 + 0)))), some (.int .i64 x779.From), some (.map (some q643)), some (.pointer (some (ad q781 (0 + 0)))), some (.int .i64 x779.From), some (vget g695 mp694 x779.From), some (.agg #[(.int .i64 x779.From), (.int .i64 x779.To), (.int .i64 x779.Cost)]), none, none, none]) (eff := [8, 9, 10]) (mask := [[], [8], [8, 9], [8, 9, 10]]) (keys := [[], [32], [33, 32], [33, 32]]) (src := [[.base 5], [.base 7], [.op 1], [.base 5], [.base 7], [.op 4], [.op 3, .op 5], [.base 7], [.op 7], [.op 6], [.op 0, .op 2]]) (z := z) (ef := fun p g => ([[], [(32, g.1)], [(33, g.2.1), (32, g.1)], [(33, g.2.1), (32, g.1)]] : List (List (Nat × Value))).getD p []) (hi := fun _ _ => I) (rs := fun p g => ([Bl q781 60 [(.int .i64 x779.From), (.int .i64 x779.To), (.int .i64 x779.Cost)] :: MapO c_api_Arc q643 g695 mp694 [] :: r, OwnSl c_api_Arc g.1 ([x779]) :: Bl q781 60 [(.int .i64 x779.From), (.int .i64 x779.To), (.int .i64 x779.Cost)] :: MapO c_api_Arc q643 g695 mp694 [] :: r, OwnSl c_api_Arc g.2.1 l794 :: MapO c_api_Arc q643 g695 mp694 (x779.From :: []) :: Bl q781 60 [(.int .i64 x779.From), (.int .i64 x779.To), (.int .i64 x779.Cost)] :: r, MapO c_api_Arc q643 g.2.2 mp797 [] :: Bl q781 60 [(.int .i64 x779.From), (.int .i64 x779.To), (.int .i64 x779.Cost)] :: r] : List (List Asn)).getD p []) [(0, 0), (1, 0), (2, 0), (3, 0), (4, 0), (5, 0), (6, 0), (7, 0), (0, 1), (1, 1), (2, 1), (3, 1), (4, 1), (5, 1), (6, 1), (0, 2), (1, 2), (2, 2)] [(0, 8, 1), (1, 9, 2), (2, 10, 3)] [0, 1, 2, 3, 4, 5, 6, 7] 3 mo hE (undef, undef, []) rfl H (by kernel_rfl) (by kernel_rfl) (fun p g => by rcases p with _ | _ | _ | _ | p <;> rfl) ?_ ?_ (by kernel_rfl) (by kernel_rfl) ?_
            · exact ⟨by intro a w g hE H; obtain ⟨v793, v796, g799⟩ := g; exact Dr.is H rfl (Dr.run rfl (d_move hE rfl)),
    by intro a w g hE H; obtain ⟨v793, v796, g799⟩ := g; exact Dr.is H rfl (Dr.run rfl (d_fieldAddr fld60_0 hE rfl)),
    by intro a w g hE H; obtain ⟨v793, v796, g799⟩ := g; exact Dr.is H rfl (Dr.run rfl (d_load sc3 hE rfl H 0 rfl rfl)),
    by intro a w g hE H; obtain ⟨v793, v796, g799⟩ := g; exact Dr.is H rfl (Dr.run rfl (d_move hE rfl)),
    by intro a w g hE H; obtain ⟨v793, v796, g799⟩ := g; exact Dr.is H rfl (Dr.run rfl (d_fieldAddr fld60_0 hE rfl)),
    by intro a w g hE H; obtain ⟨v793, v796, g799⟩ := g; exact Dr.is H rfl (Dr.run rfl (d_load sc3 hE rfl H 0 rfl rfl)),
    by intro a w g hE H; obtain ⟨v793, v796, g799⟩ := g; exact Dr.is H rfl (Dr.run rfl (d_lookO1 Try.underlying187 Try.underlying3 zv55 hE rfl rfl H 1 rfl)),
    by intro a w g hE H; obtain ⟨v793, v796, g799⟩ := g; exact Dr.is H rfl (Dr.run rfl (d_loadA ag60 hE rfl H 0 rfl rfl)),
    by intro a w g hE H; obtain ⟨v793, v796, g799⟩ := g; exact Dr.is H rfl (Dr.run rfl (d_move hE rfl)),
    by intro a w g hE H; obtain ⟨v793, v796, g799⟩ := g; exact Dr.is H rfl (Dr.run rfl (d_fieldAddr fld60_0 hE rfl)),
    by intro a w g hE H; obtain ⟨v793, v796, g799⟩ := g; exact Dr.is H rfl (Dr.run rfl (d_load sc3 hE rfl H 1 rfl rfl)),
    by intro a w g hE H; obtain ⟨v793, v796, g799⟩ := g; exact Dr.is H rfl (Dr.run rfl (d_move hE rfl)),
    by intro a w g hE H; obtain ⟨v793, v796, g799⟩ := g; exact Dr.is H rfl (Dr.run rfl (d_fieldAddr fld60_0 hE rfl)),
    by intro a w g hE H; obtain ⟨v793, v796, g799⟩ := g; exact Dr.is H rfl (Dr.run rfl (d_load sc3 hE rfl H 1 rfl rfl)),
    by intro a w g hE H; obtain ⟨v793, v796, g799⟩ := g; exact Dr.is H rfl (Dr.run rfl (d_lookO1 Try.underlying187 Try.underlying3 zv55 hE rfl rfl H 2 rfl)),
    by intro a w g hE H; obtain ⟨v793, v796, g799⟩ := g; exact Dr.is H rfl (Dr.run rfl (d_move hE rfl)),
    by intro a w g hE H; obtain ⟨v793, v796, g799⟩ := g; exact Dr.is H rfl (Dr.run rfl (d_fieldAddr fld60_0 hE rfl)),
    by intro a w g hE H; obtain ⟨v793, v796, g799⟩ := g; exact Dr.is H rfl (Dr.run rfl (d_load sc3 hE rfl H 2 rfl rfl)),
    trivial⟩
            · exact ⟨by intro a w g hE hF H; obtain ⟨v793, v796, g799⟩ := g; refine (Dr.run rfl (d_lit (c := c_api_Arc) (xs := [x779]) hE rfl (lit55_1 _ _ _) rfl rfl (fun J h iJ s => rowsC (cs := [(.int .i64 x779.From), (.int .i64 x779.To), (.int .i64 x779.Cost)]) rfl (rows0)) H)).mono fun v w hR => ?_; obtain ⟨v793, rfl⟩ : ∃ x, x = v := ⟨v, rfl⟩; have H : St z I w (OwnSl c_api_Arc v793 ([x779]) :: Bl q781 60 [(.int .i64 x779.From), (.int .i64 x779.To), (.int .i64 x779.Cost)] :: MapO c_api_Arc q643 g695 mp694 [] :: r) := hR; exact ⟨(v793, v796, g799), H, Dr.lkSub ⟨rfl, trivial⟩⟩,
    by intro a w g hE hF H; obtain ⟨v793, v796, g799⟩ := g; have hE := Dr.env_both hE hF; have H := St.get H 2 rfl; have H := St.mapTake hx792 H; have H : St z I w (OwnSl c_api_Arc (vget g695 mp694 x779.From) x791 :: MapO c_api_Arc q643 g695 mp694 (x779.From :: []) :: OwnSl c_api_Arc v793 ([x779]) :: Bl q781 60 [(.int .i64 x779.From), (.int .i64 x779.To), (.int .i64 x779.Cost)] :: r) := H; have H := St.get H 2 rfl; have H := St.get H 1 rfl; have H : St z I w (OwnSl c_api_Arc (vget g695 mp694 x779.From) x791 :: OwnSl c_api_Arc v793 ([x779]) :: MapO c_api_Arc q643 g695 mp694 (x779.From :: []) :: Bl q781 60 [(.int .i64 x779.From), (.int .i64 x779.To), (.int .i64 x779.Cost)] :: r) := H; refine (Dr.run rfl (d_appendO (lim := 5864062014805) el55 (by decide) (by decide) hE rfl rfl H ha795)).mono fun v w hR => ?_; obtain ⟨v796, rfl⟩ : ∃ x, x = v := ⟨v, rfl⟩; have H : St z I w (OwnSl c_api_Arc v796 l794 :: MapO c_api_Arc q643 g695 mp694 (x779.From :: []) :: Bl q781 60 [(.int .i64 x779.From), (.int .i64 x779.To), (.int .i64 x779.Cost)] :: r) := hR; exact ⟨(v793, v796, g799), H, Dr.lkSub ⟨rfl, rfl, trivial⟩⟩,
    by intro a w g hE hF H; obtain ⟨v793, v796, g799⟩ := g; have hE := Dr.env_both hE hF; have H := St.get H 1 rfl; have H := St.get H 1 rfl; refine (Dr.run rfl (d_putO Try.underlying187 Try.underlying3 hE rfl rfl rfl hx792 hl798 H)).mono fun v w hR => ?_; obtain ⟨g799, H⟩ := hR; have H : St z I w (MapO c_api_Arc q643 g799 mp797 [] :: Bl q781 60 [(.int .i64 x779.From), (.int .i64 x779.To), (.int .i64 x779.Cost)] :: r) := H; exact ⟨(v793, v796, g799), H, Dr.lkSub ⟨rfl, rfl, trivial⟩⟩,
    trivial⟩
            · intro a w g hE H
              obtain ⟨v793, v796, g799⟩ := g
              have H : St z I w (MapO c_api_Arc q643 g799 mp797 [] :: Bl q781 60 [(.int .i64 x779.From), (.int .i64 x779.To), (.int .i64 x779.Cost)] :: r) := H
              refine wp_region_lit ?_
              refine s1 hE rfl (d_add hE rfl rfl) fun a hE => ?_
              refine s1 hE rfl (d_move hE rfl) fun a hE => ?_
              refine wpList_nil ?_
              have H := St.del H 1
              exact ⟨k, Nat.lt_succ_self k, mp797, IntKind.i64.wrap (y696 + 1), hm, g799, hE.sub ⟨rfl, rfl, rfl, rfl, rfl, trivial⟩, H⟩
          · rw [if_neg c751] at hm
            refine cF hE rfl (decide_eq_false c751) ?_
            refine wp_exit ?_
            cases hm
            exact ⟨g695, hE.sub ⟨rfl, rfl, trivial⟩, H⟩
      · exact ⟨[], 0, hj749, [], hE.sub ⟨rfl, rfl, rfl, rfl, rfl, trivial⟩, H⟩
    · rintro a w ⟨g747, hE, H⟩
      refine wp_seq ?_
      refine wp_region_lit ?_
      refine s1 hE rfl (d_move hE rfl) fun a hE => ?_
      refine s2 hE rfl (d_makeMap (c := c_api_Route) (g := true) H) fun a v w hR hE => ?_
      obtain ⟨q808, rfl, H⟩ := hR
      refine s2 hE rfl (d_makeMap (c := cBool) (g := false) H) fun a v w hR hE => ?_
      obtain ⟨q809, rfl, H⟩ := hR
      refine s1 hE rfl (d_move hE rfl) fun a hE => ?_
      refine s1 hE rfl (d_build hE rfl (bld193_1In _)) fun a hE => ?_
      refine s2 hE rfl (d_lit (c := c_api_Spot) (xs := [(⟨0, a1⟩ : S_api_Spot)]) hE rfl (lit231_1 _ _) rfl rfl (fun J h iJ s => rowsC (cs := [(.int .u64 0), (.int .i64 a1)]) rfl (rows0)) H) fun a v w hR hE => ?_
      obtain ⟨v810, rfl⟩ : ∃ x, x = v := ⟨v, rfl⟩
      have H : St z I w (OwnSl c_api_Spot v810 ([(⟨0, a1⟩ : S_api_Spot)]) :: MapR cBool false q809 [] :: MapR c_api_Route true q808 [] :: MapO c_api_Arc q643 g747 s749 [] :: r) := hR
      obtain ⟨x811, hc812, hm⟩ := bnd hm
      refine s2 hE rfl (d_call c122 hE rfl (f122_ok k ([(⟨0, a1⟩ : S_api_Spot)]) hc812 (Rd.own 0 rfl) H)) fun a v w hR hE => ?_
      obtain ⟨q813, v814, hv_, H⟩ := hR
      have hv_ := hv_.symm
      subst hv_
      refine s1 hE rfl (d_build hE rfl (bld195_0In_1Ma_2Ma_3Pt _ _ _ _)) fun a hE => ?_
      refine s2 hE rfl (d_box hE rfl H) fun a v w hR hE => ?_
      obtain ⟨q815, rfl, H⟩ := hR
      have H : St z I w (Bl q815 195 [(.int .i64 a1), (.map (some q808)), (.map (some q809)), (.pointer (some (ad q813 0)))] :: Bl q813 233 [v814] :: OwnSl c_api_Spot v814 x811 :: OwnSl c_api_Spot v810 ([(⟨0, a1⟩ : S_api_Spot)]) :: MapR cBool false q809 [] :: MapR c_api_Route true q808 [] :: MapO c_api_Arc q643 g747 s749 [] :: r) := H
      refine s1 hE rfl (d_assign hE rfl) fun a hE => ?_
      refine wpList_nil ?_
      refine wp_seq ?_
      refine wp_seq ?_
      refine wp_region_lit ?_
      refine s1 hE rfl (d_move hE rfl) fun a hE => ?_
      refine s1 hE rfl (d_nilCheck hE rfl) fun a hE => ?_
      refine s1 hE rfl (d_fieldAddr fld195_3 hE rfl) fun a hE => ?_
      refine s1 hE rfl (d_load sc190 hE rfl H 0 rfl rfl) fun a hE => ?_
      obtain ⟨x820, hc821, hm⟩ := bnd hm
      have H := St.get H 2 rfl
      have H := St.get H 2 rfl
      have H : St z I w (Bl q813 233 [v814] :: OwnSl c_api_Spot v814 x811 :: Bl q815 195 [(.int .i64 a1), (.map (some q808)), (.map (some q809)), (.pointer (some (ad q813 0)))] :: OwnSl c_api_Spot v810 ([(⟨0, a1⟩ : S_api_Spot)]) :: MapR cBool false q809 [] :: MapR c_api_Route true q808 [] :: MapO c_api_Arc q643 g747 s749 [] :: r) := H
      refine s2 hE rfl (d_call c123 hE rfl (f123_ok k x811 hc821  H)) fun a v w hR hE => ?_
      obtain ⟨v822, hv_, H⟩ := hR
      have hv_ := hv_.symm
      subst hv_
      refine s1 hE rfl (d_move hE rfl) fun a hE => ?_
      refine s1 hE rfl (d_extract hE rfl rfl) fun a hE => ?_
      refine s1 hE rfl (d_extract hE rfl rfl) fun a hE => ?_
      refine s2 hE rfl (d_alloc al193 H) fun a v w hR hE => ?_
      obtain ⟨q823, rfl, H⟩ := hR
      refine s3 (d_store sz193 hE rfl rfl rfl (oneAll rfl) H rfl) fun v w hR => ?_
      have H : St z I w (Bl q823 193 [(.int .u64 x820.1.Cost), (.int .i64 x820.1.Node)] :: Bl q813 233 [v822] :: OwnSl c_api_Spot v822 x820.2.2 :: Bl q815 195 [(.int .i64 a1), (.map (some q808)), (.map (some q809)), (.pointer (some (ad q813 0)))] :: OwnSl c_api_Spot v810 ([(⟨0, a1⟩ : S_api_Spot)]) :: MapR cBool false q809 [] :: MapR c_api_Route true q808 [] :: MapO c_api_Arc q643 g747 s749 [] :: r) := hR
      refine s1 hE rfl (d_assign hE rfl) fun a hE => ?_
      refine wpList_nil ?_
      obtain ⟨s1012, hj1012, hm⟩ := bnd hm
      refine cut2 (fun a w => ∃ v1010 : Value, Env a 106 [(8, (.pointer (some (ad q815 0))))] ∧ St z I w (Bl q815 195 [(.int .i64 a1), (.map (some q808)), (.map (some q809)), (.pointer (some (ad q813 0)))] :: MapR c_api_Route true q808 s1012.1 :: MapR cBool false q809 s1012.2.1 :: Bl q813 233 [v1010] :: OwnSl c_api_Spot v1010 s1012.2.2 :: r)) ?_ ?_
      · refine wp_block ?_
        refine loopI (fun k a w => ∃ mp912 : List (Int × S_api_Route), ∃ mp913 : List (Int × Bool), ∃ l915 : List S_api_Spot, ∃ y917 : Int, ∃ y918 : Int, ∃ b919 : Bool, m58_l1 a1 s749 k mp912 mp913 l915 y917 y918 b919 = some s1012 ∧ ∃ v914 : Value, ∃ q916 : Nat, Env a 106 [(5, (.map (some q643))), (8, (.pointer (some (ad q815 0)))), (9, (.pointer (some (ad q916 0)))), (10, (.bool b919))] ∧ St z I w (MapO c_api_Arc q643 g747 s749 [] :: Bl q815 195 [(.int .i64 a1), (.map (some q808)), (.map (some q809)), (.pointer (some (ad q813 0)))] :: MapR c_api_Route true q808 mp912 :: MapR cBool false q809 mp913 :: Bl q813 233 [v914] :: OwnSl c_api_Spot v914 l915 :: Bl q916 193 [(.int .u64 y917), (.int .i64 y918)] :: r)) ?_ k _ _ ?_
        · rintro k a w ⟨mp912, mp913, l915, y917, y918, b919, hm, v914, q916, hE, H⟩
          cases k with
          | zero => rw [m58_l1] at hm; cases hm
          | succ k =>
            rw [m58_l1] at hm
            refine wp_seq ?_
            refine wp_seq ?_
            refine wp_region_lit ?_
            refine s1 hE rfl (d_move hE rfl) fun a hE => ?_
            refine wpList_nil ?_
            by_cases c1014 : b919 = true
            · rw [if_pos c1014] at hm
              refine cT hE rfl c1014 ?_
              refine wp_skip ?_
              refine wp_seq ?_
              refine wp_block ?_
              refine wp_seq ?_
              obtain ⟨x1056, hx1057, hm⟩ := bnd hm
              refine Dr.region (γ := Unit) (pre := [[], [0], [0, 1], [0, 1, 2], [], [4], [0, 1, 2, 3, 4, 5], [0, 1, 2, 3, 4, 5, 6]]) (val := [some (.pointer (some (ad q815 0))), some (.pointer (some (ad q815 0))), some (.pointer (some (ad q815 (0 + 2)))), some (.map (some q809)), some (.pointer (some (ad q916 (0 + 1)))), some (.int .i64 y918), some (.bool x1056), some (.bool (!x1056))]) (eff := []) (mask := [[]]) (keys := [[]]) (src := [[.base 8], [.op 0], [.op 1], [.op 2], [.base 9], [.op 4], [.op 3, .op 5], [.op 6]]) (z := z) (ef := fun p g => ([[]] : List (List (Nat × Value))).getD p []) (hi := fun _ _ => I) (rs := fun p g => ([MapO c_api_Arc q643 g747 s749 [] :: Bl q815 195 [(.int .i64 a1), (.map (some q808)), (.map (some q809)), (.pointer (some (ad q813 0)))] :: MapR c_api_Route true q808 mp912 :: MapR cBool false q809 mp913 :: Bl q813 233 [v914] :: OwnSl c_api_Spot v914 l915 :: Bl q916 193 [(.int .u64 y917), (.int .i64 y918)] :: r] : List (List Asn)).getD p []) [(0, 0), (1, 0), (2, 0), (3, 0), (4, 0), (5, 0), (6, 0), (7, 0)] [] [0, 1, 2, 3, 4, 5, 6, 7] 0 mo hE () rfl H (by kernel_rfl) (by kernel_rfl) (fun p g => by cases p <;> rfl) ?_ ?_ (by kernel_rfl) (by kernel_rfl) ?_
              · exact ⟨by intro a w g hE H; exact Dr.is H rfl (Dr.run rfl (d_move hE rfl)),
    by intro a w g hE H; exact Dr.is H rfl (Dr.run rfl (d_nilCheck hE rfl)),
    by intro a w g hE H; exact Dr.is H rfl (Dr.run rfl (d_fieldAddr fld195_2 hE rfl)),
    by intro a w g hE H; exact Dr.is H rfl (Dr.run rfl (d_load sc158 hE rfl H 1 rfl rfl)),
    by intro a w g hE H; exact Dr.is H rfl (Dr.run rfl (d_fieldAddr fld193_1 hE rfl)),
    by intro a w g hE H; exact Dr.is H rfl (Dr.run rfl (d_load sc3 hE rfl H 6 rfl rfl)),
    by intro a w g hE H; exact Dr.is H rfl (Dr.run rfl (b_lookup1 (V := (fun x : Bool => (.bool x))) (zx := false) (c := cBool) (g := false) Try.underlying158 Try.underlying3 zv4 (fun _ _ _ h => by rw [h]; rfl) hE rfl rfl hx1057 H 3 rfl)),
    by intro a w g hE H; exact Dr.is H rfl (Dr.run rfl (d_not hE rfl)),
    trivial⟩
              · trivial
              · intro a w g hE H
                have H : St z I w (MapO c_api_Arc q643 g747 s749 [] :: Bl q815 195 [(.int .i64 a1), (.map (some q808)), (.map (some q809)), (.pointer (some (ad q813 0)))] :: MapR c_api_Route true q808 mp912 :: MapR cBool false q809 mp913 :: Bl q813 233 [v914] :: OwnSl c_api_Spot v914 l915 :: Bl q916 193 [(.int .u64 y917), (.int .i64 y918)] :: r) := H
                obtain ⟨s1077, hj1077, hm⟩ := bnd hm
                refine cut2 (fun a w => ∃ v1075 : Value, Env a 106 [(5, (.map (some q643))), (8, (.pointer (some (ad q815 0)))), (9, (.pointer (some (ad q916 0))))] ∧ St z I w (MapO c_api_Arc q643 g747 s749 [] :: Bl q815 195 [(.int .i64 a1), (.map (some q808)), (.map (some q809)), (.pointer (some (ad q813 0)))] :: MapR c_api_Route true q808 s1077.1 :: MapR cBool false q809 s1077.2.1 :: Bl q813 233 [v1075] :: OwnSl c_api_Spot v1075 s1077.2.2 :: Bl q916 193 [(.int .u64 y917), (.int .i64 y918)] :: r)) ?_ ?_
                · have hm := hj1077
                  by_cases c1078 : x1056 = true
                  · rw [if_pos c1078] at hm
                    refine cF hE rfl (not_f c1078) ?_
                    refine wp_skip ?_
                    cases hm
                    exact ⟨v914, hE.sub ⟨rfl, rfl, rfl, trivial⟩, H⟩
                  · rw [if_neg c1078] at hm
                    refine cT hE rfl (not_t (b_f c1078)) ?_
                    refine wp_seq ?_
                    obtain ⟨mp1081, hl1082, hm⟩ := bnd hm
                    refine Dr.region (γ := Unit) (pre := [[], [0], [0, 1], [0, 1, 2], [], [4], [0, 1, 2, 3, 4, 5]]) (val := [some (.pointer (some (ad q815 0))), some (.pointer (some (ad q815 0))), some (.pointer (some (ad q815 (0 + 2)))), some (.map (some q809)), some (.pointer (some (ad q916 (0 + 1)))), some (.int .i64 y918), none]) (eff := [6]) (mask := [[], [6]]) (keys := [[], []]) (src := [[.base 8], [.op 0], [.op 1], [.op 2], [.base 9], [.op 4], [.op 3, .op 5]]) (z := z) (ef := fun p g => ([[], []] : List (List (Nat × Value))).getD p []) (hi := fun _ _ => I) (rs := fun p g => ([MapO c_api_Arc q643 g747 s749 [] :: Bl q815 195 [(.int .i64 a1), (.map (some q808)), (.map (some q809)), (.pointer (some (ad q813 0)))] :: MapR c_api_Route true q808 mp912 :: MapR cBool false q809 mp913 :: Bl q813 233 [v914] :: OwnSl c_api_Spot v914 l915 :: Bl q916 193 [(.int .u64 y917), (.int .i64 y918)] :: r, MapR cBool false q809 mp1081 :: MapO c_api_Arc q643 g747 s749 [] :: Bl q815 195 [(.int .i64 a1), (.map (some q808)), (.map (some q809)), (.pointer (some (ad q813 0)))] :: MapR c_api_Route true q808 mp912 :: Bl q813 233 [v914] :: OwnSl c_api_Spot v914 l915 :: Bl q916 193 [(.int .u64 y917), (.int .i64 y918)] :: r] : List (List Asn)).getD p []) [(0, 0), (1, 0), (2, 0), (3, 0), (4, 0), (5, 0)] [(0, 6, 1)] [0, 1, 2, 3, 4, 5] 1 mo hE () rfl H (by kernel_rfl) (by kernel_rfl) (fun p g => by rcases p with _ | _ | p <;> rfl) ?_ ?_ (by kernel_rfl) (by kernel_rfl) ?_
                    · exact ⟨by intro a w g hE H; exact Dr.is H rfl (Dr.run rfl (d_move hE rfl)),
    by intro a w g hE H; exact Dr.is H rfl (Dr.run rfl (d_nilCheck hE rfl)),
    by intro a w g hE H; exact Dr.is H rfl (Dr.run rfl (d_fieldAddr fld195_2 hE rfl)),
    by intro a w g hE H; exact Dr.is H rfl (Dr.run rfl (d_load sc158 hE rfl H 1 rfl rfl)),
    by intro a w g hE H; exact Dr.is H rfl (Dr.run rfl (d_fieldAddr fld193_1 hE rfl)),
    by intro a w g hE H; exact Dr.is H rfl (Dr.run rfl (d_load sc3 hE rfl H 6 rfl rfl)),
    trivial⟩
                    · exact ⟨by intro a w g hE hF H; have H := St.get H 3 rfl; refine (Dr.run rfl (b_mapUpdate (c := cBool) (g := false) (cs := [(.bool true)]) (xv := true) Try.underlying158 Try.underlying3 hE rfl rfl rfl rfl (fun _ _ _ _ => by rfl) hl1082 H)).mono fun v w hR => ?_; have H : St z I w (MapR cBool false q809 mp1081 :: MapO c_api_Arc q643 g747 s749 [] :: Bl q815 195 [(.int .i64 a1), (.map (some q808)), (.map (some q809)), (.pointer (some (ad q813 0)))] :: MapR c_api_Route true q808 mp912 :: Bl q813 233 [v914] :: OwnSl c_api_Spot v914 l915 :: Bl q916 193 [(.int .u64 y917), (.int .i64 y918)] :: r) := hR; exact ⟨(), H, Dr.lkSub trivial⟩,
    trivial⟩
                    · intro a w g hE H
                      have H : St z I w (MapR cBool false q809 mp1081 :: MapO c_api_Arc q643 g747 s749 [] :: Bl q815 195 [(.int .i64 a1), (.map (some q808)), (.map (some q809)), (.pointer (some (ad q813 0)))] :: MapR c_api_Route true q808 mp912 :: Bl q813 233 [v914] :: OwnSl c_api_Spot v914 l915 :: Bl q916 193 [(.int .u64 y917), (.int .i64 y918)] :: r) := H
                      refine wp_region_lit ?_
                      refine s1 hE rfl (d_move hE rfl) fun a hE => ?_
                      refine s1 hE rfl (d_move hE rfl) fun a hE => ?_
                      refine s1 hE rfl (d_fieldAddr fld193_1 hE rfl) fun a hE => ?_
                      refine s1 hE rfl (d_load sc3 hE rfl H 6 rfl rfl) fun a hE => ?_
                      obtain ⟨x1088, hx1089, hm⟩ := bnd hm
                      refine s1 hE rfl (d_lookO1 Try.underlying187 Try.underlying3 zv55 hE rfl rfl H 1 rfl) fun a hE => ?_
                      refine s1 hE rfl (d_fieldAddr fld193_1 hE rfl) fun a hE => ?_
                      refine s1 hE rfl (d_load sc3 hE rfl H 6 rfl rfl) fun a hE => ?_
                      obtain ⟨x1090, hc1091, hm⟩ := bnd hm
                      have H := St.get H 5 rfl
                      have H := St.get H 5 rfl
                      have H := St.get H 2 rfl
                      have H := St.get H 5 rfl
                      have H := St.get H 5 rfl
                      have H : St z I w (Bl q815 195 [(.int .i64 a1), (.map (some q808)), (.map (some q809)), (.pointer (some (ad q813 0)))] :: MapR c_api_Route true q808 mp912 :: MapR cBool false q809 mp1081 :: Bl q813 233 [v914] :: OwnSl c_api_Spot v914 l915 :: MapO c_api_Arc q643 g747 s749 [] :: Bl q916 193 [(.int .u64 y917), (.int .i64 y918)] :: r) := H
                      refine s2 hE rfl (d_call c124 hE rfl (f124_ok k a1 mp912 mp1081 l915 x1088 y918 hc1091 (Rd.mapO 0 rfl hx1089) H)) fun a v w hR hE => ?_
                      obtain ⟨v1092, hv_, H⟩ := hR
                      have hv_ := hv_.symm
                      subst hv_
                      refine wpList_nil ?_
                      cases hm
                      have H := St.get H 6 rfl
                      have H := St.get H 5 rfl
                      have H := St.get H 5 rfl
                      have H := St.get H 5 rfl
                      have H := St.get H 5 rfl
                      have H := St.get H 5 rfl
                      have H := St.get H 6 rfl
                      exact ⟨v1092, hE.sub ⟨rfl, rfl, rfl, trivial⟩, H⟩
                · rintro a w ⟨v1075, hE, H⟩
                  refine wp_seq ?_
                  refine wp_seq ?_
                  refine wp_region_lit ?_
                  refine s1 hE rfl (d_loadA ag193 hE rfl H 6 rfl rfl) fun a hE => ?_
                  refine wpList_nil ?_
                  refine wp_region_lit ?_
                  refine s2 hE rfl (d_alloc al193 H) fun a v w hR hE => ?_
                  obtain ⟨q1094, rfl, H⟩ := hR
                  refine s3 (d_store sz193 hE rfl rfl rfl (oneAll rfl) H rfl) fun v w hR => ?_
                  have H : St z I w (Bl q1094 193 [(.int .u64 y917), (.int .i64 y918)] :: MapO c_api_Arc q643 g747 s749 [] :: Bl q815 195 [(.int .i64 a1), (.map (some q808)), (.map (some q809)), (.pointer (some (ad q813 0)))] :: MapR c_api_Route true q808 s1077.1 :: MapR cBool false q809 s1077.2.1 :: Bl q813 233 [v1075] :: OwnSl c_api_Spot v1075 s1077.2.2 :: Bl q916 193 [(.int .u64 y917), (.int .i64 y918)] :: r) := hR
                  refine wpList_nil ?_
                  refine wp_region_lit ?_
                  refine s1 hE rfl (d_move hE rfl) fun a hE => ?_
                  refine s1 hE rfl (d_nilCheck hE rfl) fun a hE => ?_
                  refine s1 hE rfl (d_fieldAddr fld195_3 hE rfl) fun a hE => ?_
                  refine s1 hE rfl (d_load sc190 hE rfl H 2 rfl rfl) fun a hE => ?_
                  obtain ⟨x1098, hc1099, hm⟩ := bnd hm
                  have H := St.get H 6 rfl
                  have H := St.get H 6 rfl
                  have H : St z I w (Bl q813 233 [v1075] :: OwnSl c_api_Spot v1075 s1077.2.2 :: Bl q1094 193 [(.int .u64 y917), (.int .i64 y918)] :: MapO c_api_Arc q643 g747 s749 [] :: Bl q815 195 [(.int .i64 a1), (.map (some q808)), (.map (some q809)), (.pointer (some (ad q813 0)))] :: MapR c_api_Route true q808 s1077.1 :: MapR cBool false q809 s1077.2.1 :: Bl q916 193 [(.int .u64 y917), (.int .i64 y918)] :: r) := H
                  refine s2 hE rfl (d_call c123 hE rfl (f123_ok k s1077.2.2 hc1099  H)) fun a v w hR hE => ?_
                  obtain ⟨v1100, hv_, H⟩ := hR
                  have hv_ := hv_.symm
                  subst hv_
                  refine s1 hE rfl (d_move hE rfl) fun a hE => ?_
                  refine s1 hE rfl (d_extract hE rfl rfl) fun a hE => ?_
                  refine s1 hE rfl (d_extract hE rfl rfl) fun a hE => ?_
                  have H := St.get H 2 rfl
                  refine s3 (d_store sz193 hE rfl rfl rfl (oneAll rfl) H rfl) fun v w hR => ?_
                  have H : St z I w (Bl q1094 193 [(.int .u64 x1098.1.Cost), (.int .i64 x1098.1.Node)] :: Bl q813 233 [v1100] :: OwnSl c_api_Spot v1100 x1098.2.2 :: MapO c_api_Arc q643 g747 s749 [] :: Bl q815 195 [(.int .i64 a1), (.map (some q808)), (.map (some q809)), (.pointer (some (ad q813 0)))] :: MapR c_api_Route true q808 s1077.1 :: MapR cBool false q809 s1077.2.1 :: Bl q916 193 [(.int .u64 y917), (.int .i64 y918)] :: r) := hR
                  refine s1 hE rfl (d_assign hE rfl) fun a hE => ?_
                  refine wpList_nil ?_
                  have H := St.get H 2 rfl
                  have H := St.get H 2 rfl
                  have H := St.get H 6 rfl
                  have H := St.get H 6 rfl
                  have H := St.get H 6 rfl
                  have H := St.get H 6 rfl
                  have H := St.del H 7
                  exact ⟨k, Nat.lt_succ_self k, s1077.1, s1077.2.1, x1098.2.2, x1098.1.Cost, x1098.1.Node, x1098.2.1, hm, v1100, q1094, hE.sub ⟨rfl, rfl, rfl, rfl, trivial⟩, H⟩
            · rw [if_neg c1014] at hm
              refine cF hE rfl (b_f c1014) ?_
              refine wp_exit ?_
              cases hm
              have H := St.get H 5 rfl
              have H := St.get H 5 rfl
              have H := St.get H 5 rfl
              have H := St.get H 5 rfl
              have H := St.get H 5 rfl
              have H := St.del H 5
              have H := St.del H 5
              exact ⟨v914, hE.sub ⟨rfl, trivial⟩, H⟩
        · have H := St.get H 2 rfl
          have H := St.get H 2 rfl
          have H := St.get H 5 rfl
          have H := St.get H 6 rfl
          have H := St.get H 5 rfl
          have H := St.get H 7 rfl
          have H := St.del H 7
          exact ⟨[], [], x820.2.2, x820.1.Cost, x820.1.Node, x820.2.1, hj1012, v822, q823, hE.sub ⟨rfl, rfl, rfl, rfl, trivial⟩, H⟩
      · rintro a w ⟨v1010, hE, H⟩
        refine wp_seq ?_
        refine wp_region_lit ?_
        refine s1 hE rfl (d_assign hE rfl) fun a hE => ?_
        refine wpList_nil ?_
        refine wp_seq ?_
        refine wp_seq ?_
        refine wp_region_lit ?_
        refine s1 hE rfl (d_move hE rfl) fun a hE => ?_
        refine s1 hE rfl (d_nilCheck hE rfl) fun a hE => ?_
        refine s1 hE rfl (d_fieldAddr fld195_1 hE rfl) fun a hE => ?_
        refine s1 hE rfl (d_load sc189 hE rfl H 0 rfl rfl) fun a hE => ?_
        refine s2 hE rfl (d_call c125 hE rfl (k125 H)) fun a v w hR hE => ?_
        obtain ⟨q1105, rfl, H⟩ := hR
        obtain ⟨l1106, hl1107, hm⟩ := bnd hm
        refine s2 hE rfl (d_call c75 hE rfl (s75_169 hl1107 hz H 0 rfl 2 rfl)) fun a v w hR hE => ?_
        obtain ⟨v1108, rfl⟩ : ∃ x, x = v := ⟨v, rfl⟩
        have H : St z I w (OwnSl (cInt .i64) v1108 l1106 :: Bl q1105 189 [(.map (some q808))] :: Bl q815 195 [(.int .i64 a1), (.map (some q808)), (.map (some q809)), (.pointer (some (ad q813 0)))] :: MapR c_api_Route true q808 s1012.1 :: MapR cBool false q809 s1012.2.1 :: Bl q813 233 [v1010] :: OwnSl c_api_Spot v1010 s1012.2.2 :: r) := hR
        refine s1 hE rfl (d_lenS Try.underlying51 hE rfl H (Rd.own 0 rfl)) fun a hE => ?_
        refine s1 hE rfl (d_move hE rfl) fun a hE => ?_
        refine wpList_nil ?_
        obtain ⟨s1182, hj1182, hm⟩ := bnd hm
        refine cut2 (fun a w => ∃ v1180 : Value, Env a 106 [(11, v1180)] ∧ St z I w (OwnSl c_api_Route v1180 s1182 :: r)) ?_ ?_
        · refine wp_block ?_
          refine loopI (fun k a w => ∃ l1144 : List S_api_Route, ∃ y1145 : Int, m58_l2 l1106 s1012 k l1144 y1145 = some s1182 ∧ ∃ v1143 : Value, Env a 106 [(8, (.pointer (some (ad q815 0)))), (11, v1143), (89, v1108), (90, (.int .i64 (l1106.length : Int))), (91, (.int .i64 y1145))] ∧ St z I w (Bl q815 195 [(.int .i64 a1), (.map (some q808)), (.map (some q809)), (.pointer (some (ad q813 0)))] :: MapR c_api_Route true q808 s1012.1 :: MapR cBool false q809 s1012.2.1 :: Bl q813 233 [v1010] :: OwnSl c_api_Spot v1010 s1012.2.2 :: OwnSl c_api_Route v1143 l1144 :: OwnSl (cInt .i64) v1108 l1106 :: r)) ?_ k _ _ ?_
          · rintro k a w ⟨l1144, y1145, hm, v1143, hE, H⟩
            cases k with
            | zero => rw [m58_l2] at hm; cases hm
            | succ k =>
              rw [m58_l2] at hm
              refine wp_seq ?_
              refine wp_region_lit ?_
              refine s1 hE rfl (d_lss hE rfl rfl) fun a hE => ?_
              refine wpList_nil ?_
              refine wp_seq ?_
              by_cases c1184 : y1145 < (l1106.length : Int)
              · rw [if_pos c1184] at hm
                refine cT hE rfl (decide_eq_true c1184) ?_
                refine wp_skip ?_
                refine wp_seq ?_
                refine wp_block ?_
                refine wp_seq ?_
                refine wp_region_lit ?_
                obtain ⟨x1203, hx1204, hm⟩ := bnd hm
                refine s1 hE rfl (d_indexS sl51 hE rfl rfl H (Rd.own 6 rfl) hx1204) fun a hE => ?_
                refine s1 hE rfl (d_loadS1 sc3 hE rfl H (Rd.own 6 rfl) hx1204 (fun _ _ e => e)) fun a hE => ?_
                refine s1 hE rfl (d_assign hE rfl) fun a hE => ?_
                refine wpList_nil ?_
                refine wp_region_lit ?_
                refine s1 hE rfl (d_move hE rfl) fun a hE => ?_
                refine s1 hE rfl (d_move hE rfl) fun a hE => ?_
                refine s1 hE rfl (d_nilCheck hE rfl) fun a hE => ?_
                refine s1 hE rfl (d_fieldAddr fld195_1 hE rfl) fun a hE => ?_
                refine s1 hE rfl (d_load sc189 hE rfl H 0 rfl rfl) fun a hE => ?_
                refine s1 hE rfl (d_move hE rfl) fun a hE => ?_
                obtain ⟨x1211, hx1212, hm⟩ := bnd hm
                refine s1 hE rfl (b_lookup1 (V := (fun x : S_api_Route => (.agg #[(.int .i64 x.To), (.int .i64 x.Via), (.int .u64 x.Cost)]))) (zx := (⟨0, 0, 0⟩ : S_api_Route)) (c := c_api_Route) (g := true) Try.underlying189 Try.underlying3 zv96 (fun _ _ _ h => by rw [h]; rfl) hE rfl rfl hx1212 H 1 rfl) fun a hE => ?_
                refine s2 hE rfl (d_lit (c := c_api_Route) (xs := [x1211]) hE rfl (lit91_1 _ _ _) rfl rfl (fun J h iJ s => rowsC (cs := [(.int .i64 x1211.To), (.int .i64 x1211.Via), (.int .u64 x1211.Cost)]) rfl (rows0)) H) fun a v w hR hE => ?_
                obtain ⟨v1213, rfl⟩ : ∃ x, x = v := ⟨v, rfl⟩
                have H : St z I w (OwnSl c_api_Route v1213 ([x1211]) :: Bl q815 195 [(.int .i64 a1), (.map (some q808)), (.map (some q809)), (.pointer (some (ad q813 0)))] :: MapR c_api_Route true q808 s1012.1 :: MapR cBool false q809 s1012.2.1 :: Bl q813 233 [v1010] :: OwnSl c_api_Spot v1010 s1012.2.2 :: OwnSl c_api_Route v1143 l1144 :: OwnSl (cInt .i64) v1108 l1106 :: r) := hR
                obtain ⟨l1214, ha1215, hm⟩ := bnd hm
                have H := St.get H 6 rfl
                have H : St z I w (OwnSl c_api_Route v1143 l1144 :: OwnSl c_api_Route v1213 ([x1211]) :: Bl q815 195 [(.int .i64 a1), (.map (some q808)), (.map (some q809)), (.pointer (some (ad q813 0)))] :: MapR c_api_Route true q808 s1012.1 :: MapR cBool false q809 s1012.2.1 :: Bl q813 233 [v1010] :: OwnSl c_api_Spot v1010 s1012.2.2 :: OwnSl (cInt .i64) v1108 l1106 :: r) := H
                refine s2 hE rfl (d_appendO (lim := 5864062014805) el91 (by decide) (by decide) hE rfl rfl H ha1215) fun a v w hR hE => ?_
                obtain ⟨v1216, rfl⟩ : ∃ x, x = v := ⟨v, rfl⟩
                have H : St z I w (OwnSl c_api_Route v1216 l1214 :: Bl q815 195 [(.int .i64 a1), (.map (some q808)), (.map (some q809)), (.pointer (some (ad q813 0)))] :: MapR c_api_Route true q808 s1012.1 :: MapR cBool false q809 s1012.2.1 :: Bl q813 233 [v1010] :: OwnSl c_api_Spot v1010 s1012.2.2 :: OwnSl (cInt .i64) v1108 l1106 :: r) := hR
                refine s1 hE rfl (d_assign hE rfl) fun a hE => ?_
                refine wpList_nil ?_
                refine wp_region_lit ?_
                refine s1 hE rfl (d_add hE rfl rfl) fun a hE => ?_
                refine s1 hE rfl (d_move hE rfl) fun a hE => ?_
                refine wpList_nil ?_
                have H := St.get H 6 rfl
                have H := St.get H 1 rfl
                have H := St.get H 6 rfl
                have H := St.get H 6 rfl
                have H := St.get H 6 rfl
                have H := St.get H 6 rfl
                have H := St.get H 6 rfl
                exact ⟨k, Nat.lt_succ_self k, l1214, IntKind.i64.wrap (y1145 + 1), hm, v1216, hE.sub ⟨rfl, rfl, rfl, rfl, rfl, trivial⟩, H⟩
              · rw [if_neg c1184] at hm
                refine cF hE rfl (decide_eq_false c1184) ?_
                refine wp_exit ?_
                cases hm
                have H := St.get H 5 rfl
                have H := St.del H 1
                have H := St.del H 1
                have H := St.del H 1
                have H := St.del H 1
                have H := St.del H 1
                have H := St.del H 1
                exact ⟨v1143, hE.sub ⟨rfl, trivial⟩, H⟩
          · have H := St.nil (c := c_api_Route) H none
            have H := St.get H 1 rfl
            have H := St.get H 1 rfl
            have H := St.get H 7 rfl
            have H := St.get H 7 rfl
            have H := St.get H 7 rfl
            have H := St.get H 7 rfl
            have H := St.get H 7 rfl
            have H := St.del H 7
            exact ⟨[], 0, hj1182, (.slice none 0 0), hE.sub ⟨rfl, rfl, rfl, rfl, rfl, trivial⟩, H⟩
        · rintro a w ⟨v1180, hE, H⟩
          refine wp_seq ?_
          refine wp_region_lit ?_
          refine s1 hE rfl (d_move hE rfl) fun a hE => ?_
          refine s1 hE rfl (d_assign hE rfl) fun a hE => ?_
          refine wpList_nil ?_
          refine wp_ret ?_
          cases hm
          exact ret1 rfl hE rfl ⟨_, rfl, v1180, rfl, H⟩
  · rw [if_neg c641] at hm
    refine cT hE rfl (not_t (decide_eq_false c641)) ?_
    refine wp_seq ?_
    refine wp_region_lit ?_
    refine s1 hE rfl (d_assign hE rfl) fun a hE => ?_
    refine wpList_nil ?_
    refine wp_ret ?_
    cases hm
    have H := St.nil (c := c_api_Route) H none
    exact ret1 rfl hE rfl ⟨_, rfl, (.slice none 0 0), rfl, H⟩
def m60_l0 (a2 : Int) (x166 : (List S_api_Route)) : Nat → Int → Option (Out (Int × Bool) Unit)
  | 0, _ => none
  | k + 1, y187 => if y187 < (x166.length : Int) then (Option.bind (rdx x166 y187) fun x220 => if x220.To = a2 then (some (.ret (x220.Cost, true))) else (m60_l0 a2 x166 k (IntKind.i64.wrap (y187 + 1)))) else (some (.go ()))
def m60 (k : Nat) (a0 : List S_api_Arc) (a1 : Int) (a2 : Int) : Option (Int × Bool) := if a1 = a2 then (Option.bind (α := Bool) (Option.bind (m98 k a0) fun x159 => if x159 = 0 then (if 1 ≤ a1 then (some (decide (a1 ≤ 64))) else (some false)) else (some false)) fun s158 => some (0, s158)) else (Option.bind (m58 k a0 a1) fun x166 => Option.bind (m60_l0 a2 x166 k 0) fun s206 => s206.on (fun q_ => some q_) fun s206 => some (0, false))
set_option maxRecDepth 20000 in
set_option maxHeartbeats 4000000 in
theorem f60_ok (k : Nat) {u0 : Value} (a0 : List S_api_Arc) (a1 : Int) (a2 : Int) {res : Int × Bool} (hm : m60 k a0 a1 a2 = some res) {z w : World} {I : Hp} {r : List Asn} (hr0 : Rd c_api_Arc I r u0 a0) (hz : z.drawn = 0) (H : St z I w (r)) :
    Calls Try.prog 60 #[u0, (.int .i64 a1), (.int .i64 a2)] w (Rt fun v w' => v = (.tuple #[(.int .u64 res.1), (.bool res.2)]) ∧ St z I w' (r)) := by
  unfold m60 at hm
  refine enter (args := [u0, (.int .i64 a1), (.int .i64 a2)]) Try.func60 rfl Try.ntmps60 rfl fun a hE => ?_
  refine wp_seq ?_
  refine wp_region_lit ?_
  refine s1 hE rfl (d_assign hE rfl) fun a hE => ?_
  refine s1 hE rfl (d_assign hE rfl) fun a hE => ?_
  refine wpList_nil ?_
  refine wp_seq ?_
  refine wp_seq ?_
  refine wp_region_lit ?_
  refine s1 hE rfl (d_move hE rfl) fun a hE => ?_
  refine s1 hE rfl (d_move hE rfl) fun a hE => ?_
  refine s1 hE rfl (d_eql hE rfl rfl) fun a hE => ?_
  refine wpList_nil ?_
  by_cases c151 : a1 = a2
  · rw [if_pos c151] at hm
    refine cT hE rfl (decide_eq_true c151) ?_
    refine wp_seq ?_
    obtain ⟨s158, hj158, hm⟩ := bnd hm
    refine cut2 (fun a w => Env a 39 [(6, (.int .u64 0)), (7, (.bool s158))] ∧ St z I w (r)) ?_ ?_
    · have hm := hj158
      refine wp_region_lit ?_
      refine s1 hE rfl (d_move hE rfl) fun a hE => ?_
      obtain ⟨x159, hc160, hm⟩ := bnd hm
      refine s2 hE rfl (d_call c98 hE rfl (f98_ok k a0 hc160 hr0 H)) fun a v w hR hE => ?_
      obtain ⟨hv_, H⟩ := hR
      have hv_ := hv_.symm
      subst hv_
      refine s1 hE rfl (d_eql hE rfl rfl) fun a hE => ?_
      refine s1 hE rfl (d_move hE rfl) fun a hE => ?_
      by_cases c161 : x159 = 0
      · rw [if_pos c161] at hm
        refine gR hE rfl rfl (decide_eq_true c161) ?_
        refine s1 hE rfl (d_move hE rfl) fun a hE => ?_
        refine gR hE rfl rfl (decide_eq_true c161) ?_
        refine s1 hE rfl (d_geq hE rfl rfl) fun a hE => ?_
        refine s1 hE rfl (d_pT hE rfl (decide_eq_true c161) rfl) fun a hE => ?_
        refine s1 hE rfl (d_move hE rfl) fun a hE => ?_
        by_cases c162 : 1 ≤ a1
        · rw [if_pos c162] at hm
          refine gR hE rfl rfl (decide_eq_true c162) ?_
          refine s1 hE rfl (d_move hE rfl) fun a hE => ?_
          refine gR hE rfl rfl (decide_eq_true c162) ?_
          refine s1 hE rfl (d_leq hE rfl rfl) fun a hE => ?_
          refine s1 hE rfl (d_pT hE rfl (decide_eq_true c162) rfl) fun a hE => ?_
          refine s1 hE rfl (d_assign hE rfl) fun a hE => ?_
          refine s1 hE rfl (d_assign hE rfl) fun a hE => ?_
          refine wpList_nil ?_
          cases hm
          exact ⟨hE.sub ⟨rfl, rfl, trivial⟩, H⟩
        · rw [if_neg c162] at hm
          refine gP hE rfl rfl rfl (decide_eq_false c162) fun a hE => ?_
          refine gP hE rfl rfl rfl (decide_eq_false c162) fun a hE => ?_
          refine s1 hE rfl (d_pF hE rfl (decide_eq_false c162) rfl) fun a hE => ?_
          refine s1 hE rfl (d_assign hE rfl) fun a hE => ?_
          refine s1 hE rfl (d_assign hE rfl) fun a hE => ?_
          refine wpList_nil ?_
          cases hm
          exact ⟨hE.sub ⟨rfl, rfl, trivial⟩, H⟩
      · rw [if_neg c161] at hm
        refine gP hE rfl rfl rfl (decide_eq_false c161) fun a hE => ?_
        refine gP hE rfl rfl rfl (decide_eq_false c161) fun a hE => ?_
        refine s1 hE rfl (d_pF hE rfl (decide_eq_false c161) rfl) fun a hE => ?_
        refine s1 hE rfl (d_move hE rfl) fun a hE => ?_
        refine gP hE rfl rfl rfl rfl fun a hE => ?_
        refine gP hE rfl rfl rfl rfl fun a hE => ?_
        refine s1 hE rfl (d_pF hE rfl rfl rfl) fun a hE => ?_
        refine s1 hE rfl (d_assign hE rfl) fun a hE => ?_
        refine s1 hE rfl (d_assign hE rfl) fun a hE => ?_
        refine wpList_nil ?_
        cases hm
        exact ⟨hE.sub ⟨rfl, rfl, trivial⟩, H⟩
    · rintro a w ⟨hE, H⟩
      refine wp_ret ?_
      cases hm
      exact ret2 rfl hE rfl rfl ⟨_, rfl, rfl, H⟩
  · rw [if_neg c151] at hm
    refine cF hE rfl (decide_eq_false c151) ?_
    refine wp_skip ?_
    refine wp_seq ?_
    refine wp_seq ?_
    refine wp_region_lit ?_
    refine s1 hE rfl (d_move hE rfl) fun a hE => ?_
    refine s1 hE rfl (d_move hE rfl) fun a hE => ?_
    obtain ⟨x166, hc167, hm⟩ := bnd hm
    refine s2 hE rfl (d_call c58 hE rfl (f58_ok k a0 a1 hc167 hr0 hz H)) fun a v w hR hE => ?_
    obtain ⟨v168, hv_, H⟩ := hR
    have hv_ := hv_.symm
    subst hv_
    refine s1 hE rfl (d_lenS Try.underlying91 hE rfl H (Rd.own 0 rfl)) fun a hE => ?_
    refine s1 hE rfl (d_move hE rfl) fun a hE => ?_
    refine wpList_nil ?_
    obtain ⟨s206, hj206, hq206⟩ := bnd hm
    refine cut2 (fun a w => ∃ s_ : Unit, s206 = .go s_ ∧ Env a 39 [] ∧ St z I w (r)) ?_ ?_
    · refine wp_block ?_
      refine loopI (fun k a w => ∃ y187 : Int, m60_l0 a2 x166 k y187 = some s206 ∧ Env a 39 [(2, (.int .i64 a2)), (26, v168), (27, (.int .i64 (x166.length : Int))), (28, (.int .i64 y187))] ∧ St z I w (OwnSl c_api_Route v168 x166 :: r)) ?_ k _ _ ?_
      · rintro k a w ⟨y187, hm, hE, H⟩
        cases k with
        | zero => rw [m60_l0] at hm; cases hm
        | succ k =>
          rw [m60_l0] at hm
          refine wp_seq ?_
          refine wp_region_lit ?_
          refine s1 hE rfl (d_lss hE rfl rfl) fun a hE => ?_
          refine wpList_nil ?_
          refine wp_seq ?_
          by_cases c208 : y187 < (x166.length : Int)
          · rw [if_pos c208] at hm
            refine cT hE rfl (decide_eq_true c208) ?_
            refine wp_skip ?_
            refine wp_seq ?_
            refine wp_block ?_
            refine wp_seq ?_
            refine wp_region_lit ?_
            obtain ⟨x220, hx221, hm⟩ := bnd hm
            refine s1 hE rfl (d_indexS sl91 hE rfl rfl H (Rd.own 0 rfl) hx221) fun a hE => ?_
            refine s1 hE rfl (d_loadSA ag96 rfl hE rfl H (Rd.own 0 rfl) hx221 (fun _ _ e => e)) fun a hE => ?_
            refine s2 hE rfl (d_alloc al96 H) fun a v w hR hE => ?_
            obtain ⟨q222, rfl, H⟩ := hR
            refine s3 (d_store sz96 hE rfl rfl rfl (oneAll rfl) H rfl) fun v w hR => ?_
            have H : St z I w (Bl q222 96 [(.int .i64 x220.To), (.int .i64 x220.Via), (.int .u64 x220.Cost)] :: OwnSl c_api_Route v168 x166 :: r) := hR
            refine wpList_nil ?_
            refine wp_seq ?_
            refine wp_region_lit ?_
            refine s1 hE rfl (d_fieldAddr fld96_0 hE rfl) fun a hE => ?_
            refine s1 hE rfl (d_load sc3 hE rfl H 0 rfl rfl) fun a hE => ?_
            refine s1 hE rfl (d_move hE rfl) fun a hE => ?_
            refine s1 hE rfl (d_eql hE rfl rfl) fun a hE => ?_
            refine wpList_nil ?_
            by_cases c224 : x220.To = a2
            · rw [if_pos c224] at hm
              refine cT hE rfl (decide_eq_true c224) ?_
              refine wp_seq ?_
              refine wp_region_lit ?_
              refine s1 hE rfl (d_fieldAddr fld96_2 hE rfl) fun a hE => ?_
              refine s1 hE rfl (d_load sc61 hE rfl H 0 rfl rfl) fun a hE => ?_
              refine s1 hE rfl (d_assign hE rfl) fun a hE => ?_
              refine s1 hE rfl (d_assign hE rfl) fun a hE => ?_
              refine wpList_nil ?_
              refine wp_ret ?_
              cases hm
              have hm := hq206
              simp only [Out.on] at hm
              cases hm
              have H := St.del H 0
              have H := St.del H 0
              exact ret2 rfl hE rfl rfl ⟨_, rfl, rfl, H⟩
            · rw [if_neg c224] at hm
              refine cF hE rfl (decide_eq_false c224) ?_
              refine wp_skip ?_
              refine wp_region_lit ?_
              refine s1 hE rfl (d_add hE rfl rfl) fun a hE => ?_
              refine s1 hE rfl (d_move hE rfl) fun a hE => ?_
              refine wpList_nil ?_
              have H := St.get H 1 rfl
              have H := St.del H 1
              exact ⟨k, Nat.lt_succ_self k, IntKind.i64.wrap (y187 + 1), hm, hE.sub ⟨rfl, rfl, rfl, rfl, trivial⟩, H⟩
          · rw [if_neg c208] at hm
            refine cF hE rfl (decide_eq_false c208) ?_
            refine wp_exit ?_
            cases hm
            have H := St.del H 0
            exact ⟨_, rfl, hE.sub trivial, H⟩
      · exact ⟨0, hj206, hE.sub ⟨rfl, rfl, rfl, rfl, trivial⟩, H⟩
    · rintro a w ⟨s206, rfl, hE, H⟩
      have hm := hq206
      simp only [Out.on] at hm
      refine wp_seq ?_
      refine wp_region_lit ?_
      refine s1 hE rfl (d_assign hE rfl) fun a hE => ?_
      refine s1 hE rfl (d_assign hE rfl) fun a hE => ?_
      refine wpList_nil ?_
      refine wp_ret ?_
      cases hm
      exact ret2 rfl hE rfl rfl ⟨_, rfl, rfl, H⟩
end Go.Proofs.Ytbielnhpfbhkgaa
