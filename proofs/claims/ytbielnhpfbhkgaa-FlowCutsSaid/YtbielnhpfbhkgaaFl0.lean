/- Functions and what their calls do, by program (gen.py). -/
import Derived.Test.YtbielnhpfbhkgaaB1
import Derived.Test.YtbielnhpfbhkgaaShelfFl
set_option linter.unusedVariables false
set_option linter.unusedSimpArgs false
namespace Go.Proofs.Ytbielnhpfbhkgaa
open Go Go.RowKit
structure S_flow_step where
  arc : Int
  back : Bool
def c_flow_step : Cod S_flow_step := Cod.flat 2 (fun x => [(.int .i64 x.arc), (.bool x.back)]) (fun _ => rfl) (by intro x v hv; simp at hv; rcases hv with rfl | rfl <;> rfl)
structure A_2_int where
  e0 : Int
  e1 : Int
def c_2_int : Cod A_2_int := Cod.flat 2 (fun x => [(.int .i64 x.e0), (.int .i64 x.e1)]) (fun _ => rfl) (by intro x v hv; simp at hv; rcases hv with rfl | rfl <;> rfl)
theorem fld130_0 : Fld Try.prog 130 0 0 := fun p w => by kernel_rfl
theorem sc55 : Scal Try.prog 55 := fun w => ⟨by kernel_rfl, by kernel_rfl⟩
theorem fld214_0 : Fld Try.prog 214 0 0 := fun p w => by kernel_rfl
theorem fld214_1 : Fld Try.prog 214 1 1 := fun p w => by kernel_rfl
theorem sc4 : Scal Try.prog 4 := fun w => ⟨by kernel_rfl, by kernel_rfl⟩
theorem fld130_1 : Fld Try.prog 130 1 1 := fun p w => by kernel_rfl
theorem sc51 : Scal Try.prog 51 := fun w => ⟨by kernel_rfl, by kernel_rfl⟩
theorem bld214_0In (x0 : Int)  : ∀ w : World, (Instr.build 214 (List.toArray [(0, (.int .i64 x0))])).run Try.prog w = .ok (.agg #[(.int .i64 x0), (.bool false)]) w := by
  intro w
  kernel_rfl
theorem lit243_2 (x0 : Bool) (x1 : Bool) : ∀ w : World, (Instr.buildSlice 243 2 (List.toArray [(0, (.bool x0)), (1, (.bool x1))])).run Try.prog w = .ok (.slice (some (ad w.heap.size 0)) 2 2) (w.alloc (.cells (List.toArray [(.bool x0), (.bool x1)]) 4)) := fun w => by kernel_rfl
theorem sl243 : Slc Try.prog 243 4 1 := ⟨Try.underlying243, fun w => by kernel_rfl⟩
theorem bld214_0In_1Bo (x0 : Int) (x1 : Bool)  : ∀ w : World, (Instr.build 214 (List.toArray [(0, (.int .i64 x0)), (1, (.bool x1))])).run Try.prog w = .ok (.agg #[(.int .i64 x0), (.bool x1)]) w := by
  intro w
  kernel_rfl
theorem al214 : ∀ w : World, (Instr.alloc 214 true (.tuple #[])).run Try.prog w = .ok (.pointer (some (ad w.heap.size 0))) (w.alloc (.cells (List.toArray [(.int .i64 0), (.bool false)]) 214)) := fun w => by kernel_rfl
theorem sz214 : ∀ w : World, (sizeOf 214).run Try.prog w = .ok 2 w := fun w => by kernel_rfl
theorem ag214 : Aggr Try.prog 214 2 := fun w => ⟨by kernel_rfl, by kernel_rfl⟩
theorem c182 : Callable Try.prog 182 := ⟨Try.f182, Try.func182, by kernel_rfl, by kernel_rfl⟩
theorem zv214 : ∀ w : World, (zeroValue 214).run Try.prog w = .ok (.agg #[(.int .i64 0), (.bool false)]) w := fun w => by kernel_rfl
theorem c183 : Callable Try.prog 183 := ⟨Try.f183, Try.func183, by kernel_rfl, by kernel_rfl⟩
theorem c142 : Callable Try.prog 142 := ⟨Try.f142, Try.func142, by kernel_rfl, by kernel_rfl⟩
theorem lit248_1 (x0 : Int) (x1 : Bool) : ∀ w : World, (Instr.buildSlice 248 1 (List.toArray [(0, (.agg #[(.int .i64 x0), (.bool x1)]))])).run Try.prog w = .ok (.slice (some (ad w.heap.size 0)) 1 1) (w.alloc (.cells (List.toArray [(.int .i64 x0), (.bool x1)]) 214)) := fun w => by kernel_rfl
theorem el248 : Elt Try.prog 248 214 2 16 := ⟨Try.underlying248, by kernel_rfl, by decide⟩
theorem sl248 : Slc Try.prog 248 214 2 := ⟨Try.underlying248, fun w => by kernel_rfl⟩
theorem sz3 : ∀ w : World, (sizeOf 3).run Try.prog w = .ok 1 w := fun w => by kernel_rfl
theorem c86 : Callable Try.prog 86 := ⟨Try.f86, Try.func86, by kernel_rfl, by kernel_rfl⟩
theorem c91 : Callable Try.prog 91 := ⟨Try.f91, Try.func91, by kernel_rfl, by kernel_rfl⟩
theorem ez51 : EltZ Try.prog 51 3 [(.int .i64 0)] 8 := ⟨Try.underlying51, by kernel_rfl⟩
theorem bld130_0Sl_1Sl (x0 : Value) (x1 : Value) (hx0 : ∃ A n k, x0 = .slice A n k) (hx1 : ∃ A n k, x1 = .slice A n k) : ∀ w : World, (Instr.build 130 (List.toArray [(0, x0), (1, x1)])).run Try.prog w = .ok (.agg #[x0, x1]) w := by
  obtain ⟨Ax0, nx0, kx0, rfl⟩ := hx0
  obtain ⟨Ax1, nx1, kx1, rfl⟩ := hx1
  intro w
  kernel_rfl
theorem c143 : Callable Try.prog 143 := ⟨Try.f143, Try.func143, by kernel_rfl, by kernel_rfl⟩
theorem c82 : Callable Try.prog 82 := ⟨Try.f82, Try.func82, by kernel_rfl, by kernel_rfl⟩
theorem cv3_61 (x : Int) : ∀ w : World, (convert 3 61 (.int .i64 x)).run Try.prog w = .ok (.int .u64 (IntKind.u64.wrap x)) w := fun w => by kernel_rfl
theorem c32 : Callable Try.prog 32 := ⟨Try.f32, Try.func32, by kernel_rfl, by kernel_rfl⟩
theorem c141 : Callable Try.prog 141 := ⟨Try.f141, Try.func141, by kernel_rfl, by kernel_rfl⟩
theorem k141 {b : Nat} {z w : World} {I : Hp} {r : List Asn} (H : St z I w r) : Calls Try.prog 141 #[.map (some b)] w (Rt fun v w' => ∃ q, v = .func (.func 181) #[] #[.pointer (some (ad q 0))] ∧ St z I w' (Bl q 212 [.map (some b)] :: r)) := by
  have cK : CallsIn Fence.wide 5 Try.prog 141 #[.map (some b)] w fun e w' => e = .returned (.func (.func 181) #[] #[.pointer (some ⟨w.heap.size, 0, none⟩)]) ∧ w' = w.alloc (.cells #[.map (some b)] 212) := AnyZI.keys_in Try.keys141 Fence.wide 5 trivial rfl (some b) w
  refine Calls.mono ((callsIn_wide (n := 5)).1 cK) fun e w' h => ?_
  obtain ⟨rfl, rfl⟩ := h
  exact ⟨_, rfl, _, rfl, H.alloc _⟩
theorem s75_181 {α : Type} {c : Cod α} {g : Bool} {b q : Nat} {m : List (Int × α)} {res : List Int} (hm : skeys m = some res) {z w : World} {I : Hp} {r : List Asn} (H : St z I w r) (i : Nat) (hi : r[i]? = some (Bl q 212 [.map (some b)])) (j : Nat) (hj : r[j]? = some (MapR c g b m)) :
    Calls Try.prog 75 #[.func (.func 181) #[] #[.pointer (some (ad q 0))]] w (Rt fun v w' => St z I w' (OwnSl (cInt .i64) v res :: r)) := by
  obtain ⟨rfl, hl, hw⟩ := skeys_some hm
  obtain ⟨D0, hown, hperm, hsize⟩ := H.ownsMap (kt := 3) Try.underlying3 j hj hl hw
  have hq := H.ob i hi
  have hseq : SeqGives Fence.wide 2 Try.prog 181 #[.pointer (some ⟨q, 0, none⟩)] encZ (fun ss => ss.Perm (intKeys D0)) (Maps.size D0) w :=
    AnyZI.keys_gives (ρ := Try.keys141_ren) { Try.keys141 with } Fence.wide _ trivial rfl (by omega) q b m.length D0 (R := Rtriv) w (Array.getElem?_eq_some_iff.1 hq).1 (by simp [World.cell?, hq]) hown
  have cS := AnyZI.sorted_in Try.sorted75 Fence.wide 5 trivial trivial trivial trivial rfl (by omega) (sorts75 _) (enters_of Try.func119 (by kernel_rfl) rfl) 181 #[.pointer (some ⟨q, 0, none⟩)] trivial (enters_of Try.func181 (by kernel_rfl) rfl) _ _ (by rw [hsize]; exact Nat.le_trans hl (by decide)) (by rw [hsize]; omega) _ hseq
  change CallsIn _ _ Try.prog 75 _ _ _ at cS
  refine Calls.mono ((callsIn_wide (n := 5)).1 cS) fun e w' h => ?_
  obtain ⟨v, ss, rfl, hS, hrow, _, hb⟩ := h
  refine ⟨v, rfl, ?_⟩
  have he : (ss.mergeSort fun x y => decide (x ≤ y)) = sortZ (mkeys m) := sortZ_perm (hS.trans hperm)
  rw [he] at hrow
  exact H.newRow hb hrow
theorem c30 : Callable Try.prog 30 := ⟨Try.f30, Try.func30, by kernel_rfl, by kernel_rfl⟩
theorem bld60_0In_1In_2In (x0 : Int) (x1 : Int) (x2 : Int)  : ∀ w : World, (Instr.build 60 (List.toArray [(0, (.int .i64 x0)), (1, (.int .i64 x1)), (2, (.int .i64 x2))])).run Try.prog w = .ok (.agg #[(.int .i64 x0), (.int .i64 x1), (.int .i64 x2)]) w := by
  intro w
  kernel_rfl
theorem lit55_4 (x0 : Int) (x1 : Int) (x2 : Int) (x3 : Int) (x4 : Int) (x5 : Int) (x6 : Int) (x7 : Int) (x8 : Int) (x9 : Int) (x10 : Int) (x11 : Int) : ∀ w : World, (Instr.buildSlice 55 4 (List.toArray [(0, (.agg #[(.int .i64 x0), (.int .i64 x1), (.int .i64 x2)])), (1, (.agg #[(.int .i64 x3), (.int .i64 x4), (.int .i64 x5)])), (2, (.agg #[(.int .i64 x6), (.int .i64 x7), (.int .i64 x8)])), (3, (.agg #[(.int .i64 x9), (.int .i64 x10), (.int .i64 x11)]))])).run Try.prog w = .ok (.slice (some (ad w.heap.size 0)) 4 4) (w.alloc (.cells (List.toArray [(.int .i64 x0), (.int .i64 x1), (.int .i64 x2), (.int .i64 x3), (.int .i64 x4), (.int .i64 x5), (.int .i64 x6), (.int .i64 x7), (.int .i64 x8), (.int .i64 x9), (.int .i64 x10), (.int .i64 x11)]) 60)) := fun w => by kernel_rfl
theorem c80 : Callable Try.prog 80 := ⟨Try.f80, Try.func80, by kernel_rfl, by kernel_rfl⟩
theorem c81 : Callable Try.prog 81 := ⟨Try.f81, Try.func81, by kernel_rfl, by kernel_rfl⟩
theorem c29 : Callable Try.prog 29 := ⟨Try.f29, Try.func29, by kernel_rfl, by kernel_rfl⟩
theorem ix56_0 : Idx Try.prog 56 0 0 := fun p w => by kernel_rfl
theorem ix56_1 : Idx Try.prog 56 1 1 := fun p w => by kernel_rfl
theorem c31 : Callable Try.prog 31 := ⟨Try.f31, Try.func31, by kernel_rfl, by kernel_rfl⟩
theorem c33 : Callable Try.prog 33 := ⟨Try.f33, Try.func33, by kernel_rfl, by kernel_rfl⟩
def m182 (a0_arcs : List S_api_Arc) (a0_given : List Int) (a1 : S_flow_step) : Option (Int × Int) := Option.bind (rdx a0_arcs a1.arc) fun x18 => if a1.back = true then (some (x18.To, x18.From)) else (some (x18.From, x18.To))
set_option maxRecDepth 20000 in
set_option maxHeartbeats 4000000 in
theorem f182_ok {q0 : Nat} {u0_arcs : Value} (a0_arcs : List S_api_Arc) {u0_given : Value} (a0_given : List Int) (a1 : S_flow_step) {res : Int × Int} (hm : m182 a0_arcs a0_given a1 = some res) {z w : World} {I : Hp} {r : List Asn} (hr0_arcs : Rd c_api_Arc z I r u0_arcs a0_arcs) (H : St z I w (Bl q0 130 [u0_arcs, u0_given] :: OwnSl (cInt .i64) u0_given a0_given :: r)) :
    Calls Try.prog 182 #[(.pointer (some (ad q0 0))), (.agg #[(.int .i64 a1.arc), (.bool a1.back)])] w (Rt fun v w' => v = (.tuple #[(.int .i64 res.1), (.int .i64 res.2)]) ∧ St z I w' (Bl q0 130 [u0_arcs, u0_given] :: OwnSl (cInt .i64) u0_given a0_given :: r)) := by
  have hI := Hp.le_refl I
  unfold m182 at hm
  refine enter (args := [(.pointer (some (ad q0 0))), (.agg #[(.int .i64 a1.arc), (.bool a1.back)])]) Try.func182 rfl Try.ntmps182 rfl fun a hE => ?_
  refine wp_seq ?_
  refine wp_region_lit ?_
  refine s2 hE rfl (d_box hE rfl H) fun a v w hR hE => ?_
  obtain ⟨q14, rfl, H⟩ := hR
  have H : St z I w (Bl q14 214 [(.int .i64 a1.arc), (.bool a1.back)] :: Bl q0 130 [u0_arcs, u0_given] :: OwnSl (cInt .i64) u0_given a0_given :: r) := H
  refine s1 hE rfl (d_assign hE rfl) fun a hE => ?_
  refine s1 hE rfl (d_assign hE rfl) fun a hE => ?_
  refine wpList_nil ?_
  refine wp_seq ?_
  obtain ⟨x18, hx19, hm⟩ := bnd hm
  refine Dr.region (γ := Nat) (pre := [[], [0], [0, 1], [0, 1, 2], [], [4], [0, 1, 2, 3, 4, 5], [0, 1, 2, 3, 4, 5, 6], [], [0, 1, 2, 3, 4, 5, 6, 7, 8]]) (val := [some (.pointer (some (ad q0 0))), some (.pointer (some (ad q0 0))), some (.pointer (some (ad q0 (0 + 0)))), some u0_arcs, some (.pointer (some (ad q14 (0 + 0)))), some (.int .i64 a1.arc), some (.pointer (some (ad (sb u0_arcs) (so u0_arcs + (a1.arc).toNat * c_api_Arc.n)))), some (.agg #[(.int .i64 x18.From), (.int .i64 x18.To), (.int .i64 x18.Cost)]), none, none]) (eff := [8, 9]) (mask := [[], [8], [8, 9]]) (keys := [[], [6], [6]]) (src := [[.base 0], [.op 0], [.op 1], [.op 2], [.base 3], [.op 4], [.op 3, .op 5], [.op 6], [], [.op 7]]) (z := z) (ef := fun p g => ([[], [(6, (.pointer (some (ad g 0))))], [(6, (.pointer (some (ad g 0))))]] : List (List (Nat × Value))).getD p []) (hi := fun _ _ => I) (rs := fun p g => ([Bl q14 214 [(.int .i64 a1.arc), (.bool a1.back)] :: Bl q0 130 [u0_arcs, u0_given] :: OwnSl (cInt .i64) u0_given a0_given :: r, Bl g 60 [(.int .i64 0), (.int .i64 0), (.int .i64 0)] :: Bl q14 214 [(.int .i64 a1.arc), (.bool a1.back)] :: Bl q0 130 [u0_arcs, u0_given] :: OwnSl (cInt .i64) u0_given a0_given :: r, Bl g 60 [(.int .i64 x18.From), (.int .i64 x18.To), (.int .i64 x18.Cost)] :: Bl q14 214 [(.int .i64 a1.arc), (.bool a1.back)] :: Bl q0 130 [u0_arcs, u0_given] :: OwnSl (cInt .i64) u0_given a0_given :: r] : List (List Asn)).getD p []) [(0, 0), (1, 0), (2, 0), (3, 0), (4, 0), (5, 0), (6, 0), (7, 0), (0, 1), (1, 1), (2, 1), (3, 1), (4, 1), (5, 1), (6, 1), (7, 1)] [(0, 8, 1), (1, 9, 2)] [0, 1, 2, 3, 4, 5, 6, 7] 2 mo hE (0) rfl H (by kernel_rfl) (by kernel_rfl) (fun p g => by rcases p with _ | _ | _ | p <;> rfl) ?_ ?_ (by kernel_rfl) (by kernel_rfl) ?_
  · exact ⟨by intro a w g hE H; obtain ⟨q20, rfl⟩ : ∃ x, x = g := ⟨g, rfl⟩; exact Dr.is H rfl (Dr.run rfl (d_move hE rfl)),
    by intro a w g hE H; obtain ⟨q20, rfl⟩ : ∃ x, x = g := ⟨g, rfl⟩; exact Dr.is H rfl (Dr.run rfl (d_nilCheck hE rfl)),
    by intro a w g hE H; obtain ⟨q20, rfl⟩ : ∃ x, x = g := ⟨g, rfl⟩; exact Dr.is H rfl (Dr.run rfl (d_fieldAddr fld130_0 hE rfl)),
    by intro a w g hE H; obtain ⟨q20, rfl⟩ : ∃ x, x = g := ⟨g, rfl⟩; exact Dr.is H rfl (Dr.run rfl (d_load sc55 hE rfl H 1 rfl rfl)),
    by intro a w g hE H; obtain ⟨q20, rfl⟩ : ∃ x, x = g := ⟨g, rfl⟩; exact Dr.is H rfl (Dr.run rfl (d_fieldAddr fld214_0 hE rfl)),
    by intro a w g hE H; obtain ⟨q20, rfl⟩ : ∃ x, x = g := ⟨g, rfl⟩; exact Dr.is H rfl (Dr.run rfl (d_load sc3 hE rfl H 0 rfl rfl)),
    by intro a w g hE H; obtain ⟨q20, rfl⟩ : ∃ x, x = g := ⟨g, rfl⟩; exact Dr.is H rfl (Dr.run rfl (d_indexS sl55 hE rfl rfl (Rd.st hr0_arcs hI (((H).drop).drop).drop) hx19)),
    by intro a w g hE H; obtain ⟨q20, rfl⟩ : ∃ x, x = g := ⟨g, rfl⟩; exact Dr.is H rfl (Dr.run rfl (d_loadSA ag60 rfl hE rfl (Rd.st hr0_arcs hI (((H).drop).drop).drop) hx19 (fun _ e => e))),
    by intro a w g hE H; obtain ⟨q20, rfl⟩ : ∃ x, x = g := ⟨g, rfl⟩; exact Dr.is H rfl (Dr.run rfl (d_move hE rfl)),
    by intro a w g hE H; obtain ⟨q20, rfl⟩ : ∃ x, x = g := ⟨g, rfl⟩; exact Dr.is H rfl (Dr.run rfl (d_nilCheck hE rfl)),
    by intro a w g hE H; obtain ⟨q20, rfl⟩ : ∃ x, x = g := ⟨g, rfl⟩; exact Dr.is H rfl (Dr.run rfl (d_fieldAddr fld130_0 hE rfl)),
    by intro a w g hE H; obtain ⟨q20, rfl⟩ : ∃ x, x = g := ⟨g, rfl⟩; exact Dr.is H rfl (Dr.run rfl (d_load sc55 hE rfl H 2 rfl rfl)),
    by intro a w g hE H; obtain ⟨q20, rfl⟩ : ∃ x, x = g := ⟨g, rfl⟩; exact Dr.is H rfl (Dr.run rfl (d_fieldAddr fld214_0 hE rfl)),
    by intro a w g hE H; obtain ⟨q20, rfl⟩ : ∃ x, x = g := ⟨g, rfl⟩; exact Dr.is H rfl (Dr.run rfl (d_load sc3 hE rfl H 1 rfl rfl)),
    by intro a w g hE H; obtain ⟨q20, rfl⟩ : ∃ x, x = g := ⟨g, rfl⟩; exact Dr.is H rfl (Dr.run rfl (d_indexS sl55 hE rfl rfl (Rd.st hr0_arcs hI ((((H).drop).drop).drop).drop) hx19)),
    by intro a w g hE H; obtain ⟨q20, rfl⟩ : ∃ x, x = g := ⟨g, rfl⟩; exact Dr.is H rfl (Dr.run rfl (d_loadSA ag60 rfl hE rfl (Rd.st hr0_arcs hI ((((H).drop).drop).drop).drop) hx19 (fun _ e => e))),
    trivial⟩
  · exact ⟨by intro a w g hE hF H; obtain ⟨q20, rfl⟩ : ∃ x, x = g := ⟨g, rfl⟩; refine (Dr.run rfl (d_alloc al60 H)).mono fun v w hR => ?_; obtain ⟨q20, rfl, H⟩ := hR; exact ⟨q20, H, rfl⟩,
    by intro a w g hE hF H; obtain ⟨q20, rfl⟩ : ∃ x, x = g := ⟨g, rfl⟩; have hE := Dr.env_both hE hF; refine (Dr.run rfl (d_store sz60 hE rfl rfl rfl (oneAll rfl) H rfl)).mono fun v w hR => ?_; have H : St z I w (Bl q20 60 [(.int .i64 x18.From), (.int .i64 x18.To), (.int .i64 x18.Cost)] :: Bl q14 214 [(.int .i64 a1.arc), (.bool a1.back)] :: Bl q0 130 [u0_arcs, u0_given] :: OwnSl (cInt .i64) u0_given a0_given :: r) := hR; exact ⟨q20, H, rfl⟩,
    trivial⟩
  · intro a w g hE H
    obtain ⟨q20, rfl⟩ : ∃ x, x = g := ⟨g, rfl⟩
    have H : St z I w (Bl q20 60 [(.int .i64 x18.From), (.int .i64 x18.To), (.int .i64 x18.Cost)] :: Bl q14 214 [(.int .i64 a1.arc), (.bool a1.back)] :: Bl q0 130 [u0_arcs, u0_given] :: OwnSl (cInt .i64) u0_given a0_given :: r) := H
    refine wp_seq ?_
    refine wp_seq ?_
    refine wp_region_lit ?_
    refine s1 hE rfl (d_fieldAddr fld214_1 hE rfl) fun a hE => ?_
    refine s1 hE rfl (d_load sc4 hE rfl H 1 rfl rfl) fun a hE => ?_
    refine wpList_nil ?_
    by_cases c22 : a1.back = true
    · rw [if_pos c22] at hm
      refine cT hE rfl c22 ?_
      refine wp_seq ?_
      refine Dr.region (γ := Unit) (pre := [[], [0], [], [2], [0, 1], [0, 1, 2, 3, 4]]) (val := [some (.pointer (some (ad q20 (0 + 1)))), some (.int .i64 x18.To), some (.pointer (some (ad q20 (0 + 0)))), some (.int .i64 x18.From), some (.int .i64 x18.To), some (.int .i64 x18.From)]) (eff := []) (mask := [[]]) (keys := [[]]) (src := [[.base 6], [.op 0], [.base 6], [.op 2], [.op 1], [.op 3]]) (z := z) (ef := fun p g => ([[]] : List (List (Nat × Value))).getD p []) (hi := fun _ _ => I) (rs := fun p g => ([Bl q20 60 [(.int .i64 x18.From), (.int .i64 x18.To), (.int .i64 x18.Cost)] :: Bl q14 214 [(.int .i64 a1.arc), (.bool a1.back)] :: Bl q0 130 [u0_arcs, u0_given] :: OwnSl (cInt .i64) u0_given a0_given :: r] : List (List Asn)).getD p []) [(0, 0), (1, 0), (2, 0), (3, 0), (4, 0), (5, 0)] [] [0, 1, 2, 3, 4, 5] 0 mo hE () rfl H (by kernel_rfl) (by kernel_rfl) (fun p g => by cases p <;> rfl) ?_ ?_ (by kernel_rfl) (by kernel_rfl) ?_
      · exact ⟨by intro a w g hE H; exact Dr.is H rfl (Dr.run rfl (d_fieldAddr fld60_1 hE rfl)),
    by intro a w g hE H; exact Dr.is H rfl (Dr.run rfl (d_load sc3 hE rfl H 0 rfl rfl)),
    by intro a w g hE H; exact Dr.is H rfl (Dr.run rfl (d_fieldAddr fld60_0 hE rfl)),
    by intro a w g hE H; exact Dr.is H rfl (Dr.run rfl (d_load sc3 hE rfl H 0 rfl rfl)),
    by intro a w g hE H; exact Dr.is H rfl (Dr.run rfl (d_assign hE rfl)),
    by intro a w g hE H; exact Dr.is H rfl (Dr.run rfl (d_assign hE rfl)),
    trivial⟩
      · trivial
      · intro a w g hE H
        have H : St z I w (Bl q20 60 [(.int .i64 x18.From), (.int .i64 x18.To), (.int .i64 x18.Cost)] :: Bl q14 214 [(.int .i64 a1.arc), (.bool a1.back)] :: Bl q0 130 [u0_arcs, u0_given] :: OwnSl (cInt .i64) u0_given a0_given :: r) := H
        refine wp_ret ?_
        cases hm
        have H := St.get H 3 rfl
        have H := St.get H 3 rfl
        have H := St.del H 2
        have H := St.del H 2
        exact ret2 rfl hE rfl rfl ⟨_, rfl, rfl, H⟩
    · rw [if_neg c22] at hm
      refine cF hE rfl (b_f c22) ?_
      refine wp_skip ?_
      refine wp_seq ?_
      refine Dr.region (γ := Unit) (pre := [[], [0], [], [2], [0, 1], [0, 1, 2, 3, 4]]) (val := [some (.pointer (some (ad q20 (0 + 0)))), some (.int .i64 x18.From), some (.pointer (some (ad q20 (0 + 1)))), some (.int .i64 x18.To), some (.int .i64 x18.From), some (.int .i64 x18.To)]) (eff := []) (mask := [[]]) (keys := [[]]) (src := [[.base 6], [.op 0], [.base 6], [.op 2], [.op 1], [.op 3]]) (z := z) (ef := fun p g => ([[]] : List (List (Nat × Value))).getD p []) (hi := fun _ _ => I) (rs := fun p g => ([Bl q20 60 [(.int .i64 x18.From), (.int .i64 x18.To), (.int .i64 x18.Cost)] :: Bl q14 214 [(.int .i64 a1.arc), (.bool a1.back)] :: Bl q0 130 [u0_arcs, u0_given] :: OwnSl (cInt .i64) u0_given a0_given :: r] : List (List Asn)).getD p []) [(0, 0), (1, 0), (2, 0), (3, 0), (4, 0), (5, 0)] [] [0, 1, 2, 3, 4, 5] 0 mo hE () rfl H (by kernel_rfl) (by kernel_rfl) (fun p g => by cases p <;> rfl) ?_ ?_ (by kernel_rfl) (by kernel_rfl) ?_
      · exact ⟨by intro a w g hE H; exact Dr.is H rfl (Dr.run rfl (d_fieldAddr fld60_0 hE rfl)),
    by intro a w g hE H; exact Dr.is H rfl (Dr.run rfl (d_load sc3 hE rfl H 0 rfl rfl)),
    by intro a w g hE H; exact Dr.is H rfl (Dr.run rfl (d_fieldAddr fld60_1 hE rfl)),
    by intro a w g hE H; exact Dr.is H rfl (Dr.run rfl (d_load sc3 hE rfl H 0 rfl rfl)),
    by intro a w g hE H; exact Dr.is H rfl (Dr.run rfl (d_assign hE rfl)),
    by intro a w g hE H; exact Dr.is H rfl (Dr.run rfl (d_assign hE rfl)),
    trivial⟩
      · trivial
      · intro a w g hE H
        have H : St z I w (Bl q20 60 [(.int .i64 x18.From), (.int .i64 x18.To), (.int .i64 x18.Cost)] :: Bl q14 214 [(.int .i64 a1.arc), (.bool a1.back)] :: Bl q0 130 [u0_arcs, u0_given] :: OwnSl (cInt .i64) u0_given a0_given :: r) := H
        refine wp_ret ?_
        cases hm
        have H := St.get H 3 rfl
        have H := St.get H 3 rfl
        have H := St.del H 2
        have H := St.del H 2
        exact ret2 rfl hE rfl rfl ⟨_, rfl, rfl, H⟩
def m183 (a0_arcs : List S_api_Arc) (a0_given : List Int) (a1 : S_flow_step) : Option Int := if a1.back = true then (Option.bind (rdx a0_given a1.arc) fun x32 => some x32) else (Option.bind (rdx a0_arcs a1.arc) fun x38 => Option.bind (rdx a0_given a1.arc) fun x40 => some (IntKind.i64.wrap (x38.Cost - x40)))
set_option maxRecDepth 20000 in
set_option maxHeartbeats 4000000 in
theorem f183_ok {q0 : Nat} {u0_arcs : Value} (a0_arcs : List S_api_Arc) {u0_given : Value} (a0_given : List Int) (a1 : S_flow_step) {res : Int} (hm : m183 a0_arcs a0_given a1 = some res) {z w : World} {I : Hp} {r : List Asn} (hr0_arcs : Rd c_api_Arc z I r u0_arcs a0_arcs) (H : St z I w (Bl q0 130 [u0_arcs, u0_given] :: OwnSl (cInt .i64) u0_given a0_given :: r)) :
    Calls Try.prog 183 #[(.pointer (some (ad q0 0))), (.agg #[(.int .i64 a1.arc), (.bool a1.back)])] w (Rt fun v w' => v = (.int .i64 res) ∧ St z I w' (Bl q0 130 [u0_arcs, u0_given] :: OwnSl (cInt .i64) u0_given a0_given :: r)) := by
  have hI := Hp.le_refl I
  unfold m183 at hm
  refine enter (args := [(.pointer (some (ad q0 0))), (.agg #[(.int .i64 a1.arc), (.bool a1.back)])]) Try.func183 rfl Try.ntmps183 rfl fun a hE => ?_
  refine wp_seq ?_
  refine wp_region_lit ?_
  refine s2 hE rfl (d_box hE rfl H) fun a v w hR hE => ?_
  obtain ⟨q23, rfl, H⟩ := hR
  have H : St z I w (Bl q23 214 [(.int .i64 a1.arc), (.bool a1.back)] :: Bl q0 130 [u0_arcs, u0_given] :: OwnSl (cInt .i64) u0_given a0_given :: r) := H
  refine s1 hE rfl (d_assign hE rfl) fun a hE => ?_
  refine wpList_nil ?_
  refine wp_seq ?_
  refine wp_seq ?_
  refine wp_region_lit ?_
  refine s1 hE rfl (d_fieldAddr fld214_1 hE rfl) fun a hE => ?_
  refine s1 hE rfl (d_load sc4 hE rfl H 0 rfl rfl) fun a hE => ?_
  refine wpList_nil ?_
  by_cases c29 : a1.back = true
  · rw [if_pos c29] at hm
    refine cT hE rfl c29 ?_
    refine wp_seq ?_
    obtain ⟨x32, hx33, hm⟩ := bnd hm
    refine Dr.region (γ := Unit) (pre := [[], [0], [0, 1], [0, 1, 2], [], [4], [0, 1, 2, 3, 4, 5], [0, 1, 2, 3, 4, 5, 6], [0, 1, 2, 3, 4, 5, 6, 7]]) (val := [some (.pointer (some (ad q0 0))), some (.pointer (some (ad q0 0))), some (.pointer (some (ad q0 (0 + 1)))), some u0_given, some (.pointer (some (ad q23 (0 + 0)))), some (.int .i64 a1.arc), some (.pointer (some (ad (sb u0_given) (so u0_given + (a1.arc).toNat * (cInt .i64).n)))), some (.int .i64 x32), some (.int .i64 x32)]) (eff := []) (mask := [[]]) (keys := [[]]) (src := [[.base 0], [.op 0], [.op 1], [.op 2], [.base 3], [.op 4], [.op 3, .op 5], [.op 6], [.op 7]]) (z := z) (ef := fun p g => ([[]] : List (List (Nat × Value))).getD p []) (hi := fun _ _ => I) (rs := fun p g => ([Bl q23 214 [(.int .i64 a1.arc), (.bool a1.back)] :: Bl q0 130 [u0_arcs, u0_given] :: OwnSl (cInt .i64) u0_given a0_given :: r] : List (List Asn)).getD p []) [(0, 0), (1, 0), (2, 0), (3, 0), (4, 0), (5, 0), (6, 0), (7, 0), (8, 0)] [] [0, 1, 2, 3, 4, 5, 6, 7, 8] 0 mo hE () rfl H (by kernel_rfl) (by kernel_rfl) (fun p g => by cases p <;> rfl) ?_ ?_ (by kernel_rfl) (by kernel_rfl) ?_
    · exact ⟨by intro a w g hE H; exact Dr.is H rfl (Dr.run rfl (d_move hE rfl)),
    by intro a w g hE H; exact Dr.is H rfl (Dr.run rfl (d_nilCheck hE rfl)),
    by intro a w g hE H; exact Dr.is H rfl (Dr.run rfl (d_fieldAddr fld130_1 hE rfl)),
    by intro a w g hE H; exact Dr.is H rfl (Dr.run rfl (d_load sc51 hE rfl H 1 rfl rfl)),
    by intro a w g hE H; exact Dr.is H rfl (Dr.run rfl (d_fieldAddr fld214_0 hE rfl)),
    by intro a w g hE H; exact Dr.is H rfl (Dr.run rfl (d_load sc3 hE rfl H 0 rfl rfl)),
    by intro a w g hE H; exact Dr.is H rfl (Dr.run rfl (d_indexS sl51 hE rfl rfl (St.rd H 2 rfl) hx33)),
    by intro a w g hE H; exact Dr.is H rfl (Dr.run rfl (d_loadS1 sc3 hE rfl (St.rd H 2 rfl) hx33 (fun _ e => e))),
    by intro a w g hE H; exact Dr.is H rfl (Dr.run rfl (d_assign hE rfl)),
    trivial⟩
    · trivial
    · intro a w g hE H
      have H : St z I w (Bl q23 214 [(.int .i64 a1.arc), (.bool a1.back)] :: Bl q0 130 [u0_arcs, u0_given] :: OwnSl (cInt .i64) u0_given a0_given :: r) := H
      refine wp_ret ?_
      cases hm
      have H := St.get H 2 rfl
      have H := St.get H 2 rfl
      have H := St.del H 2
      exact ret1 rfl hE rfl ⟨_, rfl, rfl, H⟩
  · rw [if_neg c29] at hm
    refine cF hE rfl (b_f c29) ?_
    refine wp_skip ?_
    refine wp_seq ?_
    obtain ⟨x38, hx39, hm⟩ := bnd hm
    obtain ⟨x40, hx41, hm⟩ := bnd hm
    refine Dr.region (γ := Unit) (pre := [[], [0], [0, 1], [0, 1, 2], [], [4], [0, 1, 2, 3, 4, 5], [0, 1, 2, 3, 4, 5, 6], [0, 1, 2, 3, 4, 5, 6, 7], [], [9], [9, 10], [9, 10, 11], [], [13], [9, 10, 11, 12, 13, 14], [9, 10, 11, 12, 13, 14, 15], [0, 1, 2, 3, 4, 5, 6, 7, 8, 9, 10, 11, 12, 13, 14, 15, 16], [0, 1, 2, 3, 4, 5, 6, 7, 8, 9, 10, 11, 12, 13, 14, 15, 16, 17]]) (val := [some (.pointer (some (ad q0 0))), some (.pointer (some (ad q0 0))), some (.pointer (some (ad q0 (0 + 0)))), some u0_arcs, some (.pointer (some (ad q23 (0 + 0)))), some (.int .i64 a1.arc), some (.pointer (some (ad (sb u0_arcs) (so u0_arcs + (a1.arc).toNat * c_api_Arc.n)))), some (.pointer (some (ad (sb u0_arcs) (so u0_arcs + (a1.arc).toNat * c_api_Arc.n + 2)))), some (.int .i64 x38.Cost), some (.pointer (some (ad q0 0))), some (.pointer (some (ad q0 0))), some (.pointer (some (ad q0 (0 + 1)))), some u0_given, some (.pointer (some (ad q23 (0 + 0)))), some (.int .i64 a1.arc), some (.pointer (some (ad (sb u0_given) (so u0_given + (a1.arc).toNat * (cInt .i64).n)))), some (.int .i64 x40), some (.int .i64 (IntKind.i64.wrap (x38.Cost - x40))), some (.int .i64 (IntKind.i64.wrap (x38.Cost - x40)))]) (eff := []) (mask := [[]]) (keys := [[]]) (src := [[.base 0], [.op 0], [.op 1], [.op 2], [.base 3], [.op 4], [.op 3, .op 5], [.op 6], [.op 7], [.base 0], [.op 9], [.op 10], [.op 11], [.base 3], [.op 13], [.op 12, .op 14], [.op 15], [.op 8, .op 16], [.op 17]]) (z := z) (ef := fun p g => ([[]] : List (List (Nat × Value))).getD p []) (hi := fun _ _ => I) (rs := fun p g => ([Bl q23 214 [(.int .i64 a1.arc), (.bool a1.back)] :: Bl q0 130 [u0_arcs, u0_given] :: OwnSl (cInt .i64) u0_given a0_given :: r] : List (List Asn)).getD p []) [(0, 0), (1, 0), (2, 0), (3, 0), (4, 0), (5, 0), (6, 0), (7, 0), (8, 0), (9, 0), (10, 0), (11, 0), (12, 0), (13, 0), (14, 0), (15, 0), (16, 0), (17, 0), (18, 0)] [] [0, 1, 2, 3, 4, 5, 6, 7, 8, 9, 10, 11, 12, 13, 14, 15, 16, 17, 18] 0 mo hE () rfl H (by kernel_rfl) (by kernel_rfl) (fun p g => by cases p <;> rfl) ?_ ?_ (by kernel_rfl) (by kernel_rfl) ?_
    · exact ⟨by intro a w g hE H; exact Dr.is H rfl (Dr.run rfl (d_move hE rfl)),
    by intro a w g hE H; exact Dr.is H rfl (Dr.run rfl (d_nilCheck hE rfl)),
    by intro a w g hE H; exact Dr.is H rfl (Dr.run rfl (d_fieldAddr fld130_0 hE rfl)),
    by intro a w g hE H; exact Dr.is H rfl (Dr.run rfl (d_load sc55 hE rfl H 1 rfl rfl)),
    by intro a w g hE H; exact Dr.is H rfl (Dr.run rfl (d_fieldAddr fld214_0 hE rfl)),
    by intro a w g hE H; exact Dr.is H rfl (Dr.run rfl (d_load sc3 hE rfl H 0 rfl rfl)),
    by intro a w g hE H; exact Dr.is H rfl (Dr.run rfl (d_indexS sl55 hE rfl rfl (Rd.st hr0_arcs hI (((H).drop).drop).drop) hx39)),
    by intro a w g hE H; exact Dr.is H rfl (Dr.run rfl (d_fieldAddr fld60_2 hE rfl)),
    by intro a w g hE H; exact Dr.is H rfl (Dr.run rfl (d_loadSf (j := 2) sc3 hE rfl (Rd.st hr0_arcs hI (((H).drop).drop).drop) hx39 (fun _ e => by rw [e]; rfl))),
    by intro a w g hE H; exact Dr.is H rfl (Dr.run rfl (d_move hE rfl)),
    by intro a w g hE H; exact Dr.is H rfl (Dr.run rfl (d_nilCheck hE rfl)),
    by intro a w g hE H; exact Dr.is H rfl (Dr.run rfl (d_fieldAddr fld130_1 hE rfl)),
    by intro a w g hE H; exact Dr.is H rfl (Dr.run rfl (d_load sc51 hE rfl H 1 rfl rfl)),
    by intro a w g hE H; exact Dr.is H rfl (Dr.run rfl (d_fieldAddr fld214_0 hE rfl)),
    by intro a w g hE H; exact Dr.is H rfl (Dr.run rfl (d_load sc3 hE rfl H 0 rfl rfl)),
    by intro a w g hE H; exact Dr.is H rfl (Dr.run rfl (d_indexS sl51 hE rfl rfl (St.rd H 2 rfl) hx41)),
    by intro a w g hE H; exact Dr.is H rfl (Dr.run rfl (d_loadS1 sc3 hE rfl (St.rd H 2 rfl) hx41 (fun _ e => e))),
    by intro a w g hE H; exact Dr.is H rfl (Dr.run rfl (d_sub hE rfl rfl)),
    by intro a w g hE H; exact Dr.is H rfl (Dr.run rfl (d_assign hE rfl)),
    trivial⟩
    · trivial
    · intro a w g hE H
      have H : St z I w (Bl q23 214 [(.int .i64 a1.arc), (.bool a1.back)] :: Bl q0 130 [u0_arcs, u0_given] :: OwnSl (cInt .i64) u0_given a0_given :: r) := H
      refine wp_ret ?_
      cases hm
      have H := St.get H 2 rfl
      have H := St.get H 2 rfl
      have H := St.del H 2
      exact ret1 rfl hE rfl ⟨_, rfl, rfl, H⟩
def m142_l2 (y26206 : Int) (a0_arcs : List S_api_Arc) (a0_given : List Int) : Nat → (List (Int × S_flow_step)) → (List Int) → Int → Option ((List Int) × (List (Int × S_flow_step)))
  | 0, _, _, _ => none
  | k + 1, m27487, l27489, y27490 => if y27490 < (([false, true]).length : Int) then (Option.bind (rdx ([false, true]) y27490) fun x27684 => Option.bind (m182 a0_arcs a0_given (⟨y26206, x27684⟩ : S_flow_step)) fun x27690 => Option.bind (some ((mget m27487 x27690.2).getD (⟨0, false⟩ : S_flow_step))) fun x27695 => Option.bind (α := Bool) (Option.bind (rdx l27489 0) fun x27707 => if x27690.1 = x27707 then (if (mget m27487 x27690.2).isSome = true then (some false) else (Option.bind (m183 a0_arcs a0_given (⟨y26206, x27684⟩ : S_flow_step)) fun x27711 => some (decide (0 < x27711)))) else (some false)) fun s27706 => Option.bind (α := (List (Int × S_flow_step)) × (List Int)) (if s27706 = true then (Option.bind (some (mput m27487 x27690.2 (⟨y26206, x27684⟩ : S_flow_step))) fun m27733 => Option.bind (appd 17592186044416 l27489 ([x27690.2])) fun l27740 => some (m27733, l27740)) else (some (m27487, l27489))) fun s27729 => m142_l2 y26206 a0_arcs a0_given k s27729.1 s27729.2 (IntKind.i64.wrap (y27490 + 1))) else (some (l27489, m27487))
def m142_l1 (a0_arcs : List S_api_Arc) (a0_given : List Int) : Nat → (List (Int × S_flow_step)) → (List Int) → Int → Option ((List Int) × (List (Int × S_flow_step)))
  | 0, _, _, _ => none
  | k + 1, m26203, l26205, y26206 => if y26206 < (a0_arcs.length : Int) then (Option.bind (m142_l2 y26206 a0_arcs a0_given k m26203 l26205 0) fun s27618 => m142_l1 a0_arcs a0_given k s27618.2 s27618.1 (IntKind.i64.wrap (y26206 + 1))) else (some (l26205, m26203))
def m142_l0 (a0_arcs : List S_api_Arc) (a0_given : List Int) : Nat → (List (Int × S_flow_step)) → (List Int) → Option (List (Int × S_flow_step))
  | 0, _, _ => none
  | k + 1, m18504, l18506 => if 0 < (l18506.length : Int) then (Option.bind (m142_l1 a0_arcs a0_given k m18504 l18506 0) fun s26976 => Option.bind (cutx s26976.1 1 (s26976.1.length : Int)) fun l27746 => m142_l0 a0_arcs a0_given k s26976.2 l27746) else (some m18504)
def m142 (k : Nat) (a0_arcs : List S_api_Arc) (a0_given : List Int) (a1 : Int) : Option (List (Int × S_flow_step)) := Option.bind (some (mput [] a1 (⟨(-1), false⟩ : S_flow_step))) fun m13880 => Option.bind (m142_l0 a0_arcs a0_given k m13880 ([a1])) fun s23128 => some s23128
set_option maxRecDepth 20000 in
set_option maxHeartbeats 4000000 in
theorem f142_ok (k : Nat) {q0 : Nat} {u0_arcs : Value} (a0_arcs : List S_api_Arc) {u0_given : Value} (a0_given : List Int) (a1 : Int) {res : (List (Int × S_flow_step))} (hm : m142 k a0_arcs a0_given a1 = some res) {z w : World} {I : Hp} {r : List Asn} (hr0_arcs : Rd c_api_Arc z I r u0_arcs a0_arcs) (H : St z I w (Bl q0 130 [u0_arcs, u0_given] :: OwnSl (cInt .i64) u0_given a0_given :: r)) :
    Calls Try.prog 142 #[(.pointer (some (ad q0 0))), (.int .i64 a1)] w (Rt fun v w' => ∃ q13874 : Nat, v = (.map (some q13874)) ∧ St z I w' (Bl q0 130 [u0_arcs, u0_given] :: OwnSl (cInt .i64) u0_given a0_given :: MapR c_flow_step true q13874 res :: r)) := by
  have hI := Hp.le_refl I
  unfold m142 at hm
  refine enter (args := [(.pointer (some (ad q0 0))), (.int .i64 a1)]) Try.func142 rfl Try.ntmps142 rfl fun a hE => ?_
  refine wp_seq ?_
  refine wp_region_lit ?_
  refine s1 hE rfl (d_assign hE rfl) fun a hE => ?_
  refine wpList_nil ?_
  refine wp_seq ?_
  refine wp_region_lit ?_
  refine s2 hE rfl (d_makeMap (c := c_flow_step) (g := true) H) fun a v w hR hE => ?_
  obtain ⟨q13879, rfl, H⟩ := hR
  refine s1 hE rfl (d_move hE rfl) fun a hE => ?_
  refine s1 hE rfl (d_build hE rfl (bld214_0In _)) fun a hE => ?_
  obtain ⟨m13880, hl13881, hm⟩ := bnd hm
  refine s3 (b_insert (c := c_flow_step) (g := true) (cs := [(.int .i64 (-1)), (.bool false)]) (xv := (⟨(-1), false⟩ : S_flow_step)) Try.underlying212 Try.underlying3 hE rfl rfl rfl rfl rfl hl13881 H) fun v w hR => ?_
  have H : St z I w (MapR c_flow_step true q13879 m13880 :: Bl q0 130 [u0_arcs, u0_given] :: OwnSl (cInt .i64) u0_given a0_given :: r) := hR
  refine s1 hE rfl (d_move hE rfl) fun a hE => ?_
  refine s1 hE rfl (d_assign hE rfl) fun a hE => ?_
  refine wpList_nil ?_
  refine wp_seq ?_
  refine wp_seq ?_
  refine wp_region_lit ?_
  refine s1 hE rfl (d_move hE rfl) fun a hE => ?_
  refine s2 hE rfl (d_lit (c := (cInt .i64)) (xs := [a1]) hE rfl (lit51_1 _) rfl rfl (rowsC (cs := [(.int .i64 a1)]) rfl (rows0)) H) fun a v w hR hE => ?_
  obtain ⟨v13883, rfl⟩ : ∃ x, x = v := ⟨v, rfl⟩
  have H : St z I w (OwnSl (cInt .i64) v13883 ([a1]) :: MapR c_flow_step true q13879 m13880 :: Bl q0 130 [u0_arcs, u0_given] :: OwnSl (cInt .i64) u0_given a0_given :: r) := hR
  refine s1 hE rfl (d_assign hE rfl) fun a hE => ?_
  refine wpList_nil ?_
  obtain ⟨s23128, hj23128, hm⟩ := bnd hm
  refine cut2 (fun a w => Env a 80 [(5, (.map (some q13879)))] ∧ St z I w (Bl q0 130 [u0_arcs, u0_given] :: OwnSl (cInt .i64) u0_given a0_given :: MapR c_flow_step true q13879 s23128 :: r)) ?_ ?_
  · refine wp_block ?_
    refine loopI (fun k a w => ∃ m18504 : List (Int × S_flow_step), ∃ l18506 : List Int, m142_l0 a0_arcs a0_given k m18504 l18506 = some s23128 ∧ ∃ v18505 : Value, Env a 80 [(0, (.pointer (some (ad q0 0)))), (5, (.map (some q13879))), (6, v18505)] ∧ St z I w (Bl q0 130 [u0_arcs, u0_given] :: OwnSl (cInt .i64) u0_given a0_given :: MapR c_flow_step true q13879 m18504 :: OwnSl (cInt .i64) v18505 l18506 :: r)) ?_ k _ _ ?_
    · rintro k a w ⟨m18504, l18506, hm, v18505, hE, H⟩
      cases k with
      | zero => rw [m142_l0] at hm; cases hm
      | succ k =>
        rw [m142_l0] at hm
        refine wp_seq ?_
        refine wp_seq ?_
        refine wp_region_lit ?_
        refine s1 hE rfl (d_move hE rfl) fun a hE => ?_
        refine s1 hE rfl (d_lenS Try.underlying51 hE rfl (St.rd H 3 rfl)) fun a hE => ?_
        refine s1 hE rfl (d_gtr hE rfl rfl) fun a hE => ?_
        refine wpList_nil ?_
        by_cases c23130 : 0 < (l18506.length : Int)
        · rw [if_pos c23130] at hm
          refine cT hE rfl (decide_eq_true c23130) ?_
          refine wp_skip ?_
          refine wp_seq ?_
          refine wp_block ?_
          refine wp_seq ?_
          refine wp_region_lit ?_
          refine s1 hE rfl (d_move hE rfl) fun a hE => ?_
          refine s1 hE rfl (d_nilCheck hE rfl) fun a hE => ?_
          refine s1 hE rfl (d_fieldAddr fld130_0 hE rfl) fun a hE => ?_
          refine s1 hE rfl (d_load sc55 hE rfl H 0 rfl rfl) fun a hE => ?_
          refine s1 hE rfl (d_lenS Try.underlying55 hE rfl (Rd.st hr0_arcs hI ((((H).drop).drop).drop).drop)) fun a hE => ?_
          refine s1 hE rfl (d_move hE rfl) fun a hE => ?_
          refine wpList_nil ?_
          obtain ⟨s26976, hj26976, hm⟩ := bnd hm
          refine cut2 (fun a w => ∃ v26973 : Value, Env a 80 [(0, (.pointer (some (ad q0 0)))), (5, (.map (some q13879))), (6, v26973)] ∧ St z I w (Bl q0 130 [u0_arcs, u0_given] :: OwnSl (cInt .i64) u0_given a0_given :: MapR c_flow_step true q13879 s26976.2 :: OwnSl (cInt .i64) v26973 s26976.1 :: r)) ?_ ?_
          · refine wp_block ?_
            refine loopI (fun k a w => ∃ m26203 : List (Int × S_flow_step), ∃ l26205 : List Int, ∃ y26206 : Int, m142_l1 a0_arcs a0_given k m26203 l26205 y26206 = some s26976 ∧ ∃ v26204 : Value, Env a 80 [(0, (.pointer (some (ad q0 0)))), (5, (.map (some q13879))), (6, v26204), (30, (.int .i64 (a0_arcs.length : Int))), (31, (.int .i64 y26206))] ∧ St z I w (Bl q0 130 [u0_arcs, u0_given] :: OwnSl (cInt .i64) u0_given a0_given :: MapR c_flow_step true q13879 m26203 :: OwnSl (cInt .i64) v26204 l26205 :: r)) ?_ k _ _ ?_
            · rintro k a w ⟨m26203, l26205, y26206, hm, v26204, hE, H⟩
              cases k with
              | zero => rw [m142_l1] at hm; cases hm
              | succ k =>
                rw [m142_l1] at hm
                refine wp_seq ?_
                refine wp_region_lit ?_
                refine s1 hE rfl (d_lss hE rfl rfl) fun a hE => ?_
                refine wpList_nil ?_
                refine wp_seq ?_
                by_cases c26978 : y26206 < (a0_arcs.length : Int)
                · rw [if_pos c26978] at hm
                  refine cT hE rfl (decide_eq_true c26978) ?_
                  refine wp_skip ?_
                  refine wp_seq ?_
                  refine wp_block ?_
                  refine wp_seq ?_
                  refine wp_region_lit ?_
                  refine s1 hE rfl (d_move hE rfl) fun a hE => ?_
                  refine s1 hE rfl (d_assign hE rfl) fun a hE => ?_
                  refine wpList_nil ?_
                  refine wp_seq ?_
                  refine wp_region_lit ?_
                  refine s2 hE rfl (d_lit (c := cBool) (xs := [false, true]) hE rfl (lit243_2 _ _) rfl rfl (rowsC (cs := [(.bool false)]) rfl (rowsC (cs := [(.bool true)]) rfl (rows0))) H) fun a v w hR hE => ?_
                  obtain ⟨v27362, rfl⟩ : ∃ x, x = v := ⟨v, rfl⟩
                  have H : St z I w (OwnSl cBool v27362 ([false, true]) :: Bl q0 130 [u0_arcs, u0_given] :: OwnSl (cInt .i64) u0_given a0_given :: MapR c_flow_step true q13879 m26203 :: OwnSl (cInt .i64) v26204 l26205 :: r) := hR
                  refine s1 hE rfl (d_lenS Try.underlying243 hE rfl (St.rd H 0 rfl)) fun a hE => ?_
                  refine s1 hE rfl (d_move hE rfl) fun a hE => ?_
                  refine wpList_nil ?_
                  obtain ⟨s27618, hj27618, hm⟩ := bnd hm
                  refine cut2 (fun a w => ∃ v27615 : Value, Env a 80 [(0, (.pointer (some (ad q0 0)))), (5, (.map (some q13879))), (6, v27615), (30, (.int .i64 (a0_arcs.length : Int))), (31, (.int .i64 y26206))] ∧ St z I w (Bl q0 130 [u0_arcs, u0_given] :: OwnSl (cInt .i64) u0_given a0_given :: MapR c_flow_step true q13879 s27618.2 :: OwnSl (cInt .i64) v27615 s27618.1 :: r)) ?_ ?_
                  · refine wp_block ?_
                    refine loopI (fun k a w => ∃ m27487 : List (Int × S_flow_step), ∃ l27489 : List Int, ∃ y27490 : Int, m142_l2 y26206 a0_arcs a0_given k m27487 l27489 y27490 = some s27618 ∧ ∃ v27488 : Value, Env a 80 [(0, (.pointer (some (ad q0 0)))), (5, (.map (some q13879))), (6, v27488), (7, (.int .i64 y26206)), (30, (.int .i64 (a0_arcs.length : Int))), (31, (.int .i64 y26206)), (34, v27362), (35, (.int .i64 (([false, true]).length : Int))), (36, (.int .i64 y27490))] ∧ St z I w (Bl q0 130 [u0_arcs, u0_given] :: OwnSl (cInt .i64) u0_given a0_given :: MapR c_flow_step true q13879 m27487 :: OwnSl (cInt .i64) v27488 l27489 :: OwnSl cBool v27362 ([false, true]) :: r)) ?_ k _ _ ?_
                    · rintro k a w ⟨m27487, l27489, y27490, hm, v27488, hE, H⟩
                      cases k with
                      | zero => rw [m142_l2] at hm; cases hm
                      | succ k =>
                        rw [m142_l2] at hm
                        refine wp_seq ?_
                        refine wp_region_lit ?_
                        refine s1 hE rfl (d_lss hE rfl rfl) fun a hE => ?_
                        refine wpList_nil ?_
                        refine wp_seq ?_
                        by_cases c27620 : y27490 < (([false, true]).length : Int)
                        · rw [if_pos c27620] at hm
                          refine cT hE rfl (decide_eq_true c27620) ?_
                          refine wp_skip ?_
                          refine wp_seq ?_
                          refine wp_block ?_
                          refine wp_seq ?_
                          refine wp_region_lit ?_
                          obtain ⟨x27684, hx27685, hm⟩ := bnd hm
                          refine s1 hE rfl (d_indexS sl243 hE rfl rfl (St.rd H 4 rfl) hx27685) fun a hE => ?_
                          refine s1 hE rfl (d_loadS1 sc4 hE rfl (St.rd H 4 rfl) hx27685 (fun _ e => e)) fun a hE => ?_
                          refine s1 hE rfl (d_assign hE rfl) fun a hE => ?_
                          refine wpList_nil ?_
                          refine wp_seq ?_
                          refine wp_region_lit ?_
                          refine s1 hE rfl (d_move hE rfl) fun a hE => ?_
                          refine s1 hE rfl (d_move hE rfl) fun a hE => ?_
                          refine s1 hE rfl (d_build hE rfl (bld214_0In_1Bo _ _)) fun a hE => ?_
                          refine s2 hE rfl (d_alloc al214 H) fun a v w hR hE => ?_
                          obtain ⟨q27687, rfl, H⟩ := hR
                          refine s3 (d_store sz214 hE rfl rfl rfl (oneAll rfl) H rfl) fun v w hR => ?_
                          have H : St z I w (Bl q27687 214 [(.int .i64 y26206), (.bool x27684)] :: Bl q0 130 [u0_arcs, u0_given] :: OwnSl (cInt .i64) u0_given a0_given :: MapR c_flow_step true q13879 m27487 :: OwnSl (cInt .i64) v27488 l27489 :: OwnSl cBool v27362 ([false, true]) :: r) := hR
                          refine wpList_nil ?_
                          refine wp_seq ?_
                          refine wp_region_lit ?_
                          refine s1 hE rfl (d_move hE rfl) fun a hE => ?_
                          refine s1 hE rfl (d_loadA ag214 hE rfl H 0 rfl rfl) fun a hE => ?_
                          obtain ⟨x27690, hc27691, hm⟩ := bnd hm
                          have H := St.get H 2 rfl
                          have H := St.get H 2 rfl
                          have H : St z I w (Bl q0 130 [u0_arcs, u0_given] :: OwnSl (cInt .i64) u0_given a0_given :: Bl q27687 214 [(.int .i64 y26206), (.bool x27684)] :: MapR c_flow_step true q13879 m27487 :: OwnSl (cInt .i64) v27488 l27489 :: OwnSl cBool v27362 ([false, true]) :: r) := H
                          refine s2 hE rfl (d_call c182 hE rfl (f182_ok a0_arcs a0_given (⟨y26206, x27684⟩ : S_flow_step) hc27691 (Rd.cons (Rd.cons (Rd.cons (Rd.cons hr0_arcs)))) H)) fun a v w hR hE => ?_
                          obtain ⟨rfl, H⟩ := hR
                          refine s1 hE rfl (d_move hE rfl) fun a hE => ?_
                          refine s1 hE rfl (d_extract hE rfl rfl) fun a hE => ?_
                          refine s1 hE rfl (d_extract hE rfl rfl) fun a hE => ?_
                          refine s1 hE rfl (d_assign hE rfl) fun a hE => ?_
                          refine s1 hE rfl (d_assign hE rfl) fun a hE => ?_
                          refine wpList_nil ?_
                          refine wp_seq ?_
                          refine wp_region_lit ?_
                          refine s1 hE rfl (d_move hE rfl) fun a hE => ?_
                          refine s1 hE rfl (d_move hE rfl) fun a hE => ?_
                          obtain ⟨x27695, hx27696, hm⟩ := bnd hm
                          refine s1 hE rfl (b_lookup2 (V := (fun x : S_flow_step => (.agg #[(.int .i64 x.arc), (.bool x.back)]))) (zx := (⟨0, false⟩ : S_flow_step)) (c := c_flow_step) (g := true) Try.underlying212 Try.underlying3 zv214 (fun _ _ _ h => by rw [h]; rfl) hE rfl rfl hx27696 H 3 rfl) fun a hE => ?_
                          refine s1 hE rfl (d_move hE rfl) fun a hE => ?_
                          refine s1 hE rfl (d_extract hE rfl rfl) fun a hE => ?_
                          refine s1 hE rfl (d_extract hE rfl rfl) fun a hE => ?_
                          refine s2 hE rfl (d_alloc al214 H) fun a v w hR hE => ?_
                          obtain ⟨q27697, rfl, H⟩ := hR
                          refine s3 (d_store sz214 hE rfl rfl rfl (oneAll rfl) H rfl) fun v w hR => ?_
                          have H : St z I w (Bl q27697 214 [(.int .i64 x27695.arc), (.bool x27695.back)] :: Bl q0 130 [u0_arcs, u0_given] :: OwnSl (cInt .i64) u0_given a0_given :: Bl q27687 214 [(.int .i64 y26206), (.bool x27684)] :: MapR c_flow_step true q13879 m27487 :: OwnSl (cInt .i64) v27488 l27489 :: OwnSl cBool v27362 ([false, true]) :: r) := hR
                          refine s1 hE rfl (d_assign hE rfl) fun a hE => ?_
                          refine wpList_nil ?_
                          refine wp_seq ?_
                          obtain ⟨s27706, hj27706, hm⟩ := bnd hm
                          refine cut2 (fun a w => Env a 80 [(0, (.pointer (some (ad q0 0)))), (5, (.map (some q13879))), (6, v27488), (7, (.int .i64 y26206)), (10, (.pointer (some (ad q27687 0)))), (12, (.int .i64 x27690.2)), (30, (.int .i64 (a0_arcs.length : Int))), (31, (.int .i64 y26206)), (34, v27362), (35, (.int .i64 (([false, true]).length : Int))), (36, (.int .i64 y27490)), (69, (.bool s27706))] ∧ St z I w (Bl q0 130 [u0_arcs, u0_given] :: OwnSl (cInt .i64) u0_given a0_given :: MapR c_flow_step true q13879 m27487 :: OwnSl (cInt .i64) v27488 l27489 :: Bl q27687 214 [(.int .i64 y26206), (.bool x27684)] :: OwnSl cBool v27362 ([false, true]) :: r)) ?_ ?_
                          · have hm := hj27706
                            refine wp_region_lit ?_
                            refine s1 hE rfl (d_move hE rfl) fun a hE => ?_
                            refine s1 hE rfl (d_move hE rfl) fun a hE => ?_
                            obtain ⟨x27707, hx27708, hm⟩ := bnd hm
                            refine s1 hE rfl (d_indexS sl51 hE rfl rfl (St.rd H 5 rfl) hx27708) fun a hE => ?_
                            refine s1 hE rfl (d_loadS1 sc3 hE rfl (St.rd H 5 rfl) hx27708 (fun _ e => e)) fun a hE => ?_
                            refine s1 hE rfl (d_eql hE rfl rfl) fun a hE => ?_
                            refine s1 hE rfl (d_move hE rfl) fun a hE => ?_
                            by_cases c27709 : x27690.1 = x27707
                            · rw [if_pos c27709] at hm
                              refine gR hE rfl rfl (decide_eq_true c27709) ?_
                              refine s1 hE rfl (d_move hE rfl) fun a hE => ?_
                              refine gR hE rfl rfl (decide_eq_true c27709) ?_
                              refine s1 hE rfl (d_not hE rfl) fun a hE => ?_
                              refine s1 hE rfl (d_pT hE rfl (decide_eq_true c27709) rfl) fun a hE => ?_
                              refine s1 hE rfl (d_move hE rfl) fun a hE => ?_
                              by_cases c27710 : (mget m27487 x27690.2).isSome = true
                              · rw [if_pos c27710] at hm
                                refine gP hE rfl rfl rfl (not_f c27710) fun a hE => ?_
                                refine gP hE rfl rfl rfl (not_f c27710) fun a hE => ?_
                                refine gP hE rfl rfl rfl (not_f c27710) fun a hE => ?_
                                refine gP hE rfl rfl rfl (not_f c27710) fun a hE => ?_
                                refine s1 hE rfl (d_pF hE rfl (not_f c27710) rfl) fun a hE => ?_
                                refine wpList_nil ?_
                                cases hm
                                have H := St.get H 6 rfl
                                have H := St.get H 4 rfl
                                have H := St.get H 6 rfl
                                have H := St.get H 6 rfl
                                have H := St.get H 6 rfl
                                have H := St.get H 6 rfl
                                have H := St.del H 6
                                exact ⟨hE.sub ⟨rfl, rfl, rfl, rfl, rfl, rfl, rfl, rfl, rfl, rfl, rfl, rfl, trivial⟩, H⟩
                              · rw [if_neg c27710] at hm
                                refine gR hE rfl rfl (not_t (b_f c27710)) ?_
                                refine s1 hE rfl (d_move hE rfl) fun a hE => ?_
                                refine gR hE rfl rfl (not_t (b_f c27710)) ?_
                                refine s1 hE rfl (d_loadA ag214 hE rfl H 3 rfl rfl) fun a hE => ?_
                                refine gR hE rfl rfl (not_t (b_f c27710)) ?_
                                obtain ⟨x27711, hc27712, hm⟩ := bnd hm
                                have H := St.get H 2 rfl
                                have H := St.get H 2 rfl
                                have H : St z I w (Bl q0 130 [u0_arcs, u0_given] :: OwnSl (cInt .i64) u0_given a0_given :: Bl q27697 214 [(.int .i64 x27695.arc), (.bool x27695.back)] :: Bl q27687 214 [(.int .i64 y26206), (.bool x27684)] :: MapR c_flow_step true q13879 m27487 :: OwnSl (cInt .i64) v27488 l27489 :: OwnSl cBool v27362 ([false, true]) :: r) := H
                                refine s2 hE rfl (d_call c183 hE rfl (f183_ok a0_arcs a0_given (⟨y26206, x27684⟩ : S_flow_step) hc27712 (Rd.cons (Rd.cons (Rd.cons (Rd.cons (Rd.cons hr0_arcs))))) H)) fun a v w hR hE => ?_
                                obtain ⟨rfl, H⟩ := hR
                                refine gR hE rfl rfl (not_t (b_f c27710)) ?_
                                refine s1 hE rfl (d_gtr hE rfl rfl) fun a hE => ?_
                                refine s1 hE rfl (d_pT hE rfl (not_t (b_f c27710)) rfl) fun a hE => ?_
                                refine wpList_nil ?_
                                cases hm
                                have H := St.get H 6 rfl
                                have H := St.get H 4 rfl
                                have H := St.get H 6 rfl
                                have H := St.get H 6 rfl
                                have H := St.get H 5 rfl
                                have H := St.get H 5 rfl
                                have H := St.del H 6
                                exact ⟨hE.sub ⟨rfl, rfl, rfl, rfl, rfl, rfl, rfl, rfl, rfl, rfl, rfl, rfl, trivial⟩, H⟩
                            · rw [if_neg c27709] at hm
                              refine gP hE rfl rfl rfl (decide_eq_false c27709) fun a hE => ?_
                              refine gP hE rfl rfl rfl (decide_eq_false c27709) fun a hE => ?_
                              refine s1 hE rfl (d_pF hE rfl (decide_eq_false c27709) rfl) fun a hE => ?_
                              refine s1 hE rfl (d_move hE rfl) fun a hE => ?_
                              refine gP hE rfl rfl rfl rfl fun a hE => ?_
                              refine gP hE rfl rfl rfl rfl fun a hE => ?_
                              refine gP hE rfl rfl rfl rfl fun a hE => ?_
                              refine gP hE rfl rfl rfl rfl fun a hE => ?_
                              refine s1 hE rfl (d_pF hE rfl rfl rfl) fun a hE => ?_
                              refine wpList_nil ?_
                              cases hm
                              have H := St.get H 6 rfl
                              have H := St.get H 4 rfl
                              have H := St.get H 6 rfl
                              have H := St.get H 6 rfl
                              have H := St.get H 6 rfl
                              have H := St.get H 6 rfl
                              have H := St.del H 6
                              exact ⟨hE.sub ⟨rfl, rfl, rfl, rfl, rfl, rfl, rfl, rfl, rfl, rfl, rfl, rfl, trivial⟩, H⟩
                          · rintro a w ⟨hE, H⟩
                            obtain ⟨s27729, hj27729, hm⟩ := bnd hm
                            refine cut2 (fun a w => ∃ v27727 : Value, Env a 80 [(0, (.pointer (some (ad q0 0)))), (5, (.map (some q13879))), (6, v27727), (7, (.int .i64 y26206)), (30, (.int .i64 (a0_arcs.length : Int))), (31, (.int .i64 y26206)), (34, v27362), (35, (.int .i64 (([false, true]).length : Int))), (36, (.int .i64 y27490))] ∧ St z I w (Bl q0 130 [u0_arcs, u0_given] :: OwnSl (cInt .i64) u0_given a0_given :: MapR c_flow_step true q13879 s27729.1 :: OwnSl (cInt .i64) v27727 s27729.2 :: OwnSl cBool v27362 ([false, true]) :: r)) ?_ ?_
                            · have hm := hj27729
                              by_cases c27730 : s27706 = true
                              · rw [if_pos c27730] at hm
                                refine cT hE rfl c27730 ?_
                                refine wp_seq ?_
                                refine wp_region_lit ?_
                                refine s1 hE rfl (d_move hE rfl) fun a hE => ?_
                                refine s1 hE rfl (d_move hE rfl) fun a hE => ?_
                                refine s1 hE rfl (d_loadA ag214 hE rfl H 4 rfl rfl) fun a hE => ?_
                                obtain ⟨m27733, hl27734, hm⟩ := bnd hm
                                have H := St.get H 2 rfl
                                refine s3 (b_mapUpdate (c := c_flow_step) (g := true) (cs := [(.int .i64 y26206), (.bool x27684)]) (xv := (⟨y26206, x27684⟩ : S_flow_step)) Try.underlying212 Try.underlying3 hE rfl rfl rfl rfl rfl hl27734 H) fun v w hR => ?_
                                have H : St z I w (MapR c_flow_step true q13879 m27733 :: Bl q0 130 [u0_arcs, u0_given] :: OwnSl (cInt .i64) u0_given a0_given :: OwnSl (cInt .i64) v27488 l27489 :: Bl q27687 214 [(.int .i64 y26206), (.bool x27684)] :: OwnSl cBool v27362 ([false, true]) :: r) := hR
                                refine wpList_nil ?_
                                refine wp_region_lit ?_
                                refine s1 hE rfl (d_move hE rfl) fun a hE => ?_
                                refine s1 hE rfl (d_move hE rfl) fun a hE => ?_
                                refine s2 hE rfl (d_lit (c := (cInt .i64)) (xs := [x27690.2]) hE rfl (lit51_1 _) rfl rfl (rowsC (cs := [(.int .i64 x27690.2)]) rfl (rows0)) H) fun a v w hR hE => ?_
                                obtain ⟨v27739, rfl⟩ : ∃ x, x = v := ⟨v, rfl⟩
                                have H : St z I w (OwnSl (cInt .i64) v27739 ([x27690.2]) :: MapR c_flow_step true q13879 m27733 :: Bl q0 130 [u0_arcs, u0_given] :: OwnSl (cInt .i64) u0_given a0_given :: OwnSl (cInt .i64) v27488 l27489 :: Bl q27687 214 [(.int .i64 y26206), (.bool x27684)] :: OwnSl cBool v27362 ([false, true]) :: r) := hR
                                obtain ⟨l27740, ha27741, hm⟩ := bnd hm
                                have H := St.get H 4 rfl
                                have H : St z I w (OwnSl (cInt .i64) v27488 l27489 :: OwnSl (cInt .i64) v27739 ([x27690.2]) :: MapR c_flow_step true q13879 m27733 :: Bl q0 130 [u0_arcs, u0_given] :: OwnSl (cInt .i64) u0_given a0_given :: Bl q27687 214 [(.int .i64 y26206), (.bool x27684)] :: OwnSl cBool v27362 ([false, true]) :: r) := H
                                refine s2 hE rfl (d_appendO (lim := 17592186044416) el51 (by decide) (by decide) hE rfl rfl H ha27741) fun a v w hR hE => ?_
                                obtain ⟨v27742, rfl⟩ : ∃ x, x = v := ⟨v, rfl⟩
                                have H : St z I w (OwnSl (cInt .i64) v27742 l27740 :: MapR c_flow_step true q13879 m27733 :: Bl q0 130 [u0_arcs, u0_given] :: OwnSl (cInt .i64) u0_given a0_given :: Bl q27687 214 [(.int .i64 y26206), (.bool x27684)] :: OwnSl cBool v27362 ([false, true]) :: r) := hR
                                refine s1 hE rfl (d_assign hE rfl) fun a hE => ?_
                                refine wpList_nil ?_
                                cases hm
                                have H := St.get H 5 rfl
                                have H := St.get H 1 rfl
                                have H := St.get H 2 rfl
                                have H := St.get H 4 rfl
                                have H := St.get H 4 rfl
                                have H := St.del H 5
                                exact ⟨v27742, hE.sub ⟨rfl, rfl, rfl, rfl, rfl, rfl, rfl, rfl, rfl, trivial⟩, H⟩
                              · rw [if_neg c27730] at hm
                                refine cF hE rfl (b_f c27730) ?_
                                refine wp_skip ?_
                                cases hm
                                have H := St.get H 5 rfl
                                have H := St.get H 4 rfl
                                have H := St.get H 4 rfl
                                have H := St.get H 4 rfl
                                have H := St.get H 4 rfl
                                have H := St.del H 5
                                exact ⟨v27488, hE.sub ⟨rfl, rfl, rfl, rfl, rfl, rfl, rfl, rfl, rfl, trivial⟩, H⟩
                            · rintro a w ⟨v27727, hE, H⟩
                              refine wp_region_lit ?_
                              refine s1 hE rfl (d_add hE rfl rfl) fun a hE => ?_
                              refine s1 hE rfl (d_move hE rfl) fun a hE => ?_
                              refine wpList_nil ?_
                              exact ⟨k, Nat.lt_succ_self k, s27729.1, s27729.2, IntKind.i64.wrap (y27490 + 1), hm, v27727, hE.sub ⟨rfl, rfl, rfl, rfl, rfl, rfl, rfl, rfl, rfl, trivial⟩, H⟩
                        · rw [if_neg c27620] at hm
                          refine cF hE rfl (decide_eq_false c27620) ?_
                          refine wp_exit ?_
                          cases hm
                          have H := St.del H 4
                          exact ⟨v27488, hE.sub ⟨rfl, rfl, rfl, rfl, rfl, trivial⟩, H⟩
                    · have H := St.get H 4 rfl
                      have H := St.get H 4 rfl
                      have H := St.get H 4 rfl
                      have H := St.get H 4 rfl
                      exact ⟨m26203, l26205, 0, hj27618, v26204, hE.sub ⟨rfl, rfl, rfl, rfl, rfl, rfl, rfl, rfl, rfl, trivial⟩, H⟩
                  · rintro a w ⟨v27615, hE, H⟩
                    refine wp_region_lit ?_
                    refine s1 hE rfl (d_add hE rfl rfl) fun a hE => ?_
                    refine s1 hE rfl (d_move hE rfl) fun a hE => ?_
                    refine wpList_nil ?_
                    exact ⟨k, Nat.lt_succ_self k, s27618.2, s27618.1, IntKind.i64.wrap (y26206 + 1), hm, v27615, hE.sub ⟨rfl, rfl, rfl, rfl, rfl, trivial⟩, H⟩
                · rw [if_neg c26978] at hm
                  refine cF hE rfl (decide_eq_false c26978) ?_
                  refine wp_exit ?_
                  cases hm
                  exact ⟨v26204, hE.sub ⟨rfl, rfl, rfl, trivial⟩, H⟩
            · exact ⟨m18504, l18506, 0, hj26976, v18505, hE.sub ⟨rfl, rfl, rfl, rfl, rfl, trivial⟩, H⟩
          · rintro a w ⟨v26973, hE, H⟩
            refine wp_region_lit ?_
            refine s1 hE rfl (d_move hE rfl) fun a hE => ?_
            obtain ⟨l27746, hl27747, hm⟩ := bnd hm
            have H := St.get H 3 rfl
            refine s2 hE rfl (d_sliceO (c := (cInt .i64)) (lo := 1) (hi := (s26976.1.length : Int)) sl51 hE rfl (.inl ⟨_, rfl, rfl⟩) (.inr ⟨rfl, rfl⟩) hl27747 H) fun a v w hR hE => ?_
            obtain ⟨v27748, rfl⟩ : ∃ x, x = v := ⟨v, rfl⟩
            have H : St z I w (OwnSl (cInt .i64) v27748 l27746 :: Bl q0 130 [u0_arcs, u0_given] :: OwnSl (cInt .i64) u0_given a0_given :: MapR c_flow_step true q13879 s26976.2 :: r) := hR
            refine s1 hE rfl (d_assign hE rfl) fun a hE => ?_
            refine wpList_nil ?_
            have H := St.get H 3 rfl
            have H := St.get H 3 rfl
            have H := St.get H 3 rfl
            exact ⟨k, Nat.lt_succ_self k, s26976.2, l27746, hm, v27748, hE.sub ⟨rfl, rfl, rfl, trivial⟩, H⟩
        · rw [if_neg c23130] at hm
          refine cF hE rfl (decide_eq_false c23130) ?_
          refine wp_exit ?_
          cases hm
          have H := St.del H 3
          exact ⟨hE.sub ⟨rfl, trivial⟩, H⟩
    · have H := St.get H 1 rfl
      have H := St.get H 3 rfl
      have H := St.get H 3 rfl
      exact ⟨m13880, [a1], hj23128, v13883, hE.sub ⟨rfl, rfl, rfl, trivial⟩, H⟩
  · rintro a w ⟨hE, H⟩
    refine wp_seq ?_
    refine wp_region_lit ?_
    refine s1 hE rfl (d_move hE rfl) fun a hE => ?_
    refine s1 hE rfl (d_assign hE rfl) fun a hE => ?_
    refine wpList_nil ?_
    refine wp_ret ?_
    cases hm
    exact ret1 rfl hE rfl ⟨_, rfl, q13879, rfl, H⟩
def m143_l0 (a1 : Int) (x577 : (List (Int × S_flow_step))) (a0_arcs : List S_api_Arc) (a0_given : List Int) : Nat → (List S_flow_step) → Int → Option (List S_flow_step)
  | 0, _, _ => none
  | k + 1, l627, y628 => if y628 = a1 then (some l627) else (Option.bind (some ((mget x577 y628).getD (⟨0, false⟩ : S_flow_step))) fun x693 => Option.bind (appd 8796093022208 l627 ([x693])) fun l701 => Option.bind (m182 a0_arcs a0_given x693) fun x706 => m143_l0 a1 x577 a0_arcs a0_given k l701 x706.1)
def m143_l1 (s669 : (List S_flow_step)) (a0_arcs : List S_api_Arc) (a0_given : List Int) : Nat → Int → Int → Option Int
  | 0, _, _ => none
  | k + 1, y738, y739 => if y739 < (s669.length : Int) then (Option.bind (rdx s669 y739) fun x779 => Option.bind (m183 a0_arcs a0_given x779) fun x784 => m143_l1 s669 a0_arcs a0_given k (if x784 < y738 then x784 else y738) (IntKind.i64.wrap (y739 + 1))) else (some y738)
def m143_l2 (s669 : (List S_flow_step)) (s763 : Int) : Nat → (List Int) → Int → Option (List Int)
  | 0, _, _ => none
  | k + 1, l904, y905 => if y905 < (s669.length : Int) then (Option.bind (rdx s669 y905) fun x1089 => Option.bind (α := (List Int)) (if x1089.back = true then (Option.bind (rdx l904 x1089.arc) fun x1126 => Option.bind (rdx l904 x1089.arc) fun x1128 => Option.bind (some (l904.set (x1089.arc).toNat (IntKind.i64.wrap (x1126 - s763)))) fun l1130 => some l1130) else (Option.bind (rdx l904 x1089.arc) fun x1138 => Option.bind (rdx l904 x1089.arc) fun x1140 => Option.bind (some (l904.set (x1089.arc).toNat (IntKind.i64.wrap (x1138 + s763)))) fun l1142 => some l1142)) fun s1118 => m143_l2 s669 s763 k s1118 (IntKind.i64.wrap (y905 + 1))) else (some l904)
def m143 (k : Nat) (a0_arcs : List S_api_Arc) (a0_given : List Int) (a1 : Int) (a2 : Int) : Option (Bool × (List Int)) := Option.bind (m142 k a0_arcs a0_given a1) fun x577 => Option.bind (some ((mget x577 a2).getD (⟨0, false⟩ : S_flow_step))) fun x583 => if (mget x577 a2).isSome = true then (Option.bind (m143_l0 a1 x577 a0_arcs a0_given k [] a2) fun s669 => Option.bind (rdx s669 0) fun x712 => Option.bind (m183 a0_arcs a0_given x712) fun x714 => Option.bind (m143_l1 s669 a0_arcs a0_given k x714 0) fun s763 => Option.bind (m143_l2 s669 s763 k a0_given 0) fun s1025 => some (true, s1025)) else (some (false, a0_given))
set_option maxRecDepth 20000 in
set_option maxHeartbeats 4000000 in
theorem f143_ok (k : Nat) {q0 : Nat} {u0_arcs : Value} (a0_arcs : List S_api_Arc) {u0_given : Value} (a0_given : List Int) (a1 : Int) (a2 : Int) {res : Bool × (List Int)} (hm : m143 k a0_arcs a0_given a1 a2 = some res) {z w : World} {I : Hp} {r : List Asn} (hr0_arcs : Rd c_api_Arc z I r u0_arcs a0_arcs) (H : St z I w (Bl q0 130 [u0_arcs, u0_given] :: OwnSl (cInt .i64) u0_given a0_given :: r)) :
    Calls Try.prog 143 #[(.pointer (some (ad q0 0))), (.int .i64 a1), (.int .i64 a2)] w (Rt fun v w' => v = (.bool res.1) ∧ St z I w' (Bl q0 130 [u0_arcs, u0_given] :: OwnSl (cInt .i64) u0_given res.2 :: r)) := by
  have hI := Hp.le_refl I
  unfold m143 at hm
  refine enter (args := [(.pointer (some (ad q0 0))), (.int .i64 a1), (.int .i64 a2)]) Try.func143 rfl Try.ntmps143 rfl fun a hE => ?_
  refine wp_seq ?_
  refine wp_region_lit ?_
  refine s1 hE rfl (d_assign hE rfl) fun a hE => ?_
  refine wpList_nil ?_
  refine wp_seq ?_
  refine wp_region_lit ?_
  refine s1 hE rfl (d_move hE rfl) fun a hE => ?_
  refine s1 hE rfl (d_move hE rfl) fun a hE => ?_
  obtain ⟨x577, hc578, hm⟩ := bnd hm
  refine s2 hE rfl (d_call c142 hE rfl (f142_ok k a0_arcs a0_given a1 hc578 hr0_arcs H)) fun a v w hR hE => ?_
  obtain ⟨q579, rfl, H⟩ := hR
  refine s1 hE rfl (d_assign hE rfl) fun a hE => ?_
  refine wpList_nil ?_
  refine wp_seq ?_
  refine wp_seq ?_
  refine wp_region_lit ?_
  refine s1 hE rfl (d_move hE rfl) fun a hE => ?_
  refine s1 hE rfl (d_move hE rfl) fun a hE => ?_
  obtain ⟨x583, hx584, hm⟩ := bnd hm
  refine s1 hE rfl (b_lookup2 (V := (fun x : S_flow_step => (.agg #[(.int .i64 x.arc), (.bool x.back)]))) (zx := (⟨0, false⟩ : S_flow_step)) (c := c_flow_step) (g := true) Try.underlying212 Try.underlying3 zv214 (fun _ _ _ h => by rw [h]; rfl) hE rfl rfl hx584 H 2 rfl) fun a hE => ?_
  refine s1 hE rfl (d_move hE rfl) fun a hE => ?_
  refine s1 hE rfl (d_extract hE rfl rfl) fun a hE => ?_
  refine s1 hE rfl (d_extract hE rfl rfl) fun a hE => ?_
  refine s2 hE rfl (d_alloc al214 H) fun a v w hR hE => ?_
  obtain ⟨q585, rfl, H⟩ := hR
  refine s3 (d_store sz214 hE rfl rfl rfl (oneAll rfl) H rfl) fun v w hR => ?_
  have H : St z I w (Bl q585 214 [(.int .i64 x583.arc), (.bool x583.back)] :: Bl q0 130 [u0_arcs, u0_given] :: OwnSl (cInt .i64) u0_given a0_given :: MapR c_flow_step true q579 x577 :: r) := hR
  refine s1 hE rfl (d_assign hE rfl) fun a hE => ?_
  refine wpList_nil ?_
  refine wp_seq ?_
  refine wp_region_lit ?_
  refine s1 hE rfl (d_move hE rfl) fun a hE => ?_
  refine s1 hE rfl (d_not hE rfl) fun a hE => ?_
  refine wpList_nil ?_
  by_cases c587 : (mget x577 a2).isSome = true
  · rw [if_pos c587] at hm
    refine cF hE rfl (not_f c587) ?_
    refine wp_skip ?_
    refine wp_seq ?_
    refine wp_region_lit ?_
    refine s1 hE rfl (d_assign hE rfl) fun a hE => ?_
    refine wpList_nil ?_
    refine wp_seq ?_
    refine wp_seq ?_
    refine wp_region_lit ?_
    refine s1 hE rfl (d_move hE rfl) fun a hE => ?_
    refine s1 hE rfl (d_assign hE rfl) fun a hE => ?_
    refine wpList_nil ?_
    obtain ⟨s669, hj669, hm⟩ := bnd hm
    refine cut2 (fun a w => ∃ v667 : Value, Env a 94 [(0, (.pointer (some (ad q0 0)))), (10, v667)] ∧ St z I w (Bl q0 130 [u0_arcs, u0_given] :: OwnSl (cInt .i64) u0_given a0_given :: OwnSl c_flow_step v667 s669 :: r)) ?_ ?_
    · refine wp_block ?_
      refine loopI (fun k a w => ∃ l627 : List S_flow_step, ∃ y628 : Int, m143_l0 a1 x577 a0_arcs a0_given k l627 y628 = some s669 ∧ ∃ v626 : Value, Env a 94 [(0, (.pointer (some (ad q0 0)))), (1, (.int .i64 a1)), (7, (.map (some q579))), (10, v626), (11, (.int .i64 y628))] ∧ St z I w (Bl q0 130 [u0_arcs, u0_given] :: OwnSl (cInt .i64) u0_given a0_given :: MapR c_flow_step true q579 x577 :: OwnSl c_flow_step v626 l627 :: r)) ?_ k _ _ ?_
      · rintro k a w ⟨l627, y628, hm, v626, hE, H⟩
        cases k with
        | zero => rw [m143_l0] at hm; cases hm
        | succ k =>
          rw [m143_l0] at hm
          refine wp_seq ?_
          refine wp_seq ?_
          refine wp_region_lit ?_
          refine s1 hE rfl (d_move hE rfl) fun a hE => ?_
          refine s1 hE rfl (d_move hE rfl) fun a hE => ?_
          refine s1 hE rfl (d_neq hE rfl rfl) fun a hE => ?_
          refine wpList_nil ?_
          by_cases c671 : y628 = a1
          · rw [if_pos c671] at hm
            refine cF hE rfl (not_f (decide_eq_true c671)) ?_
            refine wp_exit ?_
            cases hm
            have H := St.get H 3 rfl
            have H := St.get H 2 rfl
            have H := St.get H 2 rfl
            have H := St.del H 3
            exact ⟨v626, hE.sub ⟨rfl, rfl, trivial⟩, H⟩
          · rw [if_neg c671] at hm
            refine cT hE rfl (not_t (decide_eq_false c671)) ?_
            refine wp_skip ?_
            refine wp_block ?_
            refine wp_seq ?_
            refine wp_region_lit ?_
            refine s1 hE rfl (d_move hE rfl) fun a hE => ?_
            refine s1 hE rfl (d_move hE rfl) fun a hE => ?_
            obtain ⟨x693, hx694, hm⟩ := bnd hm
            refine s1 hE rfl (b_lookup1 (V := (fun x : S_flow_step => (.agg #[(.int .i64 x.arc), (.bool x.back)]))) (zx := (⟨0, false⟩ : S_flow_step)) (c := c_flow_step) (g := true) Try.underlying212 Try.underlying3 zv214 (fun _ _ _ h => by rw [h]; rfl) hE rfl rfl hx694 H 2 rfl) fun a hE => ?_
            refine s2 hE rfl (d_alloc al214 H) fun a v w hR hE => ?_
            obtain ⟨q695, rfl, H⟩ := hR
            refine s3 (d_store sz214 hE rfl rfl rfl (oneAll rfl) H rfl) fun v w hR => ?_
            have H : St z I w (Bl q695 214 [(.int .i64 x693.arc), (.bool x693.back)] :: Bl q0 130 [u0_arcs, u0_given] :: OwnSl (cInt .i64) u0_given a0_given :: MapR c_flow_step true q579 x577 :: OwnSl c_flow_step v626 l627 :: r) := hR
            refine wpList_nil ?_
            refine wp_seq ?_
            refine wp_region_lit ?_
            refine s1 hE rfl (d_move hE rfl) fun a hE => ?_
            refine s1 hE rfl (d_loadA ag214 hE rfl H 0 rfl rfl) fun a hE => ?_
            refine s2 hE rfl (d_lit (c := c_flow_step) (xs := [x693]) hE rfl (lit248_1 _ _) rfl rfl (rowsC (cs := [(.int .i64 x693.arc), (.bool x693.back)]) rfl (rows0)) H) fun a v w hR hE => ?_
            obtain ⟨v700, rfl⟩ : ∃ x, x = v := ⟨v, rfl⟩
            have H : St z I w (OwnSl c_flow_step v700 ([x693]) :: Bl q695 214 [(.int .i64 x693.arc), (.bool x693.back)] :: Bl q0 130 [u0_arcs, u0_given] :: OwnSl (cInt .i64) u0_given a0_given :: MapR c_flow_step true q579 x577 :: OwnSl c_flow_step v626 l627 :: r) := hR
            obtain ⟨l701, ha702, hm⟩ := bnd hm
            have H := St.get H 5 rfl
            have H : St z I w (OwnSl c_flow_step v626 l627 :: OwnSl c_flow_step v700 ([x693]) :: Bl q695 214 [(.int .i64 x693.arc), (.bool x693.back)] :: Bl q0 130 [u0_arcs, u0_given] :: OwnSl (cInt .i64) u0_given a0_given :: MapR c_flow_step true q579 x577 :: r) := H
            refine s2 hE rfl (d_appendO (lim := 8796093022208) el248 (by decide) (by decide) hE rfl rfl H ha702) fun a v w hR hE => ?_
            obtain ⟨v703, rfl⟩ : ∃ x, x = v := ⟨v, rfl⟩
            have H : St z I w (OwnSl c_flow_step v703 l701 :: Bl q695 214 [(.int .i64 x693.arc), (.bool x693.back)] :: Bl q0 130 [u0_arcs, u0_given] :: OwnSl (cInt .i64) u0_given a0_given :: MapR c_flow_step true q579 x577 :: r) := hR
            refine s1 hE rfl (d_assign hE rfl) fun a hE => ?_
            refine wpList_nil ?_
            refine wp_region_lit ?_
            refine s1 hE rfl (d_move hE rfl) fun a hE => ?_
            refine s1 hE rfl (d_loadA ag214 hE rfl H 1 rfl rfl) fun a hE => ?_
            obtain ⟨x706, hc707, hm⟩ := bnd hm
            have H := St.get H 3 rfl
            have H := St.get H 3 rfl
            have H : St z I w (Bl q0 130 [u0_arcs, u0_given] :: OwnSl (cInt .i64) u0_given a0_given :: OwnSl c_flow_step v703 l701 :: Bl q695 214 [(.int .i64 x693.arc), (.bool x693.back)] :: MapR c_flow_step true q579 x577 :: r) := H
            refine s2 hE rfl (d_call c182 hE rfl (f182_ok a0_arcs a0_given x693 hc707 (Rd.cons (Rd.cons (Rd.cons hr0_arcs))) H)) fun a v w hR hE => ?_
            obtain ⟨rfl, H⟩ := hR
            refine s1 hE rfl (d_move hE rfl) fun a hE => ?_
            refine s1 hE rfl (d_extract hE rfl rfl) fun a hE => ?_
            refine s1 hE rfl (d_extract hE rfl rfl) fun a hE => ?_
            refine s1 hE rfl (d_assign hE rfl) fun a hE => ?_
            refine wpList_nil ?_
            have H := St.get H 2 rfl
            have H := St.get H 4 rfl
            have H := St.get H 3 rfl
            have H := St.get H 3 rfl
            have H := St.del H 4
            exact ⟨k, Nat.lt_succ_self k, l701, x706.1, hm, v703, hE.sub ⟨rfl, rfl, rfl, rfl, rfl, trivial⟩, H⟩
      · have H := St.nil (c := c_flow_step) H none
        have H := St.get H 4 rfl
        have H := St.get H 4 rfl
        have H := St.get H 4 rfl
        have H := St.del H 4
        exact ⟨[], a2, hj669, (.slice none 0 0), hE.sub ⟨rfl, rfl, rfl, rfl, rfl, trivial⟩, H⟩
    · rintro a w ⟨v667, hE, H⟩
      refine wp_seq ?_
      refine wp_region_lit ?_
      refine s1 hE rfl (d_move hE rfl) fun a hE => ?_
      refine s1 hE rfl (d_move hE rfl) fun a hE => ?_
      obtain ⟨x712, hx713, hm⟩ := bnd hm
      refine s1 hE rfl (d_indexS sl248 hE rfl rfl (St.rd H 2 rfl) hx713) fun a hE => ?_
      refine s1 hE rfl (d_loadSA ag214 rfl hE rfl (St.rd H 2 rfl) hx713 (fun _ e => e)) fun a hE => ?_
      obtain ⟨x714, hc715, hm⟩ := bnd hm
      refine s2 hE rfl (d_call c183 hE rfl (f183_ok a0_arcs a0_given x712 hc715 (Rd.cons hr0_arcs) H)) fun a v w hR hE => ?_
      obtain ⟨rfl, H⟩ := hR
      refine s1 hE rfl (d_assign hE rfl) fun a hE => ?_
      refine wpList_nil ?_
      refine wp_seq ?_
      refine wp_seq ?_
      refine wp_region_lit ?_
      refine s1 hE rfl (d_move hE rfl) fun a hE => ?_
      refine s1 hE rfl (d_lenS Try.underlying248 hE rfl (St.rd H 2 rfl)) fun a hE => ?_
      refine s1 hE rfl (d_move hE rfl) fun a hE => ?_
      refine wpList_nil ?_
      obtain ⟨s763, hj763, hm⟩ := bnd hm
      refine cut2 (fun a w => Env a 94 [(0, (.pointer (some (ad q0 0)))), (10, v667), (13, (.int .i64 s763))] ∧ St z I w (Bl q0 130 [u0_arcs, u0_given] :: OwnSl (cInt .i64) u0_given a0_given :: OwnSl c_flow_step v667 s669 :: r)) ?_ ?_
      · refine wp_block ?_
        refine loopI (fun k a w => ∃ y738 : Int, ∃ y739 : Int, m143_l1 s669 a0_arcs a0_given k y738 y739 = some s763 ∧ Env a 94 [(0, (.pointer (some (ad q0 0)))), (10, v667), (13, (.int .i64 y738)), (51, v667), (52, (.int .i64 (s669.length : Int))), (53, (.int .i64 y739))] ∧ St z I w (Bl q0 130 [u0_arcs, u0_given] :: OwnSl (cInt .i64) u0_given a0_given :: OwnSl c_flow_step v667 s669 :: r)) ?_ k _ _ ?_
        · rintro k a w ⟨y738, y739, hm, hE, H⟩
          cases k with
          | zero => rw [m143_l1] at hm; cases hm
          | succ k =>
            rw [m143_l1] at hm
            refine wp_seq ?_
            refine wp_region_lit ?_
            refine s1 hE rfl (d_lss hE rfl rfl) fun a hE => ?_
            refine wpList_nil ?_
            refine wp_seq ?_
            by_cases c765 : y739 < (s669.length : Int)
            · rw [if_pos c765] at hm
              refine cT hE rfl (decide_eq_true c765) ?_
              refine wp_skip ?_
              refine wp_seq ?_
              refine wp_block ?_
              refine wp_seq ?_
              refine wp_region_lit ?_
              obtain ⟨x779, hx780, hm⟩ := bnd hm
              refine s1 hE rfl (d_indexS sl248 hE rfl rfl (St.rd H 2 rfl) hx780) fun a hE => ?_
              refine s1 hE rfl (d_loadSA ag214 rfl hE rfl (St.rd H 2 rfl) hx780 (fun _ e => e)) fun a hE => ?_
              refine s2 hE rfl (d_alloc al214 H) fun a v w hR hE => ?_
              obtain ⟨q781, rfl, H⟩ := hR
              refine s3 (d_store sz214 hE rfl rfl rfl (oneAll rfl) H rfl) fun v w hR => ?_
              have H : St z I w (Bl q781 214 [(.int .i64 x779.arc), (.bool x779.back)] :: Bl q0 130 [u0_arcs, u0_given] :: OwnSl (cInt .i64) u0_given a0_given :: OwnSl c_flow_step v667 s669 :: r) := hR
              refine wpList_nil ?_
              refine wp_region_lit ?_
              refine s1 hE rfl (d_move hE rfl) fun a hE => ?_
              refine s1 hE rfl (d_move hE rfl) fun a hE => ?_
              refine s1 hE rfl (d_loadA ag214 hE rfl H 0 rfl rfl) fun a hE => ?_
              obtain ⟨x784, hc785, hm⟩ := bnd hm
              have H := St.get H 2 rfl
              have H := St.get H 2 rfl
              have H : St z I w (Bl q0 130 [u0_arcs, u0_given] :: OwnSl (cInt .i64) u0_given a0_given :: Bl q781 214 [(.int .i64 x779.arc), (.bool x779.back)] :: OwnSl c_flow_step v667 s669 :: r) := H
              refine s2 hE rfl (d_call c183 hE rfl (f183_ok a0_arcs a0_given x779 hc785 (Rd.cons (Rd.cons hr0_arcs)) H)) fun a v w hR hE => ?_
              obtain ⟨rfl, H⟩ := hR
              refine s1 hE rfl (d_min2 hE rfl rfl) fun a hE => ?_
              refine s1 hE rfl (d_assign hE rfl) fun a hE => ?_
              refine wpList_nil ?_
              refine wp_region_lit ?_
              refine s1 hE rfl (d_add hE rfl rfl) fun a hE => ?_
              refine s1 hE rfl (d_move hE rfl) fun a hE => ?_
              refine wpList_nil ?_
              have H := St.get H 3 rfl
              have H := St.get H 2 rfl
              have H := St.get H 2 rfl
              have H := St.del H 3
              exact ⟨k, Nat.lt_succ_self k, (if x784 < y738 then x784 else y738), IntKind.i64.wrap (y739 + 1), hm, hE.sub ⟨rfl, rfl, rfl, rfl, rfl, rfl, trivial⟩, H⟩
            · rw [if_neg c765] at hm
              refine cF hE rfl (decide_eq_false c765) ?_
              refine wp_exit ?_
              cases hm
              exact ⟨hE.sub ⟨rfl, rfl, rfl, trivial⟩, H⟩
        · exact ⟨x714, 0, hj763, hE.sub ⟨rfl, rfl, rfl, rfl, rfl, rfl, trivial⟩, H⟩
      · rintro a w ⟨hE, H⟩
        refine wp_seq ?_
        refine wp_seq ?_
        refine wp_region_lit ?_
        refine s1 hE rfl (d_move hE rfl) fun a hE => ?_
        refine s1 hE rfl (d_lenS Try.underlying248 hE rfl (St.rd H 2 rfl)) fun a hE => ?_
        refine s1 hE rfl (d_move hE rfl) fun a hE => ?_
        refine wpList_nil ?_
        obtain ⟨s1025, hj1025, hm⟩ := bnd hm
        refine cut2 (fun a w => Env a 94 [] ∧ St z I w (Bl q0 130 [u0_arcs, u0_given] :: OwnSl (cInt .i64) u0_given s1025 :: r)) ?_ ?_
        · refine wp_block ?_
          refine loopI (fun k a w => ∃ l904 : List Int, ∃ y905 : Int, m143_l2 s669 s763 k l904 y905 = some s1025 ∧ Env a 94 [(0, (.pointer (some (ad q0 0)))), (13, (.int .i64 s763)), (63, v667), (64, (.int .i64 (s669.length : Int))), (65, (.int .i64 y905))] ∧ St z I w (Bl q0 130 [u0_arcs, u0_given] :: OwnSl (cInt .i64) u0_given l904 :: OwnSl c_flow_step v667 s669 :: r)) ?_ k _ _ ?_
          · rintro k a w ⟨l904, y905, hm, hE, H⟩
            cases k with
            | zero => rw [m143_l2] at hm; cases hm
            | succ k =>
              rw [m143_l2] at hm
              refine wp_seq ?_
              refine wp_region_lit ?_
              refine s1 hE rfl (d_lss hE rfl rfl) fun a hE => ?_
              refine wpList_nil ?_
              refine wp_seq ?_
              by_cases c1027 : y905 < (s669.length : Int)
              · rw [if_pos c1027] at hm
                refine cT hE rfl (decide_eq_true c1027) ?_
                refine wp_skip ?_
                refine wp_seq ?_
                refine wp_block ?_
                refine wp_seq ?_
                refine wp_region_lit ?_
                obtain ⟨x1089, hx1090, hm⟩ := bnd hm
                refine s1 hE rfl (d_indexS sl248 hE rfl rfl (St.rd H 2 rfl) hx1090) fun a hE => ?_
                refine s1 hE rfl (d_loadSA ag214 rfl hE rfl (St.rd H 2 rfl) hx1090 (fun _ e => e)) fun a hE => ?_
                refine s2 hE rfl (d_alloc al214 H) fun a v w hR hE => ?_
                obtain ⟨q1091, rfl, H⟩ := hR
                refine s3 (d_store sz214 hE rfl rfl rfl (oneAll rfl) H rfl) fun v w hR => ?_
                have H : St z I w (Bl q1091 214 [(.int .i64 x1089.arc), (.bool x1089.back)] :: Bl q0 130 [u0_arcs, u0_given] :: OwnSl (cInt .i64) u0_given l904 :: OwnSl c_flow_step v667 s669 :: r) := hR
                refine wpList_nil ?_
                refine wp_seq ?_
                refine wp_region_lit ?_
                refine s1 hE rfl (d_fieldAddr fld214_1 hE rfl) fun a hE => ?_
                refine s1 hE rfl (d_load sc4 hE rfl H 0 rfl rfl) fun a hE => ?_
                refine wpList_nil ?_
                obtain ⟨s1118, hj1118, hm⟩ := bnd hm
                refine cut2 (fun a w => Env a 94 [(0, (.pointer (some (ad q0 0)))), (13, (.int .i64 s763)), (63, v667), (64, (.int .i64 (s669.length : Int))), (65, (.int .i64 y905))] ∧ St z I w (Bl q0 130 [u0_arcs, u0_given] :: OwnSl (cInt .i64) u0_given s1118 :: OwnSl c_flow_step v667 s669 :: r)) ?_ ?_
                · have hm := hj1118
                  by_cases c1119 : x1089.back = true
                  · rw [if_pos c1119] at hm
                    refine cT hE rfl c1119 ?_
                    obtain ⟨x1126, hx1127, hm⟩ := bnd hm
                    obtain ⟨x1128, hx1129, hm⟩ := bnd hm
                    obtain ⟨l1130, hl1131, hm⟩ := bnd hm
                    refine Dr.region (γ := Unit) (pre := [[], [0], [0, 1], [0, 1, 2], [], [4], [0, 1, 2, 3, 4, 5], [0, 1, 2, 3, 4, 5, 6], [], [0, 1, 2, 3, 4, 5, 6, 7, 8], [0, 1, 2, 3, 4, 5, 6, 7, 8, 9], [0, 1, 2, 3, 4, 5, 6, 7, 8, 9, 10]]) (val := [some (.pointer (some (ad q0 0))), some (.pointer (some (ad q0 0))), some (.pointer (some (ad q0 (0 + 1)))), some u0_given, some (.pointer (some (ad q1091 (0 + 0)))), some (.int .i64 x1089.arc), some (.pointer (some (ad (sb u0_given) (so u0_given + (x1089.arc).toNat * (cInt .i64).n)))), some (.int .i64 x1126), some (.int .i64 s763), some (.int .i64 (IntKind.i64.wrap (x1126 - s763))), some (.pointer (some (ad (sb u0_given) (so u0_given + (x1089.arc).toNat * (cInt .i64).n)))), none]) (eff := [11]) (mask := [[], [11]]) (keys := [[], []]) (src := [[.base 0], [.op 0], [.op 1], [.op 2], [.base 17], [.op 4], [.op 3, .op 5], [.op 6], [.base 13], [.op 7, .op 8], [.op 3, .op 5], [.op 9, .op 10]]) (z := z) (ef := fun p g => ([[], []] : List (List (Nat × Value))).getD p []) (hi := fun _ _ => I) (rs := fun p g => ([Bl q1091 214 [(.int .i64 x1089.arc), (.bool x1089.back)] :: Bl q0 130 [u0_arcs, u0_given] :: OwnSl (cInt .i64) u0_given l904 :: OwnSl c_flow_step v667 s669 :: r, OwnSl (cInt .i64) u0_given l1130 :: Bl q1091 214 [(.int .i64 x1089.arc), (.bool x1089.back)] :: Bl q0 130 [u0_arcs, u0_given] :: OwnSl c_flow_step v667 s669 :: r] : List (List Asn)).getD p []) [(0, 0), (1, 0), (2, 0), (3, 0), (4, 0), (5, 0), (6, 0), (7, 0), (8, 0), (9, 0), (10, 0)] [(0, 11, 1)] [0, 1, 2, 3, 4, 5, 6, 7, 8, 9, 10] 1 mo hE () rfl H (by kernel_rfl) (by kernel_rfl) (fun p g => by rcases p with _ | _ | p <;> rfl) ?_ ?_ (by kernel_rfl) (by kernel_rfl) ?_
                    · exact ⟨by intro a w g hE H; exact Dr.is H rfl (Dr.run rfl (d_move hE rfl)),
    by intro a w g hE H; exact Dr.is H rfl (Dr.run rfl (d_nilCheck hE rfl)),
    by intro a w g hE H; exact Dr.is H rfl (Dr.run rfl (d_fieldAddr fld130_1 hE rfl)),
    by intro a w g hE H; exact Dr.is H rfl (Dr.run rfl (d_load sc51 hE rfl H 1 rfl rfl)),
    by intro a w g hE H; exact Dr.is H rfl (Dr.run rfl (d_fieldAddr fld214_0 hE rfl)),
    by intro a w g hE H; exact Dr.is H rfl (Dr.run rfl (d_load sc3 hE rfl H 0 rfl rfl)),
    by intro a w g hE H; exact Dr.is H rfl (Dr.run rfl (d_indexS sl51 hE rfl rfl (St.rd H 2 rfl) hx1127)),
    by intro a w g hE H; exact Dr.is H rfl (Dr.run rfl (d_loadS1 sc3 hE rfl (St.rd H 2 rfl) hx1127 (fun _ e => e))),
    by intro a w g hE H; exact Dr.is H rfl (Dr.run rfl (d_move hE rfl)),
    by intro a w g hE H; exact Dr.is H rfl (Dr.run rfl (d_sub hE rfl rfl)),
    by intro a w g hE H; exact Dr.is H rfl (Dr.run rfl (d_indexS sl51 hE rfl rfl (St.rd H 2 rfl) hx1129)),
    trivial⟩
                    · exact ⟨by intro a w g hE hF H; have H := St.get H 2 rfl; refine (Dr.run rfl (b_storeS (e' := IntKind.i64.wrap (x1126 - s763)) (c := (cInt .i64)) sz3 hE rfl rfl rfl (oneAll rfl) rfl hx1129 (by rfl) hl1131 H)).mono fun v w hR => ?_; have H : St z I w (OwnSl (cInt .i64) u0_given l1130 :: Bl q1091 214 [(.int .i64 x1089.arc), (.bool x1089.back)] :: Bl q0 130 [u0_arcs, u0_given] :: OwnSl c_flow_step v667 s669 :: r) := hR; exact ⟨(), H, rfl⟩,
    trivial⟩
                    · intro a w g hE H
                      have H : St z I w (OwnSl (cInt .i64) u0_given l1130 :: Bl q1091 214 [(.int .i64 x1089.arc), (.bool x1089.back)] :: Bl q0 130 [u0_arcs, u0_given] :: OwnSl c_flow_step v667 s669 :: r) := H
                      cases hm
                      have H := St.get H 3 rfl
                      have H := St.get H 1 rfl
                      have H := St.get H 3 rfl
                      have H := St.del H 3
                      exact ⟨hE.sub ⟨rfl, rfl, rfl, rfl, rfl, trivial⟩, H⟩
                  · rw [if_neg c1119] at hm
                    refine cF hE rfl (b_f c1119) ?_
                    obtain ⟨x1138, hx1139, hm⟩ := bnd hm
                    obtain ⟨x1140, hx1141, hm⟩ := bnd hm
                    obtain ⟨l1142, hl1143, hm⟩ := bnd hm
                    refine Dr.region (γ := Unit) (pre := [[], [0], [0, 1], [0, 1, 2], [], [4], [0, 1, 2, 3, 4, 5], [0, 1, 2, 3, 4, 5, 6], [], [0, 1, 2, 3, 4, 5, 6, 7, 8], [0, 1, 2, 3, 4, 5, 6, 7, 8, 9], [0, 1, 2, 3, 4, 5, 6, 7, 8, 9, 10]]) (val := [some (.pointer (some (ad q0 0))), some (.pointer (some (ad q0 0))), some (.pointer (some (ad q0 (0 + 1)))), some u0_given, some (.pointer (some (ad q1091 (0 + 0)))), some (.int .i64 x1089.arc), some (.pointer (some (ad (sb u0_given) (so u0_given + (x1089.arc).toNat * (cInt .i64).n)))), some (.int .i64 x1138), some (.int .i64 s763), some (.int .i64 (IntKind.i64.wrap (x1138 + s763))), some (.pointer (some (ad (sb u0_given) (so u0_given + (x1089.arc).toNat * (cInt .i64).n)))), none]) (eff := [11]) (mask := [[], [11]]) (keys := [[], []]) (src := [[.base 0], [.op 0], [.op 1], [.op 2], [.base 17], [.op 4], [.op 3, .op 5], [.op 6], [.base 13], [.op 7, .op 8], [.op 3, .op 5], [.op 9, .op 10]]) (z := z) (ef := fun p g => ([[], []] : List (List (Nat × Value))).getD p []) (hi := fun _ _ => I) (rs := fun p g => ([Bl q1091 214 [(.int .i64 x1089.arc), (.bool x1089.back)] :: Bl q0 130 [u0_arcs, u0_given] :: OwnSl (cInt .i64) u0_given l904 :: OwnSl c_flow_step v667 s669 :: r, OwnSl (cInt .i64) u0_given l1142 :: Bl q1091 214 [(.int .i64 x1089.arc), (.bool x1089.back)] :: Bl q0 130 [u0_arcs, u0_given] :: OwnSl c_flow_step v667 s669 :: r] : List (List Asn)).getD p []) [(0, 0), (1, 0), (2, 0), (3, 0), (4, 0), (5, 0), (6, 0), (7, 0), (8, 0), (9, 0), (10, 0)] [(0, 11, 1)] [0, 1, 2, 3, 4, 5, 6, 7, 8, 9, 10] 1 mo hE () rfl H (by kernel_rfl) (by kernel_rfl) (fun p g => by rcases p with _ | _ | p <;> rfl) ?_ ?_ (by kernel_rfl) (by kernel_rfl) ?_
                    · exact ⟨by intro a w g hE H; exact Dr.is H rfl (Dr.run rfl (d_move hE rfl)),
    by intro a w g hE H; exact Dr.is H rfl (Dr.run rfl (d_nilCheck hE rfl)),
    by intro a w g hE H; exact Dr.is H rfl (Dr.run rfl (d_fieldAddr fld130_1 hE rfl)),
    by intro a w g hE H; exact Dr.is H rfl (Dr.run rfl (d_load sc51 hE rfl H 1 rfl rfl)),
    by intro a w g hE H; exact Dr.is H rfl (Dr.run rfl (d_fieldAddr fld214_0 hE rfl)),
    by intro a w g hE H; exact Dr.is H rfl (Dr.run rfl (d_load sc3 hE rfl H 0 rfl rfl)),
    by intro a w g hE H; exact Dr.is H rfl (Dr.run rfl (d_indexS sl51 hE rfl rfl (St.rd H 2 rfl) hx1139)),
    by intro a w g hE H; exact Dr.is H rfl (Dr.run rfl (d_loadS1 sc3 hE rfl (St.rd H 2 rfl) hx1139 (fun _ e => e))),
    by intro a w g hE H; exact Dr.is H rfl (Dr.run rfl (d_move hE rfl)),
    by intro a w g hE H; exact Dr.is H rfl (Dr.run rfl (d_add hE rfl rfl)),
    by intro a w g hE H; exact Dr.is H rfl (Dr.run rfl (d_indexS sl51 hE rfl rfl (St.rd H 2 rfl) hx1141)),
    trivial⟩
                    · exact ⟨by intro a w g hE hF H; have H := St.get H 2 rfl; refine (Dr.run rfl (b_storeS (e' := IntKind.i64.wrap (x1138 + s763)) (c := (cInt .i64)) sz3 hE rfl rfl rfl (oneAll rfl) rfl hx1141 (by rfl) hl1143 H)).mono fun v w hR => ?_; have H : St z I w (OwnSl (cInt .i64) u0_given l1142 :: Bl q1091 214 [(.int .i64 x1089.arc), (.bool x1089.back)] :: Bl q0 130 [u0_arcs, u0_given] :: OwnSl c_flow_step v667 s669 :: r) := hR; exact ⟨(), H, rfl⟩,
    trivial⟩
                    · intro a w g hE H
                      have H : St z I w (OwnSl (cInt .i64) u0_given l1142 :: Bl q1091 214 [(.int .i64 x1089.arc), (.bool x1089.back)] :: Bl q0 130 [u0_arcs, u0_given] :: OwnSl c_flow_step v667 s669 :: r) := H
                      cases hm
                      have H := St.get H 3 rfl
                      have H := St.get H 1 rfl
                      have H := St.get H 3 rfl
                      have H := St.del H 3
                      exact ⟨hE.sub ⟨rfl, rfl, rfl, rfl, rfl, trivial⟩, H⟩
                · rintro a w ⟨hE, H⟩
                  refine wp_region_lit ?_
                  refine s1 hE rfl (d_add hE rfl rfl) fun a hE => ?_
                  refine s1 hE rfl (d_move hE rfl) fun a hE => ?_
                  refine wpList_nil ?_
                  exact ⟨k, Nat.lt_succ_self k, s1118, IntKind.i64.wrap (y905 + 1), hm, hE.sub ⟨rfl, rfl, rfl, rfl, rfl, trivial⟩, H⟩
              · rw [if_neg c1027] at hm
                refine cF hE rfl (decide_eq_false c1027) ?_
                refine wp_exit ?_
                cases hm
                have H := St.del H 2
                exact ⟨hE.sub trivial, H⟩
          · exact ⟨a0_given, 0, hj1025, hE.sub ⟨rfl, rfl, rfl, rfl, rfl, trivial⟩, H⟩
        · rintro a w ⟨hE, H⟩
          refine wp_seq ?_
          refine wp_region_lit ?_
          refine s1 hE rfl (d_assign hE rfl) fun a hE => ?_
          refine wpList_nil ?_
          refine wp_ret ?_
          cases hm
          exact ret1 rfl hE rfl ⟨_, rfl, rfl, H⟩
  · rw [if_neg c587] at hm
    refine cT hE rfl (not_t (b_f c587)) ?_
    refine wp_seq ?_
    refine wp_region_lit ?_
    refine s1 hE rfl (d_assign hE rfl) fun a hE => ?_
    refine wpList_nil ?_
    refine wp_ret ?_
    cases hm
    have H := St.get H 2 rfl
    have H := St.get H 2 rfl
    have H := St.del H 2
    have H := St.del H 2
    exact ret1 rfl hE rfl ⟨_, rfl, rfl, H⟩
def m82_l0 (a0 : List S_api_Arc) (a1 : Int) (a2 : Int) : Nat → (List Int) → Option (List Int)
  | 0, _ => none
  | k + 1, l95 => Option.bind (m143 k a0 l95 a1 a2) fun x106 => if x106.1 = true then (m82_l0 a0 a1 a2 k x106.2) else (some x106.2)
def m82 (k : Nat) (a0 : List S_api_Arc) (a1 : Int) (a2 : Int) : Option (Option (List Int)) := Option.bind (m86 k a0) fun x61 => Option.bind (α := Bool) (if a1 = a2 then (some true) else (Option.bind (m91 k x61 a1) fun x74 => if x74 = true then (Option.bind (m91 k x61 a2) fun x77 => some (!x77)) else (some true))) fun s72 => if s72 = true then (some none) else (Option.bind (mkl 35184372088832 (a0.length : Int) 0) fun l85 => Option.bind (m82_l0 a0 a1 a2 k l85) fun s103 => some (some s103))
set_option maxRecDepth 20000 in
set_option maxHeartbeats 4000000 in
theorem f82_ok (k : Nat) {u0 : Value} (a0 : List S_api_Arc) (a1 : Int) (a2 : Int) {res : (Option (List Int))} (hm : m82 k a0 a1 a2 = some res) {z w : World} {I : Hp} {r : List Asn} (hr0 : Rd c_api_Arc z I r u0 a0) (H : St z I w (r)) :
    Calls Try.prog 82 #[u0, (.int .i64 a1), (.int .i64 a2)] w (Rt fun v w' => ∃ v56 : Value, v = v56 ∧ St z I w' (OptO (fun (q53 : Nat) (s_ : (List Int)) => Ex fun v54 : Value => Pk [Bl q53 130 [u0, v54], OwnSl (cInt .i64) v54 s_]) v56 res :: r)) := by
  have hI := Hp.le_refl I
  unfold m82 at hm
  refine enter (args := [u0, (.int .i64 a1), (.int .i64 a2)]) Try.func82 rfl Try.ntmps82 rfl fun a hE => ?_
  refine wp_seq ?_
  refine wp_region_lit ?_
  refine s1 hE rfl (d_assign hE rfl) fun a hE => ?_
  refine wpList_nil ?_
  refine wp_seq ?_
  refine wp_region_lit ?_
  refine s1 hE rfl (d_move hE rfl) fun a hE => ?_
  obtain ⟨x61, hc62, hm⟩ := bnd hm
  refine s2 hE rfl (d_call c86 hE rfl (f86_ok k a0 hc62 hr0 H)) fun a v w hR hE => ?_
  obtain ⟨v63, rfl, H⟩ := hR
  refine s1 hE rfl (d_assign hE rfl) fun a hE => ?_
  refine wpList_nil ?_
  refine wp_seq ?_
  refine wp_seq ?_
  obtain ⟨s72, hj72, hm⟩ := bnd hm
  refine cut2 (fun a w => Env a 37 [(0, u0), (1, (.int .i64 a1)), (2, (.int .i64 a2)), (25, (.bool s72))] ∧ St z I w (r)) ?_ ?_
  · have hm := hj72
    refine wp_region_lit ?_
    refine s1 hE rfl (d_move hE rfl) fun a hE => ?_
    refine s1 hE rfl (d_move hE rfl) fun a hE => ?_
    refine s1 hE rfl (d_eql hE rfl rfl) fun a hE => ?_
    refine s1 hE rfl (d_move hE rfl) fun a hE => ?_
    by_cases c73 : a1 = a2
    · rw [if_pos c73] at hm
      refine gP hE rfl rfl rfl (decide_eq_true c73) fun a hE => ?_
      refine gP hE rfl rfl rfl (decide_eq_true c73) fun a hE => ?_
      refine gP hE rfl rfl rfl (decide_eq_true c73) fun a hE => ?_
      refine gP hE rfl rfl rfl (decide_eq_true c73) fun a hE => ?_
      refine s1 hE rfl (d_pT hE rfl (decide_eq_true c73) rfl) fun a hE => ?_
      refine s1 hE rfl (d_move hE rfl) fun a hE => ?_
      refine gP hE rfl rfl rfl rfl fun a hE => ?_
      refine gP hE rfl rfl rfl rfl fun a hE => ?_
      refine gP hE rfl rfl rfl rfl fun a hE => ?_
      refine gP hE rfl rfl rfl rfl fun a hE => ?_
      refine s1 hE rfl (d_pT hE rfl rfl rfl) fun a hE => ?_
      refine wpList_nil ?_
      cases hm
      have H := St.del H 0
      exact ⟨hE.sub ⟨rfl, rfl, rfl, rfl, trivial⟩, H⟩
    · rw [if_neg c73] at hm
      refine gR hE rfl rfl (decide_eq_false c73) ?_
      refine s1 hE rfl (d_move hE rfl) fun a hE => ?_
      refine gR hE rfl rfl (decide_eq_false c73) ?_
      refine s1 hE rfl (d_move hE rfl) fun a hE => ?_
      refine gR hE rfl rfl (decide_eq_false c73) ?_
      obtain ⟨x74, hc75, hm⟩ := bnd hm
      refine s2 hE rfl (d_call c91 hE rfl (f91_ok k x61 a1 hc75 (Rd.own 0 rfl) H)) fun a v w hR hE => ?_
      obtain ⟨rfl, H⟩ := hR
      refine gR hE rfl rfl (decide_eq_false c73) ?_
      refine s1 hE rfl (d_not hE rfl) fun a hE => ?_
      refine s1 hE rfl (d_pF hE rfl (decide_eq_false c73) rfl) fun a hE => ?_
      refine s1 hE rfl (d_move hE rfl) fun a hE => ?_
      by_cases c76 : x74 = true
      · rw [if_pos c76] at hm
        refine gR hE rfl rfl (not_f c76) ?_
        refine s1 hE rfl (d_move hE rfl) fun a hE => ?_
        refine gR hE rfl rfl (not_f c76) ?_
        refine s1 hE rfl (d_move hE rfl) fun a hE => ?_
        refine gR hE rfl rfl (not_f c76) ?_
        obtain ⟨x77, hc78, hm⟩ := bnd hm
        refine s2 hE rfl (d_call c91 hE rfl (f91_ok k x61 a2 hc78 (Rd.own 0 rfl) H)) fun a v w hR hE => ?_
        obtain ⟨rfl, H⟩ := hR
        refine gR hE rfl rfl (not_f c76) ?_
        refine s1 hE rfl (d_not hE rfl) fun a hE => ?_
        refine s1 hE rfl (d_pF hE rfl (not_f c76) rfl) fun a hE => ?_
        refine wpList_nil ?_
        cases hm
        have H := St.del H 0
        exact ⟨hE.sub ⟨rfl, rfl, rfl, rfl, trivial⟩, H⟩
      · rw [if_neg c76] at hm
        refine gP hE rfl rfl rfl (not_t (b_f c76)) fun a hE => ?_
        refine gP hE rfl rfl rfl (not_t (b_f c76)) fun a hE => ?_
        refine gP hE rfl rfl rfl (not_t (b_f c76)) fun a hE => ?_
        refine gP hE rfl rfl rfl (not_t (b_f c76)) fun a hE => ?_
        refine s1 hE rfl (d_pT hE rfl (not_t (b_f c76)) rfl) fun a hE => ?_
        refine wpList_nil ?_
        cases hm
        have H := St.del H 0
        exact ⟨hE.sub ⟨rfl, rfl, rfl, rfl, trivial⟩, H⟩
  · rintro a w ⟨hE, H⟩
    by_cases c80 : s72 = true
    · rw [if_pos c80] at hm
      refine cT hE rfl c80 ?_
      refine wp_seq ?_
      refine wp_region_lit ?_
      refine s1 hE rfl (d_assign hE rfl) fun a hE => ?_
      refine wpList_nil ?_
      refine wp_ret ?_
      cases hm
      have H := St.mk_none (F := fun (q53 : Nat) (s_ : (List Int)) => Ex fun v54 : Value => Pk [Bl q53 130 [u0, v54], OwnSl (cInt .i64) v54 s_]) H
      exact ret1 rfl hE rfl ⟨_, rfl, (.pointer none), rfl, H⟩
    · rw [if_neg c80] at hm
      refine cF hE rfl (b_f c80) ?_
      refine wp_skip ?_
      refine wp_seq ?_
      refine wp_region_lit ?_
      refine s1 hE rfl (d_move hE rfl) fun a hE => ?_
      refine s1 hE rfl (d_move hE rfl) fun a hE => ?_
      refine s1 hE rfl (d_lenS Try.underlying55 hE rfl (Rd.st hr0 hI H)) fun a hE => ?_
      obtain ⟨l85, hl86, hm⟩ := bnd hm
      refine s2 hE rfl (d_make (c := (cInt .i64)) (x0 := 0) (lim := 35184372088832) ez51 rfl (by decide) (by decide) (by decide) hE rfl rfl hl86 H) fun a v w hR hE => ?_
      obtain ⟨v87, rfl⟩ : ∃ x, x = v := ⟨v, rfl⟩
      have H : St z I w (OwnSl (cInt .i64) v87 l85 :: r) := hR
      refine s1 hE rfl (d_build hE rfl (bld130_0Sl_1Sl _ _ (RdSl.slice (Rd.st hr0 hI (H).drop)) (RdSl.slice (St.rd H 0 rfl)))) fun a hE => ?_
      refine s2 hE rfl (d_box hE rfl H) fun a v w hR hE => ?_
      obtain ⟨q88, rfl, H⟩ := hR
      have H : St z I w (Bl q88 130 [u0, v87] :: OwnSl (cInt .i64) v87 l85 :: r) := H
      refine s1 hE rfl (d_assign hE rfl) fun a hE => ?_
      refine wpList_nil ?_
      refine wp_seq ?_
      obtain ⟨s103, hj103, hm⟩ := bnd hm
      refine cut2 (fun a w => Env a 37 [(8, (.pointer (some (ad q88 0))))] ∧ St z I w (Bl q88 130 [u0, v87] :: OwnSl (cInt .i64) v87 s103 :: r)) ?_ ?_
      · refine wp_block ?_
        refine loopI (fun k a w => ∃ l95 : List Int, m82_l0 a0 a1 a2 k l95 = some s103 ∧ Env a 37 [(1, (.int .i64 a1)), (2, (.int .i64 a2)), (8, (.pointer (some (ad q88 0))))] ∧ St z I w (Bl q88 130 [u0, v87] :: OwnSl (cInt .i64) v87 l95 :: r)) ?_ k _ _ ?_
        · rintro k a w ⟨l95, hm, hE, H⟩
          cases k with
          | zero => rw [m82_l0] at hm; cases hm
          | succ k =>
            rw [m82_l0] at hm
            refine wp_seq ?_
            refine wp_seq ?_
            refine wp_region_lit ?_
            refine s1 hE rfl (d_move hE rfl) fun a hE => ?_
            refine s1 hE rfl (d_move hE rfl) fun a hE => ?_
            refine s1 hE rfl (d_move hE rfl) fun a hE => ?_
            obtain ⟨x106, hc107, hm⟩ := bnd hm
            refine s2 hE rfl (d_call c143 hE rfl (f143_ok k a0 l95 a1 a2 hc107 hr0 H)) fun a v w hR hE => ?_
            obtain ⟨rfl, H⟩ := hR
            refine wpList_nil ?_
            by_cases c109 : x106.1 = true
            · rw [if_pos c109] at hm
              refine cT hE rfl c109 ?_
              refine wp_skip ?_
              refine wp_block ?_
              refine wp_skip ?_
              exact ⟨k, Nat.lt_succ_self k, x106.2, hm, hE.sub ⟨rfl, rfl, rfl, trivial⟩, H⟩
            · rw [if_neg c109] at hm
              refine cF hE rfl (b_f c109) ?_
              refine wp_exit ?_
              cases hm
              exact ⟨hE.sub ⟨rfl, trivial⟩, H⟩
        · exact ⟨l85, hj103, hE.sub ⟨rfl, rfl, rfl, trivial⟩, H⟩
      · rintro a w ⟨hE, H⟩
        refine wp_seq ?_
        refine wp_region_lit ?_
        refine s1 hE rfl (d_move hE rfl) fun a hE => ?_
        refine s1 hE rfl (d_assign hE rfl) fun a hE => ?_
        refine wpList_nil ?_
        refine wp_ret ?_
        cases hm
        have H := St.get H 1 rfl
        have H := St.get H 1 rfl
        have H := St.mk_some (F := fun (q53 : Nat) (s_ : (List Int)) => Ex fun v54 : Value => Pk [Bl q53 130 [u0, v54], OwnSl (cInt .i64) v54 s_]) (s := s103) (b := q88) (show St z I w ((fun (q53 : Nat) (s_ : (List Int)) => Ex fun v54 : Value => Pk [Bl q53 130 [u0, v54], OwnSl (cInt .i64) v54 s_]) q88 s103 :: r) from St.ex_intro v87 (St.shut (k := [Bl q88 130 [u0, v87], OwnSl (cInt .i64) v87 s103]) H))
        exact ret1 rfl hE rfl ⟨_, rfl, (.pointer (some (ad q88 0))), rfl, H⟩
def m32_l0 (a0 : List S_api_Arc) (a1 : Int) (x501 : (List Int)) : Nat → Int → Int → Option Int
  | 0, _, _ => none
  | k + 1, y662, y663 => if y663 < (a0.length : Int) then (Option.bind (rdx a0 y663) fun x907 => Option.bind (α := Int) (if a1 = x907.From then (Option.bind (rdx x501 y663) fun x968 => some (IntKind.i64.wrap (y662 + x968))) else (Option.bind (α := Int) (if a1 = x907.To then (Option.bind (rdx x501 y663) fun x980 => some (IntKind.i64.wrap (y662 - x980))) else (some y662)) fun s976 => some s976)) fun s964 => m32_l0 a0 a1 x501 k s964 (IntKind.i64.wrap (y663 + 1))) else (some y662)
def m32 (k : Nat) (a0 : List S_api_Arc) (a1 : Int) (a2 : Int) : Option Int := Option.bind (m82 k a0 a1 a2) fun x498 => oon x498 (some 0) fun x501 => Option.bind (m32_l0 a0 a1 x501 k 0 0) fun s823 => some (IntKind.u64.wrap s823)
set_option maxRecDepth 20000 in
set_option maxHeartbeats 4000000 in
theorem f32_ok (k : Nat) {u0 : Value} (a0 : List S_api_Arc) (a1 : Int) (a2 : Int) {res : Int} (hm : m32 k a0 a1 a2 = some res) {z w : World} {I : Hp} {r : List Asn} (hr0 : Rd c_api_Arc z I r u0 a0) (H : St z I w (r)) :
    Calls Try.prog 32 #[u0, (.int .i64 a1), (.int .i64 a2)] w (Rt fun v w' => v = (.int .u64 res) ∧ St z I w' (r)) := by
  have hI := Hp.le_refl I
  unfold m32 at hm
  refine enter (args := [u0, (.int .i64 a1), (.int .i64 a2)]) Try.func32 rfl Try.ntmps32 rfl fun a hE => ?_
  refine wp_seq ?_
  refine wp_region_lit ?_
  refine s1 hE rfl (d_assign hE rfl) fun a hE => ?_
  refine wpList_nil ?_
  refine wp_seq ?_
  refine wp_region_lit ?_
  refine s1 hE rfl (d_move hE rfl) fun a hE => ?_
  refine s1 hE rfl (d_move hE rfl) fun a hE => ?_
  refine s1 hE rfl (d_move hE rfl) fun a hE => ?_
  obtain ⟨x498, hc499, hm⟩ := bnd hm
  refine s2 hE rfl (d_call c82 hE rfl (f82_ok k a0 a1 a2 hc499 hr0 H)) fun a v w hR hE => ?_
  obtain ⟨v500, rfl, H⟩ := hR
  cases x498 with
  | none =>
    rw [oon_none] at hm
    obtain ⟨hv, H'⟩ := St.opt_none H
    clear H
    subst hv
    have H := H'
    refine s1 hE rfl (d_assign hE rfl) fun a hE => ?_
    refine wpList_nil ?_
    refine wp_seq ?_
    refine wp_seq ?_
    refine wp_region_lit ?_
    refine s1 hE rfl (d_move hE rfl) fun a hE => ?_
    refine s1 hE rfl (d_eqP Try.underlying127 hE rfl rfl) fun a hE => ?_
    refine wpList_nil ?_
    refine cT hE rfl rfl ?_
    refine wp_seq ?_
    refine wp_region_lit ?_
    refine s1 hE rfl (d_assign hE rfl) fun a hE => ?_
    refine wpList_nil ?_
    refine wp_ret ?_
    cases hm
    exact ret1 rfl hE rfl ⟨_, rfl, rfl, H⟩
  | some x501 =>
    rw [oon_some] at hm
    obtain ⟨q502, hv, H'⟩ := St.opt_some H
    clear H
    subst hv
    have H := H'
    obtain ⟨v503, H⟩ := St.ex H
    have H := St.open_ H
    have H : St z I w (Bl q502 130 [u0, v503] :: OwnSl (cInt .i64) v503 x501 :: r) := H
    refine s1 hE rfl (d_assign hE rfl) fun a hE => ?_
    refine wpList_nil ?_
    refine wp_seq ?_
    refine wp_seq ?_
    refine wp_region_lit ?_
    refine s1 hE rfl (d_move hE rfl) fun a hE => ?_
    refine s1 hE rfl (d_eqP Try.underlying127 hE rfl rfl) fun a hE => ?_
    refine wpList_nil ?_
    refine cF hE rfl rfl ?_
    refine wp_skip ?_
    refine wp_seq ?_
    refine wp_region_lit ?_
    refine s1 hE rfl (d_assign hE rfl) fun a hE => ?_
    refine wpList_nil ?_
    refine wp_seq ?_
    refine wp_seq ?_
    refine wp_region_lit ?_
    refine s1 hE rfl (d_move hE rfl) fun a hE => ?_
    refine s1 hE rfl (d_lenS Try.underlying55 hE rfl (Rd.st hr0 hI ((H).drop).drop)) fun a hE => ?_
    refine s1 hE rfl (d_move hE rfl) fun a hE => ?_
    refine wpList_nil ?_
    obtain ⟨s823, hj823, hm⟩ := bnd hm
    refine cut2 (fun a w => Env a 54 [(8, (.int .i64 s823))] ∧ St z I w (r)) ?_ ?_
    · refine wp_block ?_
      refine loopI (fun k a w => ∃ y662 : Int, ∃ y663 : Int, m32_l0 a0 a1 x501 k y662 y663 = some s823 ∧ Env a 54 [(1, (.int .i64 a1)), (7, (.pointer (some (ad q502 0)))), (8, (.int .i64 y662)), (17, u0), (18, (.int .i64 (a0.length : Int))), (19, (.int .i64 y663))] ∧ St z I w (Bl q502 130 [u0, v503] :: OwnSl (cInt .i64) v503 x501 :: r)) ?_ k _ _ ?_
      · rintro k a w ⟨y662, y663, hm, hE, H⟩
        cases k with
        | zero => rw [m32_l0] at hm; cases hm
        | succ k =>
          rw [m32_l0] at hm
          refine wp_seq ?_
          refine wp_region_lit ?_
          refine s1 hE rfl (d_lss hE rfl rfl) fun a hE => ?_
          refine wpList_nil ?_
          refine wp_seq ?_
          by_cases c825 : y663 < (a0.length : Int)
          · rw [if_pos c825] at hm
            refine cT hE rfl (decide_eq_true c825) ?_
            refine wp_skip ?_
            refine wp_seq ?_
            refine wp_block ?_
            refine wp_seq ?_
            refine wp_region_lit ?_
            refine s1 hE rfl (d_move hE rfl) fun a hE => ?_
            obtain ⟨x907, hx908, hm⟩ := bnd hm
            refine s1 hE rfl (d_indexS sl55 hE rfl rfl (Rd.st hr0 hI ((H).drop).drop) hx908) fun a hE => ?_
            refine s1 hE rfl (d_loadSA ag60 rfl hE rfl (Rd.st hr0 hI ((H).drop).drop) hx908 (fun _ e => e)) fun a hE => ?_
            refine s2 hE rfl (d_alloc al60 H) fun a v w hR hE => ?_
            obtain ⟨q909, rfl, H⟩ := hR
            refine s1 hE rfl (d_assign hE rfl) fun a hE => ?_
            refine s3 (d_store sz60 hE rfl rfl rfl (oneAll rfl) H rfl) fun v w hR => ?_
            have H : St z I w (Bl q909 60 [(.int .i64 x907.From), (.int .i64 x907.To), (.int .i64 x907.Cost)] :: Bl q502 130 [u0, v503] :: OwnSl (cInt .i64) v503 x501 :: r) := hR
            refine wpList_nil ?_
            refine wp_seq ?_
            refine wp_region_lit ?_
            refine s1 hE rfl (d_move hE rfl) fun a hE => ?_
            refine wpList_nil ?_
            refine wp_block ?_
            refine wp_seq ?_
            refine wp_region_lit ?_
            refine s1 hE rfl (d_fieldAddr fld60_0 hE rfl) fun a hE => ?_
            refine s1 hE rfl (d_load sc3 hE rfl H 0 rfl rfl) fun a hE => ?_
            refine s1 hE rfl (d_eql hE rfl rfl) fun a hE => ?_
            refine s1 hE rfl (d_assign hE rfl) fun a hE => ?_
            refine wpList_nil ?_
            obtain ⟨s964, hj964, hm⟩ := bnd hm
            refine cut2 (fun a w => Env a 54 [(1, (.int .i64 a1)), (7, (.pointer (some (ad q502 0)))), (8, (.int .i64 s964)), (17, u0), (18, (.int .i64 (a0.length : Int))), (19, (.int .i64 y663))] ∧ St z I w (Bl q502 130 [u0, v503] :: OwnSl (cInt .i64) v503 x501 :: r)) ?_ ?_
            · have hm := hj964
              by_cases c965 : a1 = x907.From
              · rw [if_pos c965] at hm
                refine cT hE rfl (decide_eq_true c965) ?_
                refine wp_region_lit ?_
                refine s1 hE rfl (d_move hE rfl) fun a hE => ?_
                refine s1 hE rfl (d_move hE rfl) fun a hE => ?_
                refine s1 hE rfl (d_nilCheck hE rfl) fun a hE => ?_
                refine s1 hE rfl (d_fieldAddr fld130_1 hE rfl) fun a hE => ?_
                refine s1 hE rfl (d_load sc51 hE rfl H 1 rfl rfl) fun a hE => ?_
                refine s1 hE rfl (d_move hE rfl) fun a hE => ?_
                obtain ⟨x968, hx969, hm⟩ := bnd hm
                refine s1 hE rfl (d_indexS sl51 hE rfl rfl (St.rd H 2 rfl) hx969) fun a hE => ?_
                refine s1 hE rfl (d_loadS1 sc3 hE rfl (St.rd H 2 rfl) hx969 (fun _ e => e)) fun a hE => ?_
                refine s1 hE rfl (d_add hE rfl rfl) fun a hE => ?_
                refine s1 hE rfl (d_assign hE rfl) fun a hE => ?_
                refine wpList_nil ?_
                cases hm
                have H := St.get H 2 rfl
                have H := St.get H 2 rfl
                have H := St.del H 2
                exact ⟨hE.sub ⟨rfl, rfl, rfl, rfl, rfl, rfl, trivial⟩, H⟩
              · rw [if_neg c965] at hm
                refine cF hE rfl (decide_eq_false c965) ?_
                refine wp_seq ?_
                refine wp_region_lit ?_
                refine s1 hE rfl (d_fieldAddr fld60_1 hE rfl) fun a hE => ?_
                refine s1 hE rfl (d_load sc3 hE rfl H 0 rfl rfl) fun a hE => ?_
                refine s1 hE rfl (d_eql hE rfl rfl) fun a hE => ?_
                refine s1 hE rfl (d_assign hE rfl) fun a hE => ?_
                refine wpList_nil ?_
                obtain ⟨s976, hj976, hm⟩ := bnd hm
                refine cut2 (fun a w => Env a 54 [(1, (.int .i64 a1)), (7, (.pointer (some (ad q502 0)))), (8, (.int .i64 s976)), (17, u0), (18, (.int .i64 (a0.length : Int))), (19, (.int .i64 y663))] ∧ St z I w (Bl q502 130 [u0, v503] :: OwnSl (cInt .i64) v503 x501 :: r)) ?_ ?_
                · have hm := hj976
                  by_cases c977 : a1 = x907.To
                  · rw [if_pos c977] at hm
                    refine cT hE rfl (decide_eq_true c977) ?_
                    refine wp_region_lit ?_
                    refine s1 hE rfl (d_move hE rfl) fun a hE => ?_
                    refine s1 hE rfl (d_move hE rfl) fun a hE => ?_
                    refine s1 hE rfl (d_nilCheck hE rfl) fun a hE => ?_
                    refine s1 hE rfl (d_fieldAddr fld130_1 hE rfl) fun a hE => ?_
                    refine s1 hE rfl (d_load sc51 hE rfl H 1 rfl rfl) fun a hE => ?_
                    refine s1 hE rfl (d_move hE rfl) fun a hE => ?_
                    obtain ⟨x980, hx981, hm⟩ := bnd hm
                    refine s1 hE rfl (d_indexS sl51 hE rfl rfl (St.rd H 2 rfl) hx981) fun a hE => ?_
                    refine s1 hE rfl (d_loadS1 sc3 hE rfl (St.rd H 2 rfl) hx981 (fun _ e => e)) fun a hE => ?_
                    refine s1 hE rfl (d_sub hE rfl rfl) fun a hE => ?_
                    refine s1 hE rfl (d_assign hE rfl) fun a hE => ?_
                    refine wpList_nil ?_
                    cases hm
                    have H := St.get H 2 rfl
                    have H := St.get H 2 rfl
                    have H := St.del H 2
                    exact ⟨hE.sub ⟨rfl, rfl, rfl, rfl, rfl, rfl, trivial⟩, H⟩
                  · rw [if_neg c977] at hm
                    refine cF hE rfl (decide_eq_false c977) ?_
                    refine wp_skip ?_
                    cases hm
                    have H := St.get H 2 rfl
                    have H := St.get H 2 rfl
                    have H := St.del H 2
                    exact ⟨hE.sub ⟨rfl, rfl, rfl, rfl, rfl, rfl, trivial⟩, H⟩
                · rintro a w ⟨hE, H⟩
                  cases hm
                  exact ⟨hE.sub ⟨rfl, rfl, rfl, rfl, rfl, rfl, trivial⟩, H⟩
            · rintro a w ⟨hE, H⟩
              refine wp_region_lit ?_
              refine s1 hE rfl (d_add hE rfl rfl) fun a hE => ?_
              refine s1 hE rfl (d_move hE rfl) fun a hE => ?_
              refine wpList_nil ?_
              exact ⟨k, Nat.lt_succ_self k, s964, IntKind.i64.wrap (y663 + 1), hm, hE.sub ⟨rfl, rfl, rfl, rfl, rfl, rfl, trivial⟩, H⟩
          · rw [if_neg c825] at hm
            refine cF hE rfl (decide_eq_false c825) ?_
            refine wp_exit ?_
            cases hm
            have H := St.del H 0
            have H := St.del H 0
            exact ⟨hE.sub ⟨rfl, trivial⟩, H⟩
      · exact ⟨0, 0, hj823, hE.sub ⟨rfl, rfl, rfl, rfl, rfl, rfl, trivial⟩, H⟩
    · rintro a w ⟨hE, H⟩
      refine wp_seq ?_
      refine wp_region_lit ?_
      refine s1 hE rfl (d_move hE rfl) fun a hE => ?_
      refine s1 hE rfl (d_convert hE rfl (cv3_61 _)) fun a hE => ?_
      refine s1 hE rfl (d_assign hE rfl) fun a hE => ?_
      refine wpList_nil ?_
      refine wp_ret ?_
      cases hm
      exact ret1 rfl hE rfl ⟨_, rfl, rfl, H⟩
def m80 (k : Nat) (a0 : List S_api_Arc) (a1 : Int) (a2 : Int) : Option (List Int) := Option.bind (m32 k a0 a1 a2) fun x25 => if x25 = 0 then (some []) else (Option.bind (m82 k a0 a1 a2) fun x35 => oon x35 (none) fun x38 => some x38)
set_option maxRecDepth 20000 in
set_option maxHeartbeats 4000000 in
theorem f80_ok (k : Nat) {u0 : Value} (a0 : List S_api_Arc) (a1 : Int) (a2 : Int) {res : (List Int)} (hm : m80 k a0 a1 a2 = some res) {z w : World} {I : Hp} {r : List Asn} (hr0 : Rd c_api_Arc z I r u0 a0) (H : St z I w (r)) :
    Calls Try.prog 80 #[u0, (.int .i64 a1), (.int .i64 a2)] w (Rt fun v w' => ∃ v21 : Value, v = v21 ∧ St z I w' (OwnSl (cInt .i64) v21 res :: r)) := by
  have hI := Hp.le_refl I
  unfold m80 at hm
  refine enter (args := [u0, (.int .i64 a1), (.int .i64 a2)]) Try.func80 rfl Try.ntmps80 rfl fun a hE => ?_
  refine wp_seq ?_
  refine wp_region_lit ?_
  refine s1 hE rfl (d_assign hE rfl) fun a hE => ?_
  refine wpList_nil ?_
  refine wp_seq ?_
  refine wp_seq ?_
  refine wp_region_lit ?_
  refine s1 hE rfl (d_move hE rfl) fun a hE => ?_
  refine s1 hE rfl (d_move hE rfl) fun a hE => ?_
  refine s1 hE rfl (d_move hE rfl) fun a hE => ?_
  obtain ⟨x25, hc26, hm⟩ := bnd hm
  refine s2 hE rfl (d_call c32 hE rfl (f32_ok k a0 a1 a2 hc26 hr0 H)) fun a v w hR hE => ?_
  obtain ⟨rfl, H⟩ := hR
  refine s1 hE rfl (d_eql hE rfl rfl) fun a hE => ?_
  refine wpList_nil ?_
  by_cases c28 : x25 = 0
  · rw [if_pos c28] at hm
    refine cT hE rfl (decide_eq_true c28) ?_
    refine wp_seq ?_
    refine wp_region_lit ?_
    refine s1 hE rfl (d_assign hE rfl) fun a hE => ?_
    refine wpList_nil ?_
    refine wp_ret ?_
    cases hm
    have H := St.nil (c := (cInt .i64)) H none
    exact ret1 rfl hE rfl ⟨_, rfl, (.slice none 0 0), rfl, H⟩
  · rw [if_neg c28] at hm
    refine cF hE rfl (decide_eq_false c28) ?_
    refine wp_skip ?_
    refine wp_seq ?_
    refine wp_region_lit ?_
    refine s1 hE rfl (d_move hE rfl) fun a hE => ?_
    refine s1 hE rfl (d_move hE rfl) fun a hE => ?_
    refine s1 hE rfl (d_move hE rfl) fun a hE => ?_
    obtain ⟨x35, hc36, hm⟩ := bnd hm
    refine s2 hE rfl (d_call c82 hE rfl (f82_ok k a0 a1 a2 hc36 hr0 H)) fun a v w hR hE => ?_
    obtain ⟨v37, rfl, H⟩ := hR
    cases x35 with
    | none =>
      rw [oon_none] at hm
      obtain ⟨hv, H'⟩ := St.opt_none H
      clear H
      subst hv
      have H := H'
      cases hm
    | some x38 =>
      rw [oon_some] at hm
      obtain ⟨q39, hv, H'⟩ := St.opt_some H
      clear H
      subst hv
      have H := H'
      obtain ⟨v40, H⟩ := St.ex H
      have H := St.open_ H
      have H : St z I w (Bl q39 130 [u0, v40] :: OwnSl (cInt .i64) v40 x38 :: r) := H
      refine s1 hE rfl (d_nilCheck hE rfl) fun a hE => ?_
      refine s1 hE rfl (d_fieldAddr fld130_1 hE rfl) fun a hE => ?_
      refine s1 hE rfl (d_load sc51 hE rfl H 0 rfl rfl) fun a hE => ?_
      refine s1 hE rfl (d_assign hE rfl) fun a hE => ?_
      refine wpList_nil ?_
      refine wp_ret ?_
      cases hm
      have H := St.get H 1 rfl
      have H := St.del H 1
      exact ret1 rfl hE rfl ⟨_, rfl, v40, rfl, H⟩
def m81 (k : Nat) (a0 : List S_api_Arc) (a1 : Int) (a2 : Int) : Option (List Int) := Option.bind (m82 k a0 a1 a2) fun x37 => oon x37 (some []) fun x40 => Option.bind (m142 k a0 x40 a1) fun x50 => Option.bind (skeys x50) fun l54 => some l54
set_option maxRecDepth 20000 in
set_option maxHeartbeats 4000000 in
theorem f81_ok (k : Nat) {u0 : Value} (a0 : List S_api_Arc) (a1 : Int) (a2 : Int) {res : (List Int)} (hm : m81 k a0 a1 a2 = some res) {z w : World} {I : Hp} {r : List Asn} (hr0 : Rd c_api_Arc z I r u0 a0) (H : St z I w (r)) :
    Calls Try.prog 81 #[u0, (.int .i64 a1), (.int .i64 a2)] w (Rt fun v w' => ∃ v29 : Value, v = v29 ∧ St z I w' (OwnSl (cInt .i64) v29 res :: r)) := by
  have hI := Hp.le_refl I
  unfold m81 at hm
  refine enter (args := [u0, (.int .i64 a1), (.int .i64 a2)]) Try.func81 rfl Try.ntmps81 rfl fun a hE => ?_
  refine wp_seq ?_
  refine wp_region_lit ?_
  refine s1 hE rfl (d_assign hE rfl) fun a hE => ?_
  refine wpList_nil ?_
  refine wp_seq ?_
  refine wp_region_lit ?_
  refine s1 hE rfl (d_move hE rfl) fun a hE => ?_
  refine s1 hE rfl (d_move hE rfl) fun a hE => ?_
  refine s1 hE rfl (d_move hE rfl) fun a hE => ?_
  obtain ⟨x37, hc38, hm⟩ := bnd hm
  refine s2 hE rfl (d_call c82 hE rfl (f82_ok k a0 a1 a2 hc38 hr0 H)) fun a v w hR hE => ?_
  obtain ⟨v39, rfl, H⟩ := hR
  cases x37 with
  | none =>
    rw [oon_none] at hm
    obtain ⟨hv, H'⟩ := St.opt_none H
    clear H
    subst hv
    have H := H'
    refine s1 hE rfl (d_assign hE rfl) fun a hE => ?_
    refine wpList_nil ?_
    refine wp_seq ?_
    refine wp_seq ?_
    refine wp_region_lit ?_
    refine s1 hE rfl (d_move hE rfl) fun a hE => ?_
    refine s1 hE rfl (d_eqP Try.underlying127 hE rfl rfl) fun a hE => ?_
    refine wpList_nil ?_
    refine cT hE rfl rfl ?_
    refine wp_seq ?_
    refine wp_region_lit ?_
    refine s1 hE rfl (d_assign hE rfl) fun a hE => ?_
    refine wpList_nil ?_
    refine wp_ret ?_
    cases hm
    have H := St.nil (c := (cInt .i64)) H none
    exact ret1 rfl hE rfl ⟨_, rfl, (.slice none 0 0), rfl, H⟩
  | some x40 =>
    rw [oon_some] at hm
    obtain ⟨q41, hv, H'⟩ := St.opt_some H
    clear H
    subst hv
    have H := H'
    obtain ⟨v42, H⟩ := St.ex H
    have H := St.open_ H
    have H : St z I w (Bl q41 130 [u0, v42] :: OwnSl (cInt .i64) v42 x40 :: r) := H
    refine s1 hE rfl (d_assign hE rfl) fun a hE => ?_
    refine wpList_nil ?_
    refine wp_seq ?_
    refine wp_seq ?_
    refine wp_region_lit ?_
    refine s1 hE rfl (d_move hE rfl) fun a hE => ?_
    refine s1 hE rfl (d_eqP Try.underlying127 hE rfl rfl) fun a hE => ?_
    refine wpList_nil ?_
    refine cF hE rfl rfl ?_
    refine wp_skip ?_
    refine wp_seq ?_
    refine wp_region_lit ?_
    refine s1 hE rfl (d_move hE rfl) fun a hE => ?_
    refine s1 hE rfl (d_move hE rfl) fun a hE => ?_
    obtain ⟨x50, hc51, hm⟩ := bnd hm
    refine s2 hE rfl (d_call c142 hE rfl (f142_ok k a0 x40 a1 hc51 hr0 H)) fun a v w hR hE => ?_
    obtain ⟨q52, rfl, H⟩ := hR
    refine s2 hE rfl (d_call c141 hE rfl (k141 H)) fun a v w hR hE => ?_
    obtain ⟨q53, rfl, H⟩ := hR
    obtain ⟨l54, hl55, hm⟩ := bnd hm
    refine s2 hE rfl (d_call c75 hE rfl (s75_181 hl55 H 0 rfl 3 rfl)) fun a v w hR hE => ?_
    obtain ⟨v56, rfl⟩ : ∃ x, x = v := ⟨v, rfl⟩
    have H : St z I w (OwnSl (cInt .i64) v56 l54 :: Bl q53 212 [(.map (some q52))] :: Bl q41 130 [u0, v42] :: OwnSl (cInt .i64) v42 x40 :: MapR c_flow_step true q52 x50 :: r) := hR
    refine s1 hE rfl (d_assign hE rfl) fun a hE => ?_
    refine wpList_nil ?_
    refine wp_ret ?_
    cases hm
    have H := St.del H 1
    have H := St.del H 1
    have H := St.del H 1
    have H := St.del H 1
    exact ret1 rfl hE rfl ⟨_, rfl, v56, rfl, H⟩
def m33_l0 (a0 : List S_api_Arc) (a1 : List Int) : Nat → Int → Int → Option Int
  | 0, _, _ => none
  | k + 1, y270, y271 => if y271 < (a0.length : Int) then (Option.bind (α := Bool) (Option.bind (rdx a0 y271) fun x385 => Option.bind (m30 k a1 x385.From) fun x387 => if x387 = true then (Option.bind (rdx a0 y271) fun x390 => Option.bind (m30 k a1 x390.To) fun x392 => some (!x392)) else (some false)) fun s384 => Option.bind (α := Int) (if s384 = true then (Option.bind (rdx a0 y271) fun x404 => some (IntKind.u64.wrap (y270 + (IntKind.u64.wrap x404.Cost)))) else (some y270)) fun s400 => m33_l0 a0 a1 k s400 (IntKind.i64.wrap (y271 + 1))) else (some y270)
def m33 (k : Nat) (a0 : List S_api_Arc) (a1 : List Int) : Option Int := Option.bind (m33_l0 a0 a1 k 0 0) fun s339 => some s339
set_option maxRecDepth 20000 in
set_option maxHeartbeats 4000000 in
theorem f33_ok (k : Nat) {u0 : Value} (a0 : List S_api_Arc) {u1 : Value} (a1 : List Int) {res : Int} (hm : m33 k a0 a1 = some res) {z w : World} {I : Hp} {r : List Asn} (hr0 : Rd c_api_Arc z I r u0 a0) (hr1 : Rd (cInt .i64) z I r u1 a1) (H : St z I w (r)) :
    Calls Try.prog 33 #[u0, u1] w (Rt fun v w' => v = (.int .u64 res) ∧ St z I w' (r)) := by
  have hI := Hp.le_refl I
  unfold m33 at hm
  refine enter (args := [u0, u1]) Try.func33 rfl Try.ntmps33 rfl fun a hE => ?_
  refine wp_seq ?_
  refine wp_region_lit ?_
  refine s1 hE rfl (d_assign hE rfl) fun a hE => ?_
  refine wpList_nil ?_
  refine wp_seq ?_
  refine wp_region_lit ?_
  refine s1 hE rfl (d_assign hE rfl) fun a hE => ?_
  refine wpList_nil ?_
  refine wp_seq ?_
  refine wp_seq ?_
  refine wp_region_lit ?_
  refine s1 hE rfl (d_assign hE rfl) fun a hE => ?_
  refine wpList_nil ?_
  obtain ⟨s339, hj339, hm⟩ := bnd hm
  refine cut2 (fun a w => Env a 39 [(5, (.int .u64 s339))] ∧ St z I w (r)) ?_ ?_
  · refine wp_block ?_
    refine loopI (fun k a w => ∃ y270 : Int, ∃ y271 : Int, m33_l0 a0 a1 k y270 y271 = some s339 ∧ Env a 39 [(0, u0), (1, u1), (5, (.int .u64 y270)), (6, (.int .i64 y271))] ∧ St z I w (r)) ?_ k _ _ ?_
    · rintro k a w ⟨y270, y271, hm, hE, H⟩
      cases k with
      | zero => rw [m33_l0] at hm; cases hm
      | succ k =>
        rw [m33_l0] at hm
        refine wp_seq ?_
        refine wp_seq ?_
        refine wp_region_lit ?_
        refine s1 hE rfl (d_move hE rfl) fun a hE => ?_
        refine s1 hE rfl (d_move hE rfl) fun a hE => ?_
        refine s1 hE rfl (d_lenS Try.underlying55 hE rfl (Rd.st hr0 hI H)) fun a hE => ?_
        refine s1 hE rfl (d_lss hE rfl rfl) fun a hE => ?_
        refine wpList_nil ?_
        by_cases c341 : y271 < (a0.length : Int)
        · rw [if_pos c341] at hm
          refine cT hE rfl (decide_eq_true c341) ?_
          refine wp_skip ?_
          refine wp_seq ?_
          refine wp_block ?_
          refine wp_seq ?_
          obtain ⟨s384, hj384, hm⟩ := bnd hm
          refine cut2 (fun a w => Env a 39 [(0, u0), (1, u1), (5, (.int .u64 y270)), (6, (.int .i64 y271)), (29, (.bool s384))] ∧ St z I w (r)) ?_ ?_
          · have hm := hj384
            refine wp_region_lit ?_
            refine s1 hE rfl (d_move hE rfl) fun a hE => ?_
            refine s1 hE rfl (d_move hE rfl) fun a hE => ?_
            refine s1 hE rfl (d_move hE rfl) fun a hE => ?_
            obtain ⟨x385, hx386, hm⟩ := bnd hm
            refine s1 hE rfl (d_indexS sl55 hE rfl rfl (Rd.st hr0 hI H) hx386) fun a hE => ?_
            refine s1 hE rfl (d_fieldAddr fld60_0 hE rfl) fun a hE => ?_
            refine s1 hE rfl (d_loadSf (j := 0) sc3 hE rfl (Rd.st hr0 hI H) hx386 (fun _ e => by rw [e]; rfl)) fun a hE => ?_
            obtain ⟨x387, hc388, hm⟩ := bnd hm
            refine s2 hE rfl (d_call c30 hE rfl (f30_ok k a1 x385.From hc388 hr1 H)) fun a v w hR hE => ?_
            obtain ⟨rfl, H⟩ := hR
            refine s1 hE rfl (d_move hE rfl) fun a hE => ?_
            by_cases c389 : x387 = true
            · rw [if_pos c389] at hm
              refine gR hE rfl rfl c389 ?_
              refine s1 hE rfl (d_move hE rfl) fun a hE => ?_
              refine gR hE rfl rfl c389 ?_
              refine s1 hE rfl (d_move hE rfl) fun a hE => ?_
              refine gR hE rfl rfl c389 ?_
              refine s1 hE rfl (d_move hE rfl) fun a hE => ?_
              refine gR hE rfl rfl c389 ?_
              obtain ⟨x390, hx391, hm⟩ := bnd hm
              refine s1 hE rfl (d_indexS sl55 hE rfl rfl (Rd.st hr0 hI H) hx391) fun a hE => ?_
              refine gR hE rfl rfl c389 ?_
              refine s1 hE rfl (d_fieldAddr fld60_1 hE rfl) fun a hE => ?_
              refine gR hE rfl rfl c389 ?_
              refine s1 hE rfl (d_loadSf (j := 1) sc3 hE rfl (Rd.st hr0 hI H) hx391 (fun _ e => by rw [e]; rfl)) fun a hE => ?_
              refine gR hE rfl rfl c389 ?_
              obtain ⟨x392, hc393, hm⟩ := bnd hm
              refine s2 hE rfl (d_call c30 hE rfl (f30_ok k a1 x390.To hc393 hr1 H)) fun a v w hR hE => ?_
              obtain ⟨rfl, H⟩ := hR
              refine gR hE rfl rfl c389 ?_
              refine s1 hE rfl (d_not hE rfl) fun a hE => ?_
              refine s1 hE rfl (d_pT hE rfl c389 rfl) fun a hE => ?_
              refine wpList_nil ?_
              cases hm
              exact ⟨hE.sub ⟨rfl, rfl, rfl, rfl, rfl, trivial⟩, H⟩
            · rw [if_neg c389] at hm
              refine gP hE rfl rfl rfl (b_f c389) fun a hE => ?_
              refine gP hE rfl rfl rfl (b_f c389) fun a hE => ?_
              refine gP hE rfl rfl rfl (b_f c389) fun a hE => ?_
              refine gP hE rfl rfl rfl (b_f c389) fun a hE => ?_
              refine gP hE rfl rfl rfl (b_f c389) fun a hE => ?_
              refine gP hE rfl rfl rfl (b_f c389) fun a hE => ?_
              refine gP hE rfl rfl rfl (b_f c389) fun a hE => ?_
              refine gP hE rfl rfl rfl (b_f c389) fun a hE => ?_
              refine s1 hE rfl (d_pF hE rfl (b_f c389) rfl) fun a hE => ?_
              refine wpList_nil ?_
              cases hm
              exact ⟨hE.sub ⟨rfl, rfl, rfl, rfl, rfl, trivial⟩, H⟩
          · rintro a w ⟨hE, H⟩
            obtain ⟨s400, hj400, hm⟩ := bnd hm
            refine cut2 (fun a w => Env a 39 [(0, u0), (1, u1), (5, (.int .u64 s400)), (6, (.int .i64 y271))] ∧ St z I w (r)) ?_ ?_
            · have hm := hj400
              by_cases c401 : s384 = true
              · rw [if_pos c401] at hm
                refine cT hE rfl c401 ?_
                refine wp_region_lit ?_
                refine s1 hE rfl (d_move hE rfl) fun a hE => ?_
                refine s1 hE rfl (d_move hE rfl) fun a hE => ?_
                refine s1 hE rfl (d_move hE rfl) fun a hE => ?_
                obtain ⟨x404, hx405, hm⟩ := bnd hm
                refine s1 hE rfl (d_indexS sl55 hE rfl rfl (Rd.st hr0 hI H) hx405) fun a hE => ?_
                refine s1 hE rfl (d_fieldAddr fld60_2 hE rfl) fun a hE => ?_
                refine s1 hE rfl (d_loadSf (j := 2) sc3 hE rfl (Rd.st hr0 hI H) hx405 (fun _ e => by rw [e]; rfl)) fun a hE => ?_
                refine s1 hE rfl (d_convert hE rfl (cv3_61 _)) fun a hE => ?_
                refine s1 hE rfl (d_add hE rfl rfl) fun a hE => ?_
                refine s1 hE rfl (d_assign hE rfl) fun a hE => ?_
                refine wpList_nil ?_
                cases hm
                exact ⟨hE.sub ⟨rfl, rfl, rfl, rfl, trivial⟩, H⟩
              · rw [if_neg c401] at hm
                refine cF hE rfl (b_f c401) ?_
                refine wp_skip ?_
                cases hm
                exact ⟨hE.sub ⟨rfl, rfl, rfl, rfl, trivial⟩, H⟩
            · rintro a w ⟨hE, H⟩
              refine wp_region_lit ?_
              refine s1 hE rfl (d_move hE rfl) fun a hE => ?_
              refine s1 hE rfl (d_add hE rfl rfl) fun a hE => ?_
              refine s1 hE rfl (d_assign hE rfl) fun a hE => ?_
              refine wpList_nil ?_
              exact ⟨k, Nat.lt_succ_self k, s400, IntKind.i64.wrap (y271 + 1), hm, hE.sub ⟨rfl, rfl, rfl, rfl, trivial⟩, H⟩
        · rw [if_neg c341] at hm
          refine cF hE rfl (decide_eq_false c341) ?_
          refine wp_exit ?_
          cases hm
          exact ⟨hE.sub ⟨rfl, trivial⟩, H⟩
    · exact ⟨0, 0, hj339, hE.sub ⟨rfl, rfl, rfl, rfl, trivial⟩, H⟩
  · rintro a w ⟨hE, H⟩
    refine wp_seq ?_
    refine wp_region_lit ?_
    refine s1 hE rfl (d_move hE rfl) fun a hE => ?_
    refine s1 hE rfl (d_assign hE rfl) fun a hE => ?_
    refine wpList_nil ?_
    refine wp_ret ?_
    cases hm
    exact ret1 rfl hE rfl ⟨_, rfl, rfl, H⟩
def m31 (k : Nat)  : Option Bool := Option.bind (α := Bool) (Option.bind (m32 k ([(⟨1, 2, 2⟩ : S_api_Arc), (⟨1, 3, 3⟩ : S_api_Arc), (⟨2, 4, 9⟩ : S_api_Arc), (⟨3, 4, 9⟩ : S_api_Arc)]) 1 4) fun x42 => if x42 = 5 then (Option.bind (m80 k ([(⟨1, 2, 2⟩ : S_api_Arc), (⟨1, 3, 3⟩ : S_api_Arc), (⟨2, 4, 9⟩ : S_api_Arc), (⟨3, 4, 9⟩ : S_api_Arc)]) 1 4) fun x45 => if (x45.length : Int) = 4 then (Option.bind (m81 k ([(⟨1, 2, 2⟩ : S_api_Arc), (⟨1, 3, 3⟩ : S_api_Arc), (⟨2, 4, 9⟩ : S_api_Arc), (⟨3, 4, 9⟩ : S_api_Arc)]) 1 4) fun x49 => some (decide ((x49.length : Int) = 1))) else (some false)) else (some false)) fun s41 => some s41
set_option maxRecDepth 20000 in
set_option maxHeartbeats 4000000 in
theorem f31_ok (k : Nat)  {res : Bool} (hm : m31 k = some res) {z w : World} {I : Hp} {r : List Asn}  (H : St z I w (r)) :
    Calls Try.prog 31 #[] w (Rt fun v w' => v = (.bool res) ∧ St z I w' (r)) := by
  have hI := Hp.le_refl I
  unfold m31 at hm
  refine enter (args := []) Try.func31 rfl Try.ntmps31 rfl fun a hE => ?_
  refine wp_seq ?_
  refine wp_region_lit ?_
  refine s1 hE rfl (d_assign hE rfl) fun a hE => ?_
  refine wpList_nil ?_
  refine wp_seq ?_
  refine wp_region_lit ?_
  refine s1 hE rfl (d_build hE rfl (bld60_0In_1In_2In _ _ _)) fun a hE => ?_
  refine s1 hE rfl (d_build hE rfl (bld60_0In_1In_2In _ _ _)) fun a hE => ?_
  refine s1 hE rfl (d_build hE rfl (bld60_0In_1In_2In _ _ _)) fun a hE => ?_
  refine s1 hE rfl (d_build hE rfl (bld60_0In_1In_2In _ _ _)) fun a hE => ?_
  refine s2 hE rfl (d_lit (c := c_api_Arc) (xs := [(⟨1, 2, 2⟩ : S_api_Arc), (⟨1, 3, 3⟩ : S_api_Arc), (⟨2, 4, 9⟩ : S_api_Arc), (⟨3, 4, 9⟩ : S_api_Arc)]) hE rfl (lit55_4 _ _ _ _ _ _ _ _ _ _ _ _) rfl rfl (rowsC (cs := [(.int .i64 1), (.int .i64 2), (.int .i64 2)]) rfl (rowsC (cs := [(.int .i64 1), (.int .i64 3), (.int .i64 3)]) rfl (rowsC (cs := [(.int .i64 2), (.int .i64 4), (.int .i64 9)]) rfl (rowsC (cs := [(.int .i64 3), (.int .i64 4), (.int .i64 9)]) rfl (rows0))))) H) fun a v w hR hE => ?_
  obtain ⟨v28, rfl⟩ : ∃ x, x = v := ⟨v, rfl⟩
  have H : St z I w (OwnSl c_api_Arc v28 ([(⟨1, 2, 2⟩ : S_api_Arc), (⟨1, 3, 3⟩ : S_api_Arc), (⟨2, 4, 9⟩ : S_api_Arc), (⟨3, 4, 9⟩ : S_api_Arc)]) :: r) := hR
  refine s1 hE rfl (d_assign hE rfl) fun a hE => ?_
  refine wpList_nil ?_
  refine wp_seq ?_
  obtain ⟨s41, hj41, hm⟩ := bnd hm
  refine cut2 (fun a w => Env a 22 [(0, (.bool s41))] ∧ St z I w (r)) ?_ ?_
  · have hm := hj41
    refine wp_region_lit ?_
    refine s1 hE rfl (d_move hE rfl) fun a hE => ?_
    obtain ⟨x42, hc43, hm⟩ := bnd hm
    refine s2 hE rfl (d_call c32 hE rfl (f32_ok k ([(⟨1, 2, 2⟩ : S_api_Arc), (⟨1, 3, 3⟩ : S_api_Arc), (⟨2, 4, 9⟩ : S_api_Arc), (⟨3, 4, 9⟩ : S_api_Arc)]) 1 4 hc43 (Rd.own 0 rfl) H)) fun a v w hR hE => ?_
    obtain ⟨rfl, H⟩ := hR
    refine s1 hE rfl (d_eql hE rfl rfl) fun a hE => ?_
    refine s1 hE rfl (d_move hE rfl) fun a hE => ?_
    by_cases c44 : x42 = 5
    · rw [if_pos c44] at hm
      refine gR hE rfl rfl (decide_eq_true c44) ?_
      refine s1 hE rfl (d_move hE rfl) fun a hE => ?_
      refine gR hE rfl rfl (decide_eq_true c44) ?_
      obtain ⟨x45, hc46, hm⟩ := bnd hm
      refine s2 hE rfl (d_call c80 hE rfl (f80_ok k ([(⟨1, 2, 2⟩ : S_api_Arc), (⟨1, 3, 3⟩ : S_api_Arc), (⟨2, 4, 9⟩ : S_api_Arc), (⟨3, 4, 9⟩ : S_api_Arc)]) 1 4 hc46 (Rd.own 0 rfl) H)) fun a v w hR hE => ?_
      obtain ⟨v47, rfl, H⟩ := hR
      refine gR hE rfl rfl (decide_eq_true c44) ?_
      refine s1 hE rfl (d_lenS Try.underlying51 hE rfl (St.rd H 0 rfl)) fun a hE => ?_
      refine gR hE rfl rfl (decide_eq_true c44) ?_
      refine s1 hE rfl (d_eql hE rfl rfl) fun a hE => ?_
      refine s1 hE rfl (d_pT hE rfl (decide_eq_true c44) rfl) fun a hE => ?_
      refine s1 hE rfl (d_move hE rfl) fun a hE => ?_
      by_cases c48 : (x45.length : Int) = 4
      · rw [if_pos c48] at hm
        refine gR hE rfl rfl (decide_eq_true c48) ?_
        refine s1 hE rfl (d_move hE rfl) fun a hE => ?_
        refine gR hE rfl rfl (decide_eq_true c48) ?_
        obtain ⟨x49, hc50, hm⟩ := bnd hm
        refine s2 hE rfl (d_call c81 hE rfl (f81_ok k ([(⟨1, 2, 2⟩ : S_api_Arc), (⟨1, 3, 3⟩ : S_api_Arc), (⟨2, 4, 9⟩ : S_api_Arc), (⟨3, 4, 9⟩ : S_api_Arc)]) 1 4 hc50 (Rd.own 1 rfl) H)) fun a v w hR hE => ?_
        obtain ⟨v51, rfl, H⟩ := hR
        refine gR hE rfl rfl (decide_eq_true c48) ?_
        refine s1 hE rfl (d_lenS Try.underlying51 hE rfl (St.rd H 0 rfl)) fun a hE => ?_
        refine gR hE rfl rfl (decide_eq_true c48) ?_
        refine s1 hE rfl (d_eql hE rfl rfl) fun a hE => ?_
        refine s1 hE rfl (d_pT hE rfl (decide_eq_true c48) rfl) fun a hE => ?_
        refine s1 hE rfl (d_assign hE rfl) fun a hE => ?_
        refine wpList_nil ?_
        cases hm
        have H := St.del H 0
        have H := St.del H 0
        have H := St.del H 0
        exact ⟨hE.sub ⟨rfl, trivial⟩, H⟩
      · rw [if_neg c48] at hm
        refine gP hE rfl rfl rfl (decide_eq_false c48) fun a hE => ?_
        refine gP hE rfl rfl rfl (decide_eq_false c48) fun a hE => ?_
        refine gP hE rfl rfl rfl (decide_eq_false c48) fun a hE => ?_
        refine gP hE rfl rfl rfl (decide_eq_false c48) fun a hE => ?_
        refine s1 hE rfl (d_pF hE rfl (decide_eq_false c48) rfl) fun a hE => ?_
        refine s1 hE rfl (d_assign hE rfl) fun a hE => ?_
        refine wpList_nil ?_
        cases hm
        have H := St.del H 0
        have H := St.del H 0
        exact ⟨hE.sub ⟨rfl, trivial⟩, H⟩
    · rw [if_neg c44] at hm
      refine gP hE rfl rfl rfl (decide_eq_false c44) fun a hE => ?_
      refine gP hE rfl rfl rfl (decide_eq_false c44) fun a hE => ?_
      refine gP hE rfl rfl rfl (decide_eq_false c44) fun a hE => ?_
      refine gP hE rfl rfl rfl (decide_eq_false c44) fun a hE => ?_
      refine s1 hE rfl (d_pF hE rfl (decide_eq_false c44) rfl) fun a hE => ?_
      refine s1 hE rfl (d_move hE rfl) fun a hE => ?_
      refine gP hE rfl rfl rfl rfl fun a hE => ?_
      refine gP hE rfl rfl rfl rfl fun a hE => ?_
      refine gP hE rfl rfl rfl rfl fun a hE => ?_
      refine gP hE rfl rfl rfl rfl fun a hE => ?_
      refine s1 hE rfl (d_pF hE rfl rfl rfl) fun a hE => ?_
      refine s1 hE rfl (d_assign hE rfl) fun a hE => ?_
      refine wpList_nil ?_
      cases hm
      have H := St.del H 0
      exact ⟨hE.sub ⟨rfl, trivial⟩, H⟩
  · rintro a w ⟨hE, H⟩
    refine wp_ret ?_
    cases hm
    exact ret1 rfl hE rfl ⟨_, rfl, rfl, H⟩
def m4_l0 (a0 : List S_api_Arc) : Nat → Int → Option (Out Bool Unit)
  | 0, _ => none
  | k + 1, y212 => if y212 < (a0.length : Int) then (Option.bind (rdx a0 y212) fun x262 => if 100 < x262.Cost then (Option.bind (m31 k ) fun x272 => some (.ret x272)) else (m4_l0 a0 k (IntKind.i64.wrap (y212 + 1)))) else (some (.go ()))
def m4 (k : Nat) (a0 : List S_api_Arc) (a1 : A_2_int) (a2 : List Int) : Option Bool := Option.bind (α := Bool) (if 60 < (a0.length : Int) then (some true) else (if 70 < (a2.length : Int) then (some true) else (Option.bind (m29 k a0) fun x164 => if x164 = true then (Option.bind (m30 k a2 a1.e0) fun x167 => if x167 = true then (Option.bind (m30 k a2 a1.e1) fun x170 => some x170) else (some true)) else (some true)))) fun s161 => if s161 = true then (Option.bind (m31 k ) fun x180 => some x180) else (Option.bind (m4_l0 a0 k 0) fun s243 => s243.on (fun q_ => some q_) fun s243 => Option.bind (α := Bool) (Option.bind (m32 k a0 a1.e0 a1.e1) fun x283 => Option.bind (m33 k a0 a2) fun x285 => if x283 ≤ x285 then (Option.bind (m31 k ) fun x288 => some x288) else (some false)) fun s282 => some s282)
set_option maxRecDepth 20000 in
set_option maxHeartbeats 4000000 in
theorem f4_ok (k : Nat) {u0 : Value} (a0 : List S_api_Arc) (a1 : A_2_int) {u2 : Value} (a2 : List Int) {res : Bool} (hm : m4 k a0 a1 a2 = some res) {z w : World} {I : Hp} {r : List Asn} (hr0 : Rd c_api_Arc z I r u0 a0) (hr2 : Rd (cInt .i64) z I r u2 a2) (H : St z I w (r)) :
    Calls Try.prog 4 #[u0, (.agg #[(.int .i64 a1.e0), (.int .i64 a1.e1)]), u2] w (Rt fun v w' => v = (.bool res) ∧ St z I w' (r)) := by
  have hI := Hp.le_refl I
  unfold m4 at hm
  refine enter (args := [u0, (.agg #[(.int .i64 a1.e0), (.int .i64 a1.e1)]), u2]) Try.func4 rfl Try.ntmps4 rfl fun a hE => ?_
  refine wp_seq ?_
  refine wp_region_lit ?_
  refine s2 hE rfl (d_box hE rfl H) fun a v w hR hE => ?_
  obtain ⟨q147, rfl, H⟩ := hR
  have H : St z I w (Bl q147 56 [(.int .i64 a1.e0), (.int .i64 a1.e1)] :: r) := H
  refine s1 hE rfl (d_assign hE rfl) fun a hE => ?_
  refine wpList_nil ?_
  refine wp_seq ?_
  refine wp_seq ?_
  obtain ⟨s161, hj161, hm⟩ := bnd hm
  refine cut2 (fun a w => Env a 61 [(0, u0), (2, u2), (4, (.pointer (some (ad q147 0)))), (33, (.bool s161))] ∧ St z I w (Bl q147 56 [(.int .i64 a1.e0), (.int .i64 a1.e1)] :: r)) ?_ ?_
  · have hm := hj161
    refine wp_region_lit ?_
    refine s1 hE rfl (d_move hE rfl) fun a hE => ?_
    refine s1 hE rfl (d_lenS Try.underlying55 hE rfl (Rd.st hr0 hI (H).drop)) fun a hE => ?_
    refine s1 hE rfl (d_gtr hE rfl rfl) fun a hE => ?_
    refine s1 hE rfl (d_move hE rfl) fun a hE => ?_
    by_cases c162 : 60 < (a0.length : Int)
    · rw [if_pos c162] at hm
      refine gP hE rfl rfl rfl (decide_eq_true c162) fun a hE => ?_
      refine gP hE rfl rfl rfl (decide_eq_true c162) fun a hE => ?_
      refine gP hE rfl rfl rfl (decide_eq_true c162) fun a hE => ?_
      refine s1 hE rfl (d_pT hE rfl (decide_eq_true c162) rfl) fun a hE => ?_
      refine s1 hE rfl (d_move hE rfl) fun a hE => ?_
      refine gP hE rfl rfl rfl rfl fun a hE => ?_
      refine gP hE rfl rfl rfl rfl fun a hE => ?_
      refine gP hE rfl rfl rfl rfl fun a hE => ?_
      refine s1 hE rfl (d_pT hE rfl rfl rfl) fun a hE => ?_
      refine s1 hE rfl (d_move hE rfl) fun a hE => ?_
      refine gP hE rfl rfl rfl rfl fun a hE => ?_
      refine gP hE rfl rfl rfl rfl fun a hE => ?_
      refine gP hE rfl rfl rfl rfl fun a hE => ?_
      refine gP hE rfl rfl rfl rfl fun a hE => ?_
      refine gP hE rfl rfl rfl rfl fun a hE => ?_
      refine s1 hE rfl (d_pT hE rfl rfl rfl) fun a hE => ?_
      refine s1 hE rfl (d_move hE rfl) fun a hE => ?_
      refine gP hE rfl rfl rfl rfl fun a hE => ?_
      refine gP hE rfl rfl rfl rfl fun a hE => ?_
      refine gP hE rfl rfl rfl rfl fun a hE => ?_
      refine gP hE rfl rfl rfl rfl fun a hE => ?_
      refine s1 hE rfl (d_pT hE rfl rfl rfl) fun a hE => ?_
      refine wpList_nil ?_
      cases hm
      exact ⟨hE.sub ⟨rfl, rfl, rfl, rfl, trivial⟩, H⟩
    · rw [if_neg c162] at hm
      refine gR hE rfl rfl (decide_eq_false c162) ?_
      refine s1 hE rfl (d_move hE rfl) fun a hE => ?_
      refine gR hE rfl rfl (decide_eq_false c162) ?_
      refine s1 hE rfl (d_lenS Try.underlying51 hE rfl (Rd.st hr2 hI (H).drop)) fun a hE => ?_
      refine gR hE rfl rfl (decide_eq_false c162) ?_
      refine s1 hE rfl (d_gtr hE rfl rfl) fun a hE => ?_
      refine s1 hE rfl (d_pF hE rfl (decide_eq_false c162) rfl) fun a hE => ?_
      refine s1 hE rfl (d_move hE rfl) fun a hE => ?_
      by_cases c163 : 70 < (a2.length : Int)
      · rw [if_pos c163] at hm
        refine gP hE rfl rfl rfl (decide_eq_true c163) fun a hE => ?_
        refine gP hE rfl rfl rfl (decide_eq_true c163) fun a hE => ?_
        refine gP hE rfl rfl rfl (decide_eq_true c163) fun a hE => ?_
        refine s1 hE rfl (d_pT hE rfl (decide_eq_true c163) rfl) fun a hE => ?_
        refine s1 hE rfl (d_move hE rfl) fun a hE => ?_
        refine gP hE rfl rfl rfl rfl fun a hE => ?_
        refine gP hE rfl rfl rfl rfl fun a hE => ?_
        refine gP hE rfl rfl rfl rfl fun a hE => ?_
        refine gP hE rfl rfl rfl rfl fun a hE => ?_
        refine gP hE rfl rfl rfl rfl fun a hE => ?_
        refine s1 hE rfl (d_pT hE rfl rfl rfl) fun a hE => ?_
        refine s1 hE rfl (d_move hE rfl) fun a hE => ?_
        refine gP hE rfl rfl rfl rfl fun a hE => ?_
        refine gP hE rfl rfl rfl rfl fun a hE => ?_
        refine gP hE rfl rfl rfl rfl fun a hE => ?_
        refine gP hE rfl rfl rfl rfl fun a hE => ?_
        refine s1 hE rfl (d_pT hE rfl rfl rfl) fun a hE => ?_
        refine wpList_nil ?_
        cases hm
        exact ⟨hE.sub ⟨rfl, rfl, rfl, rfl, trivial⟩, H⟩
      · rw [if_neg c163] at hm
        refine gR hE rfl rfl (decide_eq_false c163) ?_
        refine s1 hE rfl (d_move hE rfl) fun a hE => ?_
        refine gR hE rfl rfl (decide_eq_false c163) ?_
        obtain ⟨x164, hc165, hm⟩ := bnd hm
        refine s2 hE rfl (d_call c29 hE rfl (f29_ok k a0 hc165 (Rd.cons hr0) H)) fun a v w hR hE => ?_
        obtain ⟨rfl, H⟩ := hR
        refine gR hE rfl rfl (decide_eq_false c163) ?_
        refine s1 hE rfl (d_not hE rfl) fun a hE => ?_
        refine s1 hE rfl (d_pF hE rfl (decide_eq_false c163) rfl) fun a hE => ?_
        refine s1 hE rfl (d_move hE rfl) fun a hE => ?_
        by_cases c166 : x164 = true
        · rw [if_pos c166] at hm
          refine gR hE rfl rfl (not_f c166) ?_
          refine s1 hE rfl (d_move hE rfl) fun a hE => ?_
          refine gR hE rfl rfl (not_f c166) ?_
          refine s1 hE rfl (d_indexP ix56_0 hE rfl rfl) fun a hE => ?_
          refine gR hE rfl rfl (not_f c166) ?_
          refine s1 hE rfl (d_load sc3 hE rfl H 0 rfl rfl) fun a hE => ?_
          refine gR hE rfl rfl (not_f c166) ?_
          obtain ⟨x167, hc168, hm⟩ := bnd hm
          refine s2 hE rfl (d_call c30 hE rfl (f30_ok k a2 a1.e0 hc168 (Rd.cons hr2) H)) fun a v w hR hE => ?_
          obtain ⟨rfl, H⟩ := hR
          refine gR hE rfl rfl (not_f c166) ?_
          refine s1 hE rfl (d_not hE rfl) fun a hE => ?_
          refine s1 hE rfl (d_pF hE rfl (not_f c166) rfl) fun a hE => ?_
          refine s1 hE rfl (d_move hE rfl) fun a hE => ?_
          by_cases c169 : x167 = true
          · rw [if_pos c169] at hm
            refine gR hE rfl rfl (not_f c169) ?_
            refine s1 hE rfl (d_move hE rfl) fun a hE => ?_
            refine gR hE rfl rfl (not_f c169) ?_
            refine s1 hE rfl (d_indexP ix56_1 hE rfl rfl) fun a hE => ?_
            refine gR hE rfl rfl (not_f c169) ?_
            refine s1 hE rfl (d_load sc3 hE rfl H 0 rfl rfl) fun a hE => ?_
            refine gR hE rfl rfl (not_f c169) ?_
            obtain ⟨x170, hc171, hm⟩ := bnd hm
            refine s2 hE rfl (d_call c30 hE rfl (f30_ok k a2 a1.e1 hc171 (Rd.cons hr2) H)) fun a v w hR hE => ?_
            obtain ⟨rfl, H⟩ := hR
            refine s1 hE rfl (d_pF hE rfl (not_f c169) rfl) fun a hE => ?_
            refine wpList_nil ?_
            cases hm
            exact ⟨hE.sub ⟨rfl, rfl, rfl, rfl, trivial⟩, H⟩
          · rw [if_neg c169] at hm
            refine gP hE rfl rfl rfl (not_t (b_f c169)) fun a hE => ?_
            refine gP hE rfl rfl rfl (not_t (b_f c169)) fun a hE => ?_
            refine gP hE rfl rfl rfl (not_t (b_f c169)) fun a hE => ?_
            refine gP hE rfl rfl rfl (not_t (b_f c169)) fun a hE => ?_
            refine s1 hE rfl (d_pT hE rfl (not_t (b_f c169)) rfl) fun a hE => ?_
            refine wpList_nil ?_
            cases hm
            exact ⟨hE.sub ⟨rfl, rfl, rfl, rfl, trivial⟩, H⟩
        · rw [if_neg c166] at hm
          refine gP hE rfl rfl rfl (not_t (b_f c166)) fun a hE => ?_
          refine gP hE rfl rfl rfl (not_t (b_f c166)) fun a hE => ?_
          refine gP hE rfl rfl rfl (not_t (b_f c166)) fun a hE => ?_
          refine gP hE rfl rfl rfl (not_t (b_f c166)) fun a hE => ?_
          refine gP hE rfl rfl rfl (not_t (b_f c166)) fun a hE => ?_
          refine s1 hE rfl (d_pT hE rfl (not_t (b_f c166)) rfl) fun a hE => ?_
          refine s1 hE rfl (d_move hE rfl) fun a hE => ?_
          refine gP hE rfl rfl rfl rfl fun a hE => ?_
          refine gP hE rfl rfl rfl rfl fun a hE => ?_
          refine gP hE rfl rfl rfl rfl fun a hE => ?_
          refine gP hE rfl rfl rfl rfl fun a hE => ?_
          refine s1 hE rfl (d_pT hE rfl rfl rfl) fun a hE => ?_
          refine wpList_nil ?_
          cases hm
          exact ⟨hE.sub ⟨rfl, rfl, rfl, rfl, trivial⟩, H⟩
  · rintro a w ⟨hE, H⟩
    by_cases c177 : s161 = true
    · rw [if_pos c177] at hm
      refine cT hE rfl c177 ?_
      refine wp_seq ?_
      refine wp_region_lit ?_
      obtain ⟨x180, hc181, hm⟩ := bnd hm
      refine s2 hE rfl (d_call c31 hE rfl (f31_ok k  hc181  H)) fun a v w hR hE => ?_
      obtain ⟨rfl, H⟩ := hR
      refine s1 hE rfl (d_assign hE rfl) fun a hE => ?_
      refine wpList_nil ?_
      refine wp_ret ?_
      cases hm
      have H := St.del H 0
      exact ret1 rfl hE rfl ⟨_, rfl, rfl, H⟩
    · rw [if_neg c177] at hm
      refine cF hE rfl (b_f c177) ?_
      refine wp_skip ?_
      refine wp_seq ?_
      refine wp_seq ?_
      refine wp_region_lit ?_
      refine s1 hE rfl (d_assign hE rfl) fun a hE => ?_
      refine wpList_nil ?_
      obtain ⟨s243, hj243, hq243⟩ := bnd hm
      refine cut2 (fun a w => ∃ s_ : Unit, s243 = .go s_ ∧ Env a 61 [(0, u0), (2, u2), (4, (.pointer (some (ad q147 0))))] ∧ St z I w (Bl q147 56 [(.int .i64 a1.e0), (.int .i64 a1.e1)] :: r)) ?_ ?_
      · refine wp_block ?_
        refine loopI (fun k a w => ∃ y212 : Int, m4_l0 a0 k y212 = some s243 ∧ Env a 61 [(0, u0), (2, u2), (4, (.pointer (some (ad q147 0)))), (7, (.int .i64 y212))] ∧ St z I w (Bl q147 56 [(.int .i64 a1.e0), (.int .i64 a1.e1)] :: r)) ?_ k _ _ ?_
        · rintro k a w ⟨y212, hm, hE, H⟩
          cases k with
          | zero => rw [m4_l0] at hm; cases hm
          | succ k =>
            rw [m4_l0] at hm
            refine wp_seq ?_
            refine wp_seq ?_
            refine wp_region_lit ?_
            refine s1 hE rfl (d_move hE rfl) fun a hE => ?_
            refine s1 hE rfl (d_move hE rfl) fun a hE => ?_
            refine s1 hE rfl (d_lenS Try.underlying55 hE rfl (Rd.st hr0 hI (H).drop)) fun a hE => ?_
            refine s1 hE rfl (d_lss hE rfl rfl) fun a hE => ?_
            refine wpList_nil ?_
            by_cases c245 : y212 < (a0.length : Int)
            · rw [if_pos c245] at hm
              refine cT hE rfl (decide_eq_true c245) ?_
              refine wp_skip ?_
              refine wp_seq ?_
              refine wp_block ?_
              refine wp_seq ?_
              refine wp_region_lit ?_
              refine s1 hE rfl (d_move hE rfl) fun a hE => ?_
              refine s1 hE rfl (d_move hE rfl) fun a hE => ?_
              obtain ⟨x262, hx263, hm⟩ := bnd hm
              refine s1 hE rfl (d_indexS sl55 hE rfl rfl (Rd.st hr0 hI (H).drop) hx263) fun a hE => ?_
              refine s1 hE rfl (d_fieldAddr fld60_2 hE rfl) fun a hE => ?_
              refine s1 hE rfl (d_loadSf (j := 2) sc3 hE rfl (Rd.st hr0 hI (H).drop) hx263 (fun _ e => by rw [e]; rfl)) fun a hE => ?_
              refine s1 hE rfl (d_gtr hE rfl rfl) fun a hE => ?_
              refine wpList_nil ?_
              by_cases c269 : 100 < x262.Cost
              · rw [if_pos c269] at hm
                refine cT hE rfl (decide_eq_true c269) ?_
                refine wp_seq ?_
                refine wp_region_lit ?_
                obtain ⟨x272, hc273, hm⟩ := bnd hm
                refine s2 hE rfl (d_call c31 hE rfl (f31_ok k  hc273  H)) fun a v w hR hE => ?_
                obtain ⟨rfl, H⟩ := hR
                refine s1 hE rfl (d_assign hE rfl) fun a hE => ?_
                refine wpList_nil ?_
                refine wp_ret ?_
                cases hm
                have hm := hq243
                simp only [Out.on] at hm
                cases hm
                have H := St.del H 0
                exact ret1 rfl hE rfl ⟨_, rfl, rfl, H⟩
              · rw [if_neg c269] at hm
                refine cF hE rfl (decide_eq_false c269) ?_
                refine wp_skip ?_
                refine wp_region_lit ?_
                refine s1 hE rfl (d_move hE rfl) fun a hE => ?_
                refine s1 hE rfl (d_add hE rfl rfl) fun a hE => ?_
                refine s1 hE rfl (d_assign hE rfl) fun a hE => ?_
                refine wpList_nil ?_
                exact ⟨k, Nat.lt_succ_self k, IntKind.i64.wrap (y212 + 1), hm, hE.sub ⟨rfl, rfl, rfl, rfl, trivial⟩, H⟩
            · rw [if_neg c245] at hm
              refine cF hE rfl (decide_eq_false c245) ?_
              refine wp_exit ?_
              cases hm
              exact ⟨_, rfl, hE.sub ⟨rfl, rfl, rfl, trivial⟩, H⟩
        · exact ⟨0, hj243, hE.sub ⟨rfl, rfl, rfl, rfl, trivial⟩, H⟩
      · rintro a w ⟨s243, rfl, hE, H⟩
        have hm := hq243
        simp only [Out.on] at hm
        refine wp_seq ?_
        obtain ⟨s282, hj282, hm⟩ := bnd hm
        refine cut2 (fun a w => Env a 61 [(6, (.bool s282))] ∧ St z I w (r)) ?_ ?_
        · have hm := hj282
          refine wp_region_lit ?_
          refine s1 hE rfl (d_move hE rfl) fun a hE => ?_
          refine s1 hE rfl (d_indexP ix56_0 hE rfl rfl) fun a hE => ?_
          refine s1 hE rfl (d_load sc3 hE rfl H 0 rfl rfl) fun a hE => ?_
          refine s1 hE rfl (d_indexP ix56_1 hE rfl rfl) fun a hE => ?_
          refine s1 hE rfl (d_load sc3 hE rfl H 0 rfl rfl) fun a hE => ?_
          obtain ⟨x283, hc284, hm⟩ := bnd hm
          refine s2 hE rfl (d_call c32 hE rfl (f32_ok k a0 a1.e0 a1.e1 hc284 (Rd.cons hr0) H)) fun a v w hR hE => ?_
          obtain ⟨rfl, H⟩ := hR
          refine s1 hE rfl (d_move hE rfl) fun a hE => ?_
          refine s1 hE rfl (d_move hE rfl) fun a hE => ?_
          obtain ⟨x285, hc286, hm⟩ := bnd hm
          refine s2 hE rfl (d_call c33 hE rfl (f33_ok k a0 a2 hc286 (Rd.cons hr0) (Rd.cons hr2) H)) fun a v w hR hE => ?_
          obtain ⟨rfl, H⟩ := hR
          refine s1 hE rfl (d_leq hE rfl rfl) fun a hE => ?_
          refine s1 hE rfl (d_move hE rfl) fun a hE => ?_
          by_cases c287 : x283 ≤ x285
          · rw [if_pos c287] at hm
            refine gR hE rfl rfl (decide_eq_true c287) ?_
            obtain ⟨x288, hc289, hm⟩ := bnd hm
            refine s2 hE rfl (d_call c31 hE rfl (f31_ok k  hc289  H)) fun a v w hR hE => ?_
            obtain ⟨rfl, H⟩ := hR
            refine s1 hE rfl (d_pT hE rfl (decide_eq_true c287) rfl) fun a hE => ?_
            refine s1 hE rfl (d_assign hE rfl) fun a hE => ?_
            refine wpList_nil ?_
            cases hm
            have H := St.del H 0
            exact ⟨hE.sub ⟨rfl, trivial⟩, H⟩
          · rw [if_neg c287] at hm
            refine gP hE rfl rfl rfl (decide_eq_false c287) fun a hE => ?_
            refine s1 hE rfl (d_pF hE rfl (decide_eq_false c287) rfl) fun a hE => ?_
            refine s1 hE rfl (d_assign hE rfl) fun a hE => ?_
            refine wpList_nil ?_
            cases hm
            have H := St.del H 0
            exact ⟨hE.sub ⟨rfl, trivial⟩, H⟩
        · rintro a w ⟨hE, H⟩
          refine wp_ret ?_
          cases hm
          exact ret1 rfl hE rfl ⟨_, rfl, rfl, H⟩
end Go.Proofs.Ytbielnhpfbhkgaa
