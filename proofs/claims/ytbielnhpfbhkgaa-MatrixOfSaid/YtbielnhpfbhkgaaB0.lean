/- Functions and what their calls do, by program (gen.py). -/
import Derived.Test.YtbielnhpfbhkgaaSlE
import Derived.Test.YtbielnhpfbhkgaaProg
import Derived.Test.YtbielnhpfbhkgaaShelfB
set_option linter.unusedVariables false
set_option linter.unusedSimpArgs false
namespace Go.Proofs.Ytbielnhpfbhkgaa
open Go Go.RowKit
theorem mo : Try.prog.follows .mixedOrders = true := by kernel_rfl
structure S_api_Arc where
  From : Int
  To : Int
  Cost : Int
instance : DecidableEq S_api_Arc := fun x y => decidable_of_iff (x.From = y.From ∧ x.To = y.To ∧ x.Cost = y.Cost) ⟨fun h => by cases x; cases y; simp at h; simp [h], fun h => by subst h; simp⟩
def c_api_Arc : Cod S_api_Arc := Cod.flat 3 (fun x => [(.int .i64 x.From), (.int .i64 x.To), (.int .i64 x.Cost)]) (fun _ => rfl) (by intro x v hv; simp at hv; rcases hv with rfl | rfl | rfl <;> rfl)
theorem c157 : Callable Try.prog 157 := ⟨Try.f157, Try.func157, by kernel_rfl, by kernel_rfl⟩
theorem sl51 : Slc Try.prog 51 3 1 := ⟨Try.underlying51, fun w => by kernel_rfl⟩
theorem sc3 : Scal Try.prog 3 := fun w => ⟨by kernel_rfl, by kernel_rfl⟩
theorem fld60_0 : Fld Try.prog 60 0 0 := fun p w => by kernel_rfl
theorem c103 : Callable Try.prog 103 := ⟨Try.f103, Try.func103, by kernel_rfl, by kernel_rfl⟩
theorem fld60_1 : Fld Try.prog 60 1 1 := fun p w => by kernel_rfl
theorem lit51_2 (x0 : Int) (x1 : Int)  : ∀ w : World, (Instr.buildSlice 51 2 (List.toArray [(0, (.int .i64 x0)), (1, (.int .i64 x1))])).run Try.prog w = .ok (.slice (some (ad w.heap.size 0)) 2 2) (w.alloc (.cells (List.toArray [(.int .i64 x0), (.int .i64 x1)]) 3)) := fun w => by kernel_rfl
theorem c102 : Callable Try.prog 102 := ⟨Try.f102, Try.func102, by kernel_rfl, by kernel_rfl⟩
theorem sl55 : Slc Try.prog 55 60 3 := ⟨Try.underlying55, fun w => by kernel_rfl⟩
theorem ag60 : Aggr Try.prog 60 3 := fun w => ⟨by kernel_rfl, by kernel_rfl⟩
theorem al60 : ∀ w : World, (Instr.alloc 60 true (.tuple #[])).run Try.prog w = .ok (.pointer (some (ad w.heap.size 0))) (w.alloc (.cells (List.toArray [(.int .i64 0), (.int .i64 0), (.int .i64 0)]) 60)) := fun w => by kernel_rfl
theorem sz60 : ∀ w : World, (sizeOf 60).run Try.prog w = .ok 3 w := fun w => by kernel_rfl
theorem c154 : Callable Try.prog 154 := ⟨Try.f154, Try.func154, by kernel_rfl, by kernel_rfl⟩
theorem fld60_2 : Fld Try.prog 60 2 2 := fun p w => by kernel_rfl
theorem c155 : Callable Try.prog 155 := ⟨Try.f155, Try.func155, by kernel_rfl, by kernel_rfl⟩
theorem c98 : Callable Try.prog 98 := ⟨Try.f98, Try.func98, by kernel_rfl, by kernel_rfl⟩
theorem c104 : Callable Try.prog 104 := ⟨Try.f104, Try.func104, by kernel_rfl, by kernel_rfl⟩
theorem k104 {b : Nat} {z w : World} {I : Hp} {r : List Asn} (H : St z I w r) : Calls Try.prog 104 #[.map (some b)] w (Rt fun v w' => ∃ q, v = .func (.func 158) #[] #[.pointer (some (ad q 0))] ∧ St z I w' (Bl q 158 [.map (some b)] :: r)) := by
  have cK : CallsIn Fence.wide 5 Try.prog 104 #[.map (some b)] w fun e w' => e = .returned (.func (.func 158) #[] #[.pointer (some ⟨w.heap.size, 0, none⟩)]) ∧ w' = w.alloc (.cells #[.map (some b)] 158) := AnyZI.keys_in Try.keys104 Fence.wide 5 trivial rfl (some b) w
  refine Calls.mono ((callsIn_wide (n := 5)).1 cK) fun e w' h => ?_
  obtain ⟨rfl, rfl⟩ := h
  exact ⟨_, rfl, _, rfl, H.alloc _⟩
theorem c75 : Callable Try.prog 75 := ⟨Try.f75, Try.func75, by kernel_rfl, by kernel_rfl⟩
theorem sorts75 (m : Nat) : AnyZI.SortsIn Try.prog Try.sorted75_ren Fence.wide m :=
  ⟨fun blk off cap ss W hH hblk hsz => callsIn_wide.2 (AnyM.slices_Sort_int Try.sort119 blk off cap ss W hH hblk hsz), fun p cap W => callsIn_wide.2 (AnyM.slices_Sort_int_none Try.sort119 p cap W)⟩
theorem s75_158 {α : Type} {c : Cod α} {g : Bool} {b q : Nat} {m : List (Int × α)} {res : List Int} (hm : skeys m = some res) {z w : World} {I : Hp} {r : List Asn} (hz : z.drawn = 0) (H : St z I w r) (i : Nat) (hi : r[i]? = some (Bl q 158 [.map (some b)])) (j : Nat) (hj : r[j]? = some (MapR c g b m)) :
    Calls Try.prog 75 #[.func (.func 158) #[] #[.pointer (some (ad q 0))]] w (Rt fun v w' => St z I w' (OwnSl (cInt .i64) v res :: r)) := by
  obtain ⟨rfl, hl, hw⟩ := skeys_some hm
  obtain ⟨D0, hown, hperm, hsize⟩ := H.ownsMap (kt := 3) Try.underlying3 j hj hl hw
  have hq := H.ob i hi
  have hseq : SeqGives Fence.wide 2 Try.prog 158 #[.pointer (some ⟨q, 0, none⟩)] encZ (fun ss => ss.Perm (intKeys D0)) (Maps.size D0) w :=
    AnyZI.keys_gives (ρ := Try.keys104_ren) { Try.keys104 with } Fence.wide _ trivial rfl (by omega) q b m.length D0 (R := Rtriv) w (Array.getElem?_eq_some_iff.1 hq).1 (by simp [World.cell?, hq]) hown
  have cS := AnyZI.sorted_in Try.sorted75 Fence.wide 5 trivial trivial trivial trivial rfl (by omega) (sorts75 _) (enters_of Try.func119 (by kernel_rfl) rfl) 158 #[.pointer (some ⟨q, 0, none⟩)] trivial (enters_of Try.func158 (by kernel_rfl) rfl) _ _ (by rw [hsize]; exact Nat.le_trans hl (by decide)) (by rw [hsize]; omega) _ hseq
  change CallsIn _ _ Try.prog 75 _ _ _ at cS
  refine Calls.mono ((callsIn_wide (n := 5)).1 cS) fun e w' h => ?_
  obtain ⟨v, ss, rfl, hS, hrow, _, hb⟩ := h
  refine ⟨v, rfl, ?_⟩
  have he : (ss.mergeSort fun x y => decide (x ≤ y)) = sortZ (mkeys m) := sortZ_perm (hS.trans hperm)
  rw [he] at hrow
  exact H.newRow hb hz hrow
theorem c149 : Callable Try.prog 149 := ⟨Try.f149, Try.func149, by kernel_rfl, by kernel_rfl⟩
theorem lit51_0   : ∀ w : World, (Instr.buildSlice 51 0 (List.toArray [])).run Try.prog w = .ok (.slice (some (ad w.heap.size 0)) 0 0) (w.alloc (.cells (List.toArray []) 3)) := fun w => by kernel_rfl
theorem lit51_1 (x0 : Int)  : ∀ w : World, (Instr.buildSlice 51 1 (List.toArray [(0, (.int .i64 x0))])).run Try.prog w = .ok (.slice (some (ad w.heap.size 0)) 1 1) (w.alloc (.cells (List.toArray [(.int .i64 x0)]) 3)) := fun w => by kernel_rfl
theorem el51 : Elt Try.prog 51 3 1 8 := ⟨Try.underlying51, by kernel_rfl, by decide⟩
theorem c146 : Callable Try.prog 146 := ⟨Try.f146, Try.func146, by kernel_rfl, by kernel_rfl⟩
def m157 (a0 : Int) : Option Bool := some (!(decide (a0 = a0)))
set_option maxRecDepth 20000 in
set_option maxHeartbeats 4000000 in
theorem f157_ok (a0 : Int) {res : Bool} (hm : m157 a0 = some res) {z w : World} {I : Hp} {r : List Asn}  (H : St z I w (r)) :
    Calls Try.prog 157 #[(.int .i64 a0)] w (Rt fun v w' => v = (.bool res) ∧ St z I w' (r)) := by
  unfold m157 at hm
  refine enter (args := [(.int .i64 a0)]) Try.func157 rfl Try.ntmps157 rfl fun a hE => ?_
  refine wp_seq ?_
  refine wp_region_lit ?_
  refine s1 hE rfl (d_assign hE rfl) fun a hE => ?_
  refine wpList_nil ?_
  refine wp_seq ?_
  refine wp_region_lit ?_
  refine s1 hE rfl (d_move hE rfl) fun a hE => ?_
  refine s1 hE rfl (d_move hE rfl) fun a hE => ?_
  refine s1 hE rfl (d_neq hE rfl rfl) fun a hE => ?_
  refine s1 hE rfl (d_assign hE rfl) fun a hE => ?_
  refine wpList_nil ?_
  refine wp_ret ?_
  cases hm
  exact ret1 rfl hE rfl ⟨_, rfl, rfl, H⟩
def m154 (a0 : Int) : Option Bool := Option.bind (α := Bool) (if 1 ≤ a0 then (some (decide (a0 ≤ 64))) else (some false)) fun s58 => some s58
set_option maxRecDepth 20000 in
set_option maxHeartbeats 4000000 in
theorem f154_ok (a0 : Int) {res : Bool} (hm : m154 a0 = some res) {z w : World} {I : Hp} {r : List Asn}  (H : St z I w (r)) :
    Calls Try.prog 154 #[(.int .i64 a0)] w (Rt fun v w' => v = (.bool res) ∧ St z I w' (r)) := by
  unfold m154 at hm
  refine enter (args := [(.int .i64 a0)]) Try.func154 rfl Try.ntmps154 rfl fun a hE => ?_
  refine wp_seq ?_
  refine wp_region_lit ?_
  refine s1 hE rfl (d_assign hE rfl) fun a hE => ?_
  refine wpList_nil ?_
  refine wp_seq ?_
  obtain ⟨s58, hj58, hm⟩ := bnd hm
  refine cut2 (fun a w => Env a 9 [(2, (.bool s58))] ∧ St z I w (r)) ?_ ?_
  · have hm := hj58
    refine wp_region_lit ?_
    refine s1 hE rfl (d_move hE rfl) fun a hE => ?_
    refine s1 hE rfl (d_geq hE rfl rfl) fun a hE => ?_
    refine s1 hE rfl (d_move hE rfl) fun a hE => ?_
    by_cases c59 : 1 ≤ a0
    · rw [if_pos c59] at hm
      refine gR hE rfl rfl (decide_eq_true c59) ?_
      refine s1 hE rfl (d_move hE rfl) fun a hE => ?_
      refine gR hE rfl rfl (decide_eq_true c59) ?_
      refine s1 hE rfl (d_leq hE rfl rfl) fun a hE => ?_
      refine s1 hE rfl (d_pT hE rfl (decide_eq_true c59) rfl) fun a hE => ?_
      refine s1 hE rfl (d_assign hE rfl) fun a hE => ?_
      refine wpList_nil ?_
      cases hm
      exact ⟨hE.sub ⟨rfl, trivial⟩, H⟩
    · rw [if_neg c59] at hm
      refine gP hE rfl rfl rfl (decide_eq_false c59) fun a hE => ?_
      refine gP hE rfl rfl rfl (decide_eq_false c59) fun a hE => ?_
      refine s1 hE rfl (d_pF hE rfl (decide_eq_false c59) rfl) fun a hE => ?_
      refine s1 hE rfl (d_assign hE rfl) fun a hE => ?_
      refine wpList_nil ?_
      cases hm
      exact ⟨hE.sub ⟨rfl, trivial⟩, H⟩
  · rintro a w ⟨hE, H⟩
    refine wp_ret ?_
    cases hm
    exact ret1 rfl hE rfl ⟨_, rfl, rfl, H⟩
def m103 (a0 : Int) (a1 : Int) : Option Int := Option.bind (m157 a0) fun x74 => Option.bind (m157 a1) fun x78 => if x74 = true then (if x78 = true then (some 0) else (some (-1))) else (if x78 = true then (some 1) else (if a0 < a1 then (some (-1)) else (if a1 < a0 then (some 1) else (some 0))))
set_option maxRecDepth 20000 in
set_option maxHeartbeats 4000000 in
theorem f103_ok (a0 : Int) (a1 : Int) {res : Int} (hm : m103 a0 a1 = some res) {z w : World} {I : Hp} {r : List Asn}  (H : St z I w (r)) :
    Calls Try.prog 103 #[(.int .i64 a0), (.int .i64 a1)] w (Rt fun v w' => v = (.int .i64 res) ∧ St z I w' (r)) := by
  unfold m103 at hm
  refine enter (args := [(.int .i64 a0), (.int .i64 a1)]) Try.func103 rfl Try.ntmps103 rfl fun a hE => ?_
  refine wp_seq ?_
  refine wp_region_lit ?_
  refine s1 hE rfl (d_assign hE rfl) fun a hE => ?_
  refine wpList_nil ?_
  refine wp_seq ?_
  refine wp_region_lit ?_
  refine s1 hE rfl (d_move hE rfl) fun a hE => ?_
  obtain ⟨x74, hc75, hm⟩ := bnd hm
  refine s2 hE rfl (d_call c157 hE rfl (f157_ok a0 hc75  H)) fun a v w hR hE => ?_
  obtain ⟨hv_, H⟩ := hR
  have hv_ := hv_.symm
  subst hv_
  refine s1 hE rfl (d_assign hE rfl) fun a hE => ?_
  refine wpList_nil ?_
  refine wp_seq ?_
  refine wp_region_lit ?_
  refine s1 hE rfl (d_move hE rfl) fun a hE => ?_
  obtain ⟨x78, hc79, hm⟩ := bnd hm
  refine s2 hE rfl (d_call c157 hE rfl (f157_ok a1 hc79  H)) fun a v w hR hE => ?_
  obtain ⟨hv_, H⟩ := hR
  have hv_ := hv_.symm
  subst hv_
  refine s1 hE rfl (d_assign hE rfl) fun a hE => ?_
  refine wpList_nil ?_
  refine wp_seq ?_
  refine wp_seq ?_
  refine wp_region_lit ?_
  refine s1 hE rfl (d_move hE rfl) fun a hE => ?_
  refine wpList_nil ?_
  by_cases c83 : x74 = true
  · rw [if_pos c83] at hm
    refine cT hE rfl c83 ?_
    refine wp_seq ?_
    refine wp_seq ?_
    refine wp_region_lit ?_
    refine s1 hE rfl (d_move hE rfl) fun a hE => ?_
    refine wpList_nil ?_
    by_cases c85 : x78 = true
    · rw [if_pos c85] at hm
      refine cT hE rfl c85 ?_
      refine wp_seq ?_
      refine wp_region_lit ?_
      refine s1 hE rfl (d_assign hE rfl) fun a hE => ?_
      refine wpList_nil ?_
      refine wp_ret ?_
      cases hm
      exact ret1 rfl hE rfl ⟨_, rfl, rfl, H⟩
    · rw [if_neg c85] at hm
      refine cF hE rfl (b_f c85) ?_
      refine wp_skip ?_
      refine wp_seq ?_
      refine wp_region_lit ?_
      refine s1 hE rfl (d_assign hE rfl) fun a hE => ?_
      refine wpList_nil ?_
      refine wp_ret ?_
      cases hm
      exact ret1 rfl hE rfl ⟨_, rfl, rfl, H⟩
  · rw [if_neg c83] at hm
    refine cF hE rfl (b_f c83) ?_
    refine wp_skip ?_
    refine wp_seq ?_
    refine wp_seq ?_
    refine wp_region_lit ?_
    refine s1 hE rfl (d_move hE rfl) fun a hE => ?_
    refine wpList_nil ?_
    by_cases c87 : x78 = true
    · rw [if_pos c87] at hm
      refine cT hE rfl c87 ?_
      refine wp_seq ?_
      refine wp_region_lit ?_
      refine s1 hE rfl (d_assign hE rfl) fun a hE => ?_
      refine wpList_nil ?_
      refine wp_ret ?_
      cases hm
      exact ret1 rfl hE rfl ⟨_, rfl, rfl, H⟩
    · rw [if_neg c87] at hm
      refine cF hE rfl (b_f c87) ?_
      refine wp_skip ?_
      refine wp_seq ?_
      refine wp_seq ?_
      refine wp_region_lit ?_
      refine s1 hE rfl (d_move hE rfl) fun a hE => ?_
      refine s1 hE rfl (d_move hE rfl) fun a hE => ?_
      refine s1 hE rfl (d_lss hE rfl rfl) fun a hE => ?_
      refine wpList_nil ?_
      by_cases c89 : a0 < a1
      · rw [if_pos c89] at hm
        refine cT hE rfl (decide_eq_true c89) ?_
        refine wp_seq ?_
        refine wp_region_lit ?_
        refine s1 hE rfl (d_assign hE rfl) fun a hE => ?_
        refine wpList_nil ?_
        refine wp_ret ?_
        cases hm
        exact ret1 rfl hE rfl ⟨_, rfl, rfl, H⟩
      · rw [if_neg c89] at hm
        refine cF hE rfl (decide_eq_false c89) ?_
        refine wp_skip ?_
        refine wp_seq ?_
        refine wp_seq ?_
        refine wp_region_lit ?_
        refine s1 hE rfl (d_move hE rfl) fun a hE => ?_
        refine s1 hE rfl (d_move hE rfl) fun a hE => ?_
        refine s1 hE rfl (d_gtr hE rfl rfl) fun a hE => ?_
        refine wpList_nil ?_
        by_cases c91 : a1 < a0
        · rw [if_pos c91] at hm
          refine cT hE rfl (decide_eq_true c91) ?_
          refine wp_seq ?_
          refine wp_region_lit ?_
          refine s1 hE rfl (d_assign hE rfl) fun a hE => ?_
          refine wpList_nil ?_
          refine wp_ret ?_
          cases hm
          exact ret1 rfl hE rfl ⟨_, rfl, rfl, H⟩
        · rw [if_neg c91] at hm
          refine cF hE rfl (decide_eq_false c91) ?_
          refine wp_skip ?_
          refine wp_seq ?_
          refine wp_region_lit ?_
          refine s1 hE rfl (d_assign hE rfl) fun a hE => ?_
          refine wpList_nil ?_
          refine wp_ret ?_
          cases hm
          exact ret1 rfl hE rfl ⟨_, rfl, rfl, H⟩
def m102_l0 (a0 : List Int) : Nat → Int → Option (Out Int Unit)
  | 0, _ => none
  | k + 1, y110 => if y110 < (a0.length : Int) then (Option.bind (rdx a0 y110) fun x136 => if x136 = 0 then (m102_l0 a0 k (IntKind.i64.wrap (y110 + 1))) else (some (.ret x136))) else (some (.go ()))
def m102 (k : Nat) (a0 : List Int) : Option Int := Option.bind (m102_l0 a0 k 0) fun s125 => s125.on (fun q_ => some q_) fun s125 => some 0
set_option maxRecDepth 20000 in
set_option maxHeartbeats 4000000 in
theorem f102_ok (k : Nat) {u0 : Value} (a0 : List Int) {res : Int} (hm : m102 k a0 = some res) {z w : World} {I : Hp} {r : List Asn} (hr0 : Rd (cInt .i64) I r u0 a0) (H : St z I w (r)) :
    Calls Try.prog 102 #[u0] w (Rt fun v w' => v = (.int .i64 res) ∧ St z I w' (r)) := by
  unfold m102 at hm
  refine enter (args := [u0]) Try.func102 rfl Try.ntmps102 rfl fun a hE => ?_
  refine wp_seq ?_
  refine wp_region_lit ?_
  refine s1 hE rfl (d_assign hE rfl) fun a hE => ?_
  refine wpList_nil ?_
  refine wp_seq ?_
  refine wp_region_lit ?_
  refine s1 hE rfl (d_assign hE rfl) fun a hE => ?_
  refine wpList_nil ?_
  refine wp_seq ?_
  refine wp_seq ?_
  refine wp_region_lit ?_
  refine s1 hE rfl (d_move hE rfl) fun a hE => ?_
  refine s1 hE rfl (d_lenS Try.underlying51 hE rfl H hr0) fun a hE => ?_
  refine s1 hE rfl (d_move hE rfl) fun a hE => ?_
  refine wpList_nil ?_
  obtain ⟨s125, hj125, hq125⟩ := bnd hm
  refine cut2 (fun a w => ∃ s_ : Unit, s125 = .go s_ ∧ Env a 18 [(3, (.int .i64 0))] ∧ St z I w (r)) ?_ ?_
  · refine wp_block ?_
    refine loopI (fun k a w => ∃ y110 : Int, m102_l0 a0 k y110 = some s125 ∧ Env a 18 [(3, (.int .i64 0)), (6, u0), (7, (.int .i64 (a0.length : Int))), (8, (.int .i64 y110))] ∧ St z I w (r)) ?_ k _ _ ?_
    · rintro k a w ⟨y110, hm, hE, H⟩
      cases k with
      | zero => rw [m102_l0] at hm; cases hm
      | succ k =>
        rw [m102_l0] at hm
        refine wp_seq ?_
        refine wp_region_lit ?_
        refine s1 hE rfl (d_lss hE rfl rfl) fun a hE => ?_
        refine wpList_nil ?_
        refine wp_seq ?_
        by_cases c127 : y110 < (a0.length : Int)
        · rw [if_pos c127] at hm
          refine cT hE rfl (decide_eq_true c127) ?_
          refine wp_skip ?_
          refine wp_seq ?_
          refine wp_block ?_
          refine wp_seq ?_
          refine wp_region_lit ?_
          obtain ⟨x136, hx137, hm⟩ := bnd hm
          refine s1 hE rfl (d_indexS sl51 hE rfl rfl H hr0 hx137) fun a hE => ?_
          refine s1 hE rfl (d_loadS1 sc3 hE rfl H hr0 hx137 (fun _ _ e => e)) fun a hE => ?_
          refine s1 hE rfl (d_assign hE rfl) fun a hE => ?_
          refine wpList_nil ?_
          refine wp_seq ?_
          refine wp_region_lit ?_
          refine s1 hE rfl (d_move hE rfl) fun a hE => ?_
          refine s1 hE rfl (d_move hE rfl) fun a hE => ?_
          refine s1 hE rfl (d_neq hE rfl rfl) fun a hE => ?_
          refine wpList_nil ?_
          by_cases c139 : x136 = 0
          · rw [if_pos c139] at hm
            refine cF hE rfl (not_f (decide_eq_true c139)) ?_
            refine wp_skip ?_
            refine wp_region_lit ?_
            refine s1 hE rfl (d_add hE rfl rfl) fun a hE => ?_
            refine s1 hE rfl (d_move hE rfl) fun a hE => ?_
            refine wpList_nil ?_
            exact ⟨k, Nat.lt_succ_self k, IntKind.i64.wrap (y110 + 1), hm, hE.sub ⟨rfl, rfl, rfl, rfl, trivial⟩, H⟩
          · rw [if_neg c139] at hm
            refine cT hE rfl (not_t (decide_eq_false c139)) ?_
            refine wp_seq ?_
            refine wp_region_lit ?_
            refine s1 hE rfl (d_move hE rfl) fun a hE => ?_
            refine s1 hE rfl (d_assign hE rfl) fun a hE => ?_
            refine wpList_nil ?_
            refine wp_ret ?_
            cases hm
            have hm := hq125
            simp only [Out.on] at hm
            cases hm
            exact ret1 rfl hE rfl ⟨_, rfl, rfl, H⟩
        · rw [if_neg c127] at hm
          refine cF hE rfl (decide_eq_false c127) ?_
          refine wp_exit ?_
          cases hm
          exact ⟨_, rfl, hE.sub ⟨rfl, trivial⟩, H⟩
    · exact ⟨0, hj125, hE.sub ⟨rfl, rfl, rfl, rfl, trivial⟩, H⟩
  · rintro a w ⟨s125, rfl, hE, H⟩
    have hm := hq125
    simp only [Out.on] at hm
    refine wp_seq ?_
    refine wp_region_lit ?_
    refine s1 hE rfl (d_move hE rfl) fun a hE => ?_
    refine s1 hE rfl (d_assign hE rfl) fun a hE => ?_
    refine wpList_nil ?_
    refine wp_ret ?_
    cases hm
    exact ret1 rfl hE rfl ⟨_, rfl, rfl, H⟩
def m155 (k : Nat) (a0 : S_api_Arc) (a1 : S_api_Arc) : Option Int := Option.bind (m103 a0.From a1.From) fun x81 => Option.bind (m103 a0.To a1.To) fun x83 => Option.bind (m102 k ([x81, x83])) fun x86 => some x86
set_option maxRecDepth 20000 in
set_option maxHeartbeats 4000000 in
theorem f155_ok (k : Nat) (a0 : S_api_Arc) (a1 : S_api_Arc) {res : Int} (hm : m155 k a0 a1 = some res) {z w : World} {I : Hp} {r : List Asn}  (H : St z I w (r)) :
    Calls Try.prog 155 #[(.agg #[(.int .i64 a0.From), (.int .i64 a0.To), (.int .i64 a0.Cost)]), (.agg #[(.int .i64 a1.From), (.int .i64 a1.To), (.int .i64 a1.Cost)])] w (Rt fun v w' => v = (.int .i64 res) ∧ St z I w' (r)) := by
  unfold m155 at hm
  refine enter (args := [(.agg #[(.int .i64 a0.From), (.int .i64 a0.To), (.int .i64 a0.Cost)]), (.agg #[(.int .i64 a1.From), (.int .i64 a1.To), (.int .i64 a1.Cost)])]) Try.func155 rfl Try.ntmps155 rfl fun a hE => ?_
  refine wp_seq ?_
  refine wp_region_lit ?_
  refine s2 hE rfl (d_box hE rfl H) fun a v w hR hE => ?_
  obtain ⟨q72, rfl, H⟩ := hR
  have H : St z I w (Bl q72 60 [(.int .i64 a0.From), (.int .i64 a0.To), (.int .i64 a0.Cost)] :: r) := H
  refine s2 hE rfl (d_box hE rfl H) fun a v w hR hE => ?_
  obtain ⟨q73, rfl, H⟩ := hR
  have H : St z I w (Bl q73 60 [(.int .i64 a1.From), (.int .i64 a1.To), (.int .i64 a1.Cost)] :: Bl q72 60 [(.int .i64 a0.From), (.int .i64 a0.To), (.int .i64 a0.Cost)] :: r) := H
  refine s1 hE rfl (d_assign hE rfl) fun a hE => ?_
  refine wpList_nil ?_
  refine wp_seq ?_
  obtain ⟨x81, hc82, hm⟩ := bnd hm
  obtain ⟨x83, hc84, hm⟩ := bnd hm
  obtain ⟨x86, hc87, hm⟩ := bnd hm
  refine Dr.region (γ := Value) (pre := [[], [0], [], [2], [0, 1, 2, 3], [], [5], [], [7], [0, 1, 2, 3, 4, 5, 6, 7, 8], [0, 1, 2, 3, 4, 5, 6, 7, 8, 9], [0, 1, 2, 3, 4, 5, 6, 7, 8, 9, 10], [0, 1, 2, 3, 4, 5, 6, 7, 8, 9, 10, 11]]) (val := [some (.pointer (some (ad q72 (0 + 0)))), some (.int .i64 a0.From), some (.pointer (some (ad q73 (0 + 0)))), some (.int .i64 a1.From), some (.int .i64 x81), some (.pointer (some (ad q72 (0 + 1)))), some (.int .i64 a0.To), some (.pointer (some (ad q73 (0 + 1)))), some (.int .i64 a1.To), some (.int .i64 x83), none, none, none]) (eff := [10, 11, 12]) (mask := [[], [10], [10, 11], [10, 11, 12]]) (keys := [[], [15], [16, 15], [4, 16, 15]]) (src := [[.base 2], [.op 0], [.base 3], [.op 2], [.op 1, .op 3], [.base 2], [.op 5], [.base 3], [.op 7], [.op 6, .op 8], [.op 4, .op 9], [], []]) (z := z) (ef := fun p g => ([[], [(15, g)], [(16, (.int .i64 x86)), (15, g)], [(4, (.int .i64 x86)), (16, (.int .i64 x86)), (15, g)]] : List (List (Nat × Value))).getD p []) (hi := fun _ _ => I) (rs := fun p g => ([Bl q73 60 [(.int .i64 a1.From), (.int .i64 a1.To), (.int .i64 a1.Cost)] :: Bl q72 60 [(.int .i64 a0.From), (.int .i64 a0.To), (.int .i64 a0.Cost)] :: r, OwnSl (cInt .i64) g ([x81, x83]) :: Bl q73 60 [(.int .i64 a1.From), (.int .i64 a1.To), (.int .i64 a1.Cost)] :: Bl q72 60 [(.int .i64 a0.From), (.int .i64 a0.To), (.int .i64 a0.Cost)] :: r, OwnSl (cInt .i64) g ([x81, x83]) :: Bl q73 60 [(.int .i64 a1.From), (.int .i64 a1.To), (.int .i64 a1.Cost)] :: Bl q72 60 [(.int .i64 a0.From), (.int .i64 a0.To), (.int .i64 a0.Cost)] :: r, OwnSl (cInt .i64) g ([x81, x83]) :: Bl q73 60 [(.int .i64 a1.From), (.int .i64 a1.To), (.int .i64 a1.Cost)] :: Bl q72 60 [(.int .i64 a0.From), (.int .i64 a0.To), (.int .i64 a0.Cost)] :: r] : List (List Asn)).getD p []) [(0, 0), (1, 0), (2, 0), (3, 0), (4, 0), (5, 0), (6, 0), (7, 0), (8, 0), (9, 0)] [(0, 10, 1), (1, 11, 2), (2, 12, 3)] [0, 1, 2, 3, 4, 5, 6, 7, 8, 9] 3 mo hE (undef) rfl H (by kernel_rfl) (by kernel_rfl) (fun p g => by rcases p with _ | _ | _ | _ | p <;> rfl) ?_ ?_ (by kernel_rfl) (by kernel_rfl) ?_
  · exact ⟨by intro a w g hE H; obtain ⟨v85, rfl⟩ : ∃ x, x = g := ⟨g, rfl⟩; exact Dr.is H rfl (Dr.run rfl (d_fieldAddr fld60_0 hE rfl)),
    by intro a w g hE H; obtain ⟨v85, rfl⟩ : ∃ x, x = g := ⟨g, rfl⟩; exact Dr.is H rfl (Dr.run rfl (d_load sc3 hE rfl H 1 rfl rfl)),
    by intro a w g hE H; obtain ⟨v85, rfl⟩ : ∃ x, x = g := ⟨g, rfl⟩; exact Dr.is H rfl (Dr.run rfl (d_fieldAddr fld60_0 hE rfl)),
    by intro a w g hE H; obtain ⟨v85, rfl⟩ : ∃ x, x = g := ⟨g, rfl⟩; exact Dr.is H rfl (Dr.run rfl (d_load sc3 hE rfl H 0 rfl rfl)),
    by intro a w g hE H; obtain ⟨v85, rfl⟩ : ∃ x, x = g := ⟨g, rfl⟩; exact (Dr.run rfl (d_call c103 hE rfl (f103_ok a0.From a1.From hc82  H))).mono fun v w' hR => by obtain ⟨rfl, H⟩ := hR; exact ⟨rfl, H⟩,
    by intro a w g hE H; obtain ⟨v85, rfl⟩ : ∃ x, x = g := ⟨g, rfl⟩; exact Dr.is H rfl (Dr.run rfl (d_fieldAddr fld60_1 hE rfl)),
    by intro a w g hE H; obtain ⟨v85, rfl⟩ : ∃ x, x = g := ⟨g, rfl⟩; exact Dr.is H rfl (Dr.run rfl (d_load sc3 hE rfl H 1 rfl rfl)),
    by intro a w g hE H; obtain ⟨v85, rfl⟩ : ∃ x, x = g := ⟨g, rfl⟩; exact Dr.is H rfl (Dr.run rfl (d_fieldAddr fld60_1 hE rfl)),
    by intro a w g hE H; obtain ⟨v85, rfl⟩ : ∃ x, x = g := ⟨g, rfl⟩; exact Dr.is H rfl (Dr.run rfl (d_load sc3 hE rfl H 0 rfl rfl)),
    by intro a w g hE H; obtain ⟨v85, rfl⟩ : ∃ x, x = g := ⟨g, rfl⟩; exact (Dr.run rfl (d_call c103 hE rfl (f103_ok a0.To a1.To hc84  H))).mono fun v w' hR => by obtain ⟨rfl, H⟩ := hR; exact ⟨rfl, H⟩,
    trivial⟩
  · exact ⟨by intro a w g hE hF H; obtain ⟨v85, rfl⟩ : ∃ x, x = g := ⟨g, rfl⟩; refine (Dr.run rfl (d_lit (c := (cInt .i64)) (xs := [x81, x83]) hE rfl (lit51_2 _ _) rfl rfl (fun J h iJ s => rowsC (cs := [(.int .i64 x81)]) rfl (rowsC (cs := [(.int .i64 x83)]) rfl (rows0))) H)).mono fun v w hR => ?_; obtain ⟨v85, rfl⟩ : ∃ x, x = v := ⟨v, rfl⟩; have H : St z I w (OwnSl (cInt .i64) v85 ([x81, x83]) :: Bl q73 60 [(.int .i64 a1.From), (.int .i64 a1.To), (.int .i64 a1.Cost)] :: Bl q72 60 [(.int .i64 a0.From), (.int .i64 a0.To), (.int .i64 a0.Cost)] :: r) := hR; exact ⟨v85, H, Dr.lkSub ⟨rfl, trivial⟩⟩,
    by intro a w g hE hF H; obtain ⟨v85, rfl⟩ : ∃ x, x = g := ⟨g, rfl⟩; have hE := Dr.env_both hE hF; refine (Dr.run rfl (d_call c102 hE rfl (f102_ok k ([x81, x83]) hc87 (Rd.own 0 rfl) H))).mono fun v w hR => ?_; obtain ⟨hv_, H⟩ := hR; have hv_ := hv_.symm; subst hv_; exact ⟨v85, H, Dr.lkSub ⟨rfl, rfl, trivial⟩⟩,
    by intro a w g hE hF H; obtain ⟨v85, rfl⟩ : ∃ x, x = g := ⟨g, rfl⟩; have hE := Dr.env_both hE hF; refine (Dr.run rfl (d_assign hE rfl)).mono fun v w' hR => ?_; obtain ⟨hv_, rfl⟩ := hR; have hv_ := hv_.symm; subst hv_; exact ⟨v85, H, Dr.lkSub ⟨rfl, rfl, rfl, trivial⟩⟩,
    trivial⟩
  · intro a w g hE H
    obtain ⟨v85, rfl⟩ : ∃ x, x = g := ⟨g, rfl⟩
    have H : St z I w (OwnSl (cInt .i64) v85 ([x81, x83]) :: Bl q73 60 [(.int .i64 a1.From), (.int .i64 a1.To), (.int .i64 a1.Cost)] :: Bl q72 60 [(.int .i64 a0.From), (.int .i64 a0.To), (.int .i64 a0.Cost)] :: r) := H
    refine wp_ret ?_
    cases hm
    have H := St.del H 0
    have H := St.del H 0
    have H := St.del H 0
    exact ret1 rfl hE rfl ⟨_, rfl, rfl, H⟩
def m98_l0 (a0 : List S_api_Arc) : Nat → Int → Option (Out Int Unit)
  | 0, _ => none
  | k + 1, y390 => if y390 < (a0.length : Int) then (Option.bind (rdx a0 y390) fun x522 => Option.bind (α := Bool) (Option.bind (m154 x522.From) fun x544 => if x544 = true then (Option.bind (m154 x522.To) fun x547 => if x547 = true then (if x522.From = x522.To then (some true) else (if x522.Cost < 1 then (some true) else (if 1073741824 < x522.Cost then (some true) else (if 0 < y390 then (Option.bind (rdx a0 (IntKind.i64.wrap (y390 - 1))) fun x554 => Option.bind (m155 k x554 x522) fun x556 => some (decide (0 ≤ x556))) else (some false))))) else (some true)) else (some true)) fun s543 => if s543 = true then (some (.ret 1)) else (m98_l0 a0 k (IntKind.i64.wrap (y390 + 1)))) else (some (.go ()))
def m98 (k : Nat) (a0 : List S_api_Arc) : Option Int := Option.bind (m98_l0 a0 k 0) fun s475 => s475.on (fun q_ => some q_) fun s475 => some 0
set_option maxRecDepth 20000 in
set_option maxHeartbeats 4000000 in
theorem f98_ok (k : Nat) {u0 : Value} (a0 : List S_api_Arc) {res : Int} (hm : m98 k a0 = some res) {z w : World} {I : Hp} {r : List Asn} (hr0 : Rd c_api_Arc I r u0 a0) (H : St z I w (r)) :
    Calls Try.prog 98 #[u0] w (Rt fun v w' => v = (.int .i64 res) ∧ St z I w' (r)) := by
  unfold m98 at hm
  refine enter (args := [u0]) Try.func98 rfl Try.ntmps98 rfl fun a hE => ?_
  refine wp_seq ?_
  refine wp_region_lit ?_
  refine s1 hE rfl (d_assign hE rfl) fun a hE => ?_
  refine wpList_nil ?_
  refine wp_seq ?_
  refine wp_seq ?_
  refine wp_region_lit ?_
  refine s1 hE rfl (d_move hE rfl) fun a hE => ?_
  refine s1 hE rfl (d_lenS Try.underlying55 hE rfl H hr0) fun a hE => ?_
  refine s1 hE rfl (d_move hE rfl) fun a hE => ?_
  refine wpList_nil ?_
  obtain ⟨s475, hj475, hq475⟩ := bnd hm
  refine cut2 (fun a w => ∃ s_ : Unit, s475 = .go s_ ∧ Env a 54 [] ∧ St z I w (r)) ?_ ?_
  · refine wp_block ?_
    refine loopI (fun k a w => ∃ y390 : Int, m98_l0 a0 k y390 = some s475 ∧ Env a 54 [(0, u0), (5, u0), (6, (.int .i64 (a0.length : Int))), (7, (.int .i64 y390))] ∧ St z I w (r)) ?_ k _ _ ?_
    · rintro k a w ⟨y390, hm, hE, H⟩
      cases k with
      | zero => rw [m98_l0] at hm; cases hm
      | succ k =>
        rw [m98_l0] at hm
        refine wp_seq ?_
        refine wp_region_lit ?_
        refine s1 hE rfl (d_lss hE rfl rfl) fun a hE => ?_
        refine wpList_nil ?_
        refine wp_seq ?_
        by_cases c477 : y390 < (a0.length : Int)
        · rw [if_pos c477] at hm
          refine cT hE rfl (decide_eq_true c477) ?_
          refine wp_skip ?_
          refine wp_seq ?_
          refine wp_block ?_
          refine wp_seq ?_
          refine wp_region_lit ?_
          refine s1 hE rfl (d_move hE rfl) fun a hE => ?_
          obtain ⟨x522, hx523, hm⟩ := bnd hm
          refine s1 hE rfl (d_indexS sl55 hE rfl rfl H hr0 hx523) fun a hE => ?_
          refine s1 hE rfl (d_loadSA ag60 rfl hE rfl H hr0 hx523 (fun _ _ e => e)) fun a hE => ?_
          refine s2 hE rfl (d_alloc al60 H) fun a v w hR hE => ?_
          obtain ⟨q524, rfl, H⟩ := hR
          refine s1 hE rfl (d_assign hE rfl) fun a hE => ?_
          refine s3 (d_store sz60 hE rfl rfl rfl (oneAll rfl) H rfl) fun v w hR => ?_
          have H : St z I w (Bl q524 60 [(.int .i64 x522.From), (.int .i64 x522.To), (.int .i64 x522.Cost)] :: r) := hR
          refine wpList_nil ?_
          refine wp_seq ?_
          obtain ⟨s543, hj543, hm⟩ := bnd hm
          refine cut2 (fun a w => Env a 54 [(0, u0), (5, u0), (6, (.int .i64 (a0.length : Int))), (7, (.int .i64 y390)), (52, (.bool s543))] ∧ St z I w (r)) ?_ ?_
          · have hm := hj543
            obtain ⟨x544, hc545, hm⟩ := bnd hm
            by_cases c546 : x544 = true
            · rw [if_pos c546] at hm
              obtain ⟨x547, hc548, hm⟩ := bnd hm
              by_cases c549 : x547 = true
              · rw [if_pos c549] at hm
                by_cases c550 : x522.From = x522.To
                · rw [if_pos c550] at hm
                  refine Dr.region (γ := Unit) (pre := [[], [0], [0, 1], [0, 1, 2], [0, 1, 2, 3], [0, 1, 2, 3, 4], [0, 1, 2, 3, 4, 5], [0, 1, 2, 3, 4, 5, 6], [0, 1, 2, 3, 4, 5, 6, 7], [0, 1, 2, 3, 4, 5, 6, 7, 8], [0, 1, 2, 3, 4, 5, 6, 7, 8, 9], [0, 1, 2, 3, 4, 5, 6, 7, 8, 9, 10], [0, 1, 2, 3, 4, 5, 6, 7, 8, 9, 10, 11], [0, 1, 2, 3, 4, 5, 6, 7, 8, 9, 10], [0, 1, 2, 3, 4, 5, 6, 7, 8, 9, 10, 13], [0, 1, 2, 3, 4, 5, 6, 7, 8, 9, 10, 11, 12, 13, 14], [0, 1, 2, 3, 4, 5, 6, 7, 8, 9, 10, 11, 12, 13, 14, 15], [0, 1, 2, 3, 4, 5, 6, 7, 8, 9, 10, 11, 12, 13, 14, 15, 16], [0, 1, 2, 3, 4, 5, 6, 7, 8, 9, 10, 11, 12, 13, 14, 15, 16, 17], [0, 1, 2, 3, 4, 5, 6, 7, 8, 9, 10, 11, 12, 13, 14, 15, 16, 17, 18], [0, 1, 2, 3, 4, 5, 6, 7, 8, 9, 10, 11, 12, 13, 14, 15, 16, 17, 18, 19], [0, 1, 2, 3, 4, 5, 6, 7, 8, 9, 10, 11, 12, 13, 14, 15, 16, 17, 18, 19, 20], [0, 1, 2, 3, 4, 5, 6, 7, 8, 9, 10, 11, 12, 13, 14, 15, 16, 17, 18, 19, 20, 21], [0, 1, 2, 3, 4, 5, 6, 7, 8, 9, 10, 11, 12, 13, 14, 15, 16, 17, 18, 19, 20, 21, 22], [0, 1, 2, 3, 4, 5, 6, 7, 8, 9, 10, 11, 12, 13, 14, 15, 16, 17, 18, 19, 20, 21, 22, 23], [0, 1, 2, 3, 4, 5, 6, 7, 8, 9, 10, 11, 12, 13, 14, 15, 16, 17, 18, 19, 20, 21, 22, 23, 24], [0, 1, 2, 3, 4, 5, 6, 7, 8, 9, 10, 11, 12, 13, 14, 15, 16, 17, 18, 19, 20, 21, 22, 23, 24, 25], [0, 1, 2, 3, 4, 5, 6, 7, 8, 9, 10, 11, 12, 13, 14, 15, 16, 17, 18, 19, 20, 21, 22, 23, 24, 25, 26], [0, 1, 2, 3, 4, 5, 6, 7, 8, 9, 10, 11, 12, 13, 14, 15, 16, 17, 18, 19, 20, 21, 22, 23, 24, 25, 26, 27], [0, 1, 2, 3, 4, 5, 6, 7, 8, 9, 10, 11, 12, 13, 14, 15, 16, 17, 18, 19, 20, 21, 22, 23, 24, 25, 26, 27, 28], [0, 1, 2, 3, 4, 5, 6, 7, 8, 9, 10, 11, 12, 13, 14, 15, 16, 17, 18, 19, 20, 21, 22, 23, 24, 25, 26, 27, 28, 29], [0, 1, 2, 3, 4, 5, 6, 7, 8, 9, 10, 11, 12, 13, 14, 15, 16, 17, 18, 19, 20, 21, 22, 23, 24, 25, 26, 27, 28, 29, 30], [0, 1, 2, 3, 4, 5, 6, 7, 8, 9, 10, 11, 12, 13, 14, 15, 16, 17, 18, 19, 20, 21, 22, 23, 24, 25, 26, 27, 28, 29, 30], [0, 1, 2, 3, 4, 5, 6, 7, 8, 9, 10, 11, 12, 13, 14, 15, 16, 17, 18, 19, 20, 21, 22, 23, 24, 25, 26, 27, 28, 29, 30, 32], [0, 1, 2, 3, 4, 5, 6, 7, 8, 9, 10, 11, 12, 13, 14, 15, 16, 17, 18, 19, 20, 21, 22, 23, 24, 25, 26, 27, 28, 29, 30, 31, 32, 33], [0, 1, 2, 3, 4, 5, 6, 7, 8, 9, 10, 11, 12, 13, 14, 15, 16, 17, 18, 19, 20, 21, 22, 23, 24, 25, 26, 27, 28, 29, 30, 31, 32, 33, 34], [0, 1, 2, 3, 4, 5, 6, 7, 8, 9, 10, 11, 12, 13, 14, 15, 16, 17, 18, 19, 20, 21, 22, 23, 24, 25, 26, 27, 28, 29, 30], [0, 1, 2, 3, 4, 5, 6, 7, 8, 9, 10, 11, 12, 13, 14, 15, 16, 17, 18, 19, 20, 21, 22, 23, 24, 25, 26, 27, 28, 29, 30, 31, 32, 33, 34, 35, 36], [0, 1, 2, 3, 4, 5, 6, 7, 8, 9, 10, 11, 12, 13, 14, 15, 16, 17, 18, 19, 20, 21, 22, 23, 24, 25, 26, 27, 28, 29, 30, 31, 32, 33, 34, 35, 36, 37], [0, 1, 2, 3, 4, 5, 6, 7, 8, 9, 10, 11, 12, 13, 14, 15, 16, 17, 18, 19, 20, 21, 22, 23, 24, 25, 26, 27, 28, 29, 30, 31, 32, 33, 34, 35, 36, 37, 38], [0, 1, 2, 3, 4, 5, 6, 7, 8, 9, 10, 11, 12, 13, 14, 15, 16, 17, 18, 19, 20, 21, 22, 23, 24, 25, 26, 27, 28, 29, 30, 31, 32, 33, 34, 35, 36, 37, 38, 39]]) (val := [some (.pointer (some (ad q524 (0 + 0)))), some (.int .i64 x522.From), some (.bool x544), some (.bool (!x544)), some (.bool (!x544)), some (.pointer (some (ad q524 (0 + 1)))), some (.int .i64 x522.To), some (.bool x547), some (.bool (!x547)), some (.bool (!x547)), some (.bool (!x547)), some (.pointer (some (ad q524 (0 + 0)))), some (.int .i64 x522.From), some (.pointer (some (ad q524 (0 + 1)))), some (.int .i64 x522.To), some (.bool (decide (x522.From = x522.To))), some (.bool (decide (x522.From = x522.To))), some (.bool (decide (x522.From = x522.To))), some undef, some undef, some undef, some (.bool true), some (.bool true), some undef, some undef, some undef, some (.bool true), some (.bool true), some undef, some undef, some undef, some undef, some undef, some undef, some undef, some undef, some undef, some undef, some undef, some undef, some (.bool true)]) (eff := []) (mask := [[]]) (keys := [[]]) (src := [[.base 4], [.op 0], [.op 1], [.op 2], [.op 3], [.base 4, .op 4], [.op 4, .op 5], [.op 4, .op 6], [.op 4, .op 7], [.op 4, .op 8], [.op 9], [.base 4, .op 10], [.op 10, .op 11], [.base 4, .op 10], [.op 10, .op 13], [.op 10, .op 12, .op 14], [.op 10, .op 15], [.op 16], [.base 4, .op 17], [.op 17, .op 18], [.op 17, .op 19], [.op 17, .op 20], [.op 21], [.base 4, .op 22], [.op 22, .op 23], [.op 22, .op 24], [.op 22, .op 25], [.op 26], [.base 3, .op 27], [.op 27, .op 28], [.op 27, .op 29], [.base 0, .op 30], [.base 3, .op 30], [.op 30, .op 32], [.op 30, .op 31, .op 33], [.op 30, .op 34], [.base 4, .op 30], [.op 30, .op 35, .op 36], [.op 30, .op 37], [.op 27, .op 30, .op 38], [.op 27, .op 39]]) (z := z) (ef := fun p g => ([[]] : List (List (Nat × Value))).getD p []) (hi := fun _ _ => I) (rs := fun p g => ([Bl q524 60 [(.int .i64 x522.From), (.int .i64 x522.To), (.int .i64 x522.Cost)] :: r] : List (List Asn)).getD p []) [(0, 0), (1, 0), (2, 0), (3, 0), (4, 0), (5, 0), (6, 0), (7, 0), (8, 0), (9, 0), (10, 0), (11, 0), (12, 0), (13, 0), (14, 0), (15, 0), (16, 0), (17, 0), (18, 0), (19, 0), (20, 0), (21, 0), (22, 0), (23, 0), (24, 0), (25, 0), (26, 0), (27, 0), (28, 0), (29, 0), (30, 0), (31, 0), (32, 0), (33, 0), (34, 0), (35, 0), (36, 0), (37, 0), (38, 0), (39, 0), (40, 0)] [] [0, 1, 2, 3, 4, 5, 6, 7, 8, 9, 10, 11, 12, 13, 14, 15, 16, 17, 18, 19, 20, 21, 22, 23, 24, 25, 26, 27, 28, 29, 30, 31, 32, 33, 34, 35, 36, 37, 38, 39, 40] 0 mo hE () rfl H (by kernel_rfl) (by kernel_rfl) (fun p g => by cases p <;> rfl) ?_ ?_ (by kernel_rfl) (by kernel_rfl) ?_
                  · exact ⟨by intro a w g hE H; exact Dr.is H rfl (Dr.run rfl (d_fieldAddr fld60_0 hE rfl)),
    by intro a w g hE H; exact Dr.is H rfl (Dr.run rfl (d_load sc3 hE rfl H 0 rfl rfl)),
    by intro a w g hE H; exact (Dr.run rfl (d_call c154 hE rfl (f154_ok x522.From hc545  H))).mono fun v w' hR => by obtain ⟨rfl, H⟩ := hR; exact ⟨rfl, H⟩,
    by intro a w g hE H; exact Dr.is H rfl (Dr.run rfl (d_not hE rfl)),
    by intro a w g hE H; exact Dr.is H rfl (Dr.run rfl (d_move hE rfl)),
    by intro a w g hE H; exact Dr.is H rfl (Dr.rG rfl hE rfl rfl (not_f c546) (d_fieldAddr fld60_1 hE rfl)),
    by intro a w g hE H; exact Dr.is H rfl (Dr.rG rfl hE rfl rfl (not_f c546) (d_load sc3 hE rfl H 0 rfl rfl)),
    by intro a w g hE H; exact (Dr.rG rfl hE rfl rfl (not_f c546) (d_call c154 hE rfl (f154_ok x522.To hc548  H))).mono fun v w' hR => by obtain ⟨rfl, H⟩ := hR; exact ⟨rfl, H⟩,
    by intro a w g hE H; exact Dr.is H rfl (Dr.rG rfl hE rfl rfl (not_f c546) (d_not hE rfl)),
    by intro a w g hE H; exact Dr.is H rfl (Dr.run rfl (d_pF hE rfl (not_f c546) rfl)),
    by intro a w g hE H; exact Dr.is H rfl (Dr.run rfl (d_move hE rfl)),
    by intro a w g hE H; exact Dr.is H rfl (Dr.rG rfl hE rfl rfl (not_f c549) (d_fieldAddr fld60_0 hE rfl)),
    by intro a w g hE H; exact Dr.is H rfl (Dr.rG rfl hE rfl rfl (not_f c549) (d_load sc3 hE rfl H 0 rfl rfl)),
    by intro a w g hE H; exact Dr.is H rfl (Dr.rG rfl hE rfl rfl (not_f c549) (d_fieldAddr fld60_1 hE rfl)),
    by intro a w g hE H; exact Dr.is H rfl (Dr.rG rfl hE rfl rfl (not_f c549) (d_load sc3 hE rfl H 0 rfl rfl)),
    by intro a w g hE H; exact Dr.is H rfl (Dr.rG rfl hE rfl rfl (not_f c549) (d_eql hE rfl rfl)),
    by intro a w g hE H; exact Dr.is H rfl (Dr.run rfl (d_pF hE rfl (not_f c549) rfl)),
    by intro a w g hE H; exact Dr.is H rfl (Dr.run rfl (d_move hE rfl)),
    by intro a w g hE H; exact Dr.is H rfl (Dr.pG rfl hE rfl rfl (decide_eq_true c550) ⟨rfl, rfl⟩),
    by intro a w g hE H; exact Dr.is H rfl (Dr.pG rfl hE rfl rfl (decide_eq_true c550) ⟨rfl, rfl⟩),
    by intro a w g hE H; exact Dr.is H rfl (Dr.pG rfl hE rfl rfl (decide_eq_true c550) ⟨rfl, rfl⟩),
    by intro a w g hE H; exact Dr.is H rfl (Dr.run rfl (d_pT hE rfl (decide_eq_true c550) rfl)),
    by intro a w g hE H; exact Dr.is H rfl (Dr.run rfl (d_move hE rfl)),
    by intro a w g hE H; exact Dr.is H rfl (Dr.pG rfl hE rfl rfl rfl ⟨rfl, rfl⟩),
    by intro a w g hE H; exact Dr.is H rfl (Dr.pG rfl hE rfl rfl rfl ⟨rfl, rfl⟩),
    by intro a w g hE H; exact Dr.is H rfl (Dr.pG rfl hE rfl rfl rfl ⟨rfl, rfl⟩),
    by intro a w g hE H; exact Dr.is H rfl (Dr.run rfl (d_pT hE rfl rfl rfl)),
    by intro a w g hE H; exact Dr.is H rfl (Dr.run rfl (d_move hE rfl)),
    by intro a w g hE H; exact Dr.is H rfl (Dr.pG rfl hE rfl rfl rfl ⟨rfl, rfl⟩),
    by intro a w g hE H; exact Dr.is H rfl (Dr.pG rfl hE rfl rfl rfl ⟨rfl, rfl⟩),
    by intro a w g hE H; exact Dr.is H rfl (Dr.pG rfl hE rfl rfl rfl ⟨rfl, rfl⟩),
    by intro a w g hE H; exact Dr.is H rfl (Dr.passU rfl hE rfl rfl ⟨rfl, rfl⟩),
    by intro a w g hE H; exact Dr.is H rfl (Dr.passU rfl hE rfl rfl ⟨rfl, rfl⟩),
    by intro a w g hE H; exact Dr.is H rfl (Dr.passU rfl hE rfl rfl ⟨rfl, rfl⟩),
    by intro a w g hE H; exact Dr.is H rfl (Dr.passU rfl hE rfl rfl ⟨rfl, rfl⟩),
    by intro a w g hE H; exact Dr.is H rfl (Dr.passU rfl hE rfl rfl ⟨rfl, rfl⟩),
    by intro a w g hE H; exact Dr.is H rfl (Dr.passU rfl hE rfl rfl ⟨rfl, rfl⟩),
    by intro a w g hE H; exact Dr.is H rfl (Dr.passU rfl hE rfl rfl ⟨rfl, rfl⟩),
    by intro a w g hE H; exact Dr.is H rfl (Dr.passU rfl hE rfl rfl ⟨rfl, rfl⟩),
    by intro a w g hE H; exact Dr.is H rfl (Dr.pG rfl hE rfl rfl rfl ⟨rfl, rfl⟩),
    by intro a w g hE H; exact Dr.is H rfl (Dr.run rfl (d_pT hE rfl rfl rfl)),
    trivial⟩
                  · trivial
                  · intro a w g hE H
                    have H : St z I w (Bl q524 60 [(.int .i64 x522.From), (.int .i64 x522.To), (.int .i64 x522.Cost)] :: r) := H
                    cases hm
                    have H := St.del H 0
                    exact ⟨hE.sub ⟨rfl, rfl, rfl, rfl, rfl, trivial⟩, H⟩
                · rw [if_neg c550] at hm
                  by_cases c551 : x522.Cost < 1
                  · rw [if_pos c551] at hm
                    refine Dr.region (γ := Unit) (pre := [[], [0], [0, 1], [0, 1, 2], [0, 1, 2, 3], [0, 1, 2, 3, 4], [0, 1, 2, 3, 4, 5], [0, 1, 2, 3, 4, 5, 6], [0, 1, 2, 3, 4, 5, 6, 7], [0, 1, 2, 3, 4, 5, 6, 7, 8], [0, 1, 2, 3, 4, 5, 6, 7, 8, 9], [0, 1, 2, 3, 4, 5, 6, 7, 8, 9, 10], [0, 1, 2, 3, 4, 5, 6, 7, 8, 9, 10, 11], [0, 1, 2, 3, 4, 5, 6, 7, 8, 9, 10], [0, 1, 2, 3, 4, 5, 6, 7, 8, 9, 10, 13], [0, 1, 2, 3, 4, 5, 6, 7, 8, 9, 10, 11, 12, 13, 14], [0, 1, 2, 3, 4, 5, 6, 7, 8, 9, 10, 11, 12, 13, 14, 15], [0, 1, 2, 3, 4, 5, 6, 7, 8, 9, 10, 11, 12, 13, 14, 15, 16], [0, 1, 2, 3, 4, 5, 6, 7, 8, 9, 10, 11, 12, 13, 14, 15, 16, 17], [0, 1, 2, 3, 4, 5, 6, 7, 8, 9, 10, 11, 12, 13, 14, 15, 16, 17, 18], [0, 1, 2, 3, 4, 5, 6, 7, 8, 9, 10, 11, 12, 13, 14, 15, 16, 17, 18, 19], [0, 1, 2, 3, 4, 5, 6, 7, 8, 9, 10, 11, 12, 13, 14, 15, 16, 17, 18, 19, 20], [0, 1, 2, 3, 4, 5, 6, 7, 8, 9, 10, 11, 12, 13, 14, 15, 16, 17, 18, 19, 20, 21], [0, 1, 2, 3, 4, 5, 6, 7, 8, 9, 10, 11, 12, 13, 14, 15, 16, 17, 18, 19, 20, 21, 22], [0, 1, 2, 3, 4, 5, 6, 7, 8, 9, 10, 11, 12, 13, 14, 15, 16, 17, 18, 19, 20, 21, 22, 23], [0, 1, 2, 3, 4, 5, 6, 7, 8, 9, 10, 11, 12, 13, 14, 15, 16, 17, 18, 19, 20, 21, 22, 23, 24], [0, 1, 2, 3, 4, 5, 6, 7, 8, 9, 10, 11, 12, 13, 14, 15, 16, 17, 18, 19, 20, 21, 22, 23, 24, 25], [0, 1, 2, 3, 4, 5, 6, 7, 8, 9, 10, 11, 12, 13, 14, 15, 16, 17, 18, 19, 20, 21, 22, 23, 24, 25, 26], [0, 1, 2, 3, 4, 5, 6, 7, 8, 9, 10, 11, 12, 13, 14, 15, 16, 17, 18, 19, 20, 21, 22, 23, 24, 25, 26, 27], [0, 1, 2, 3, 4, 5, 6, 7, 8, 9, 10, 11, 12, 13, 14, 15, 16, 17, 18, 19, 20, 21, 22, 23, 24, 25, 26, 27, 28], [0, 1, 2, 3, 4, 5, 6, 7, 8, 9, 10, 11, 12, 13, 14, 15, 16, 17, 18, 19, 20, 21, 22, 23, 24, 25, 26, 27, 28, 29], [0, 1, 2, 3, 4, 5, 6, 7, 8, 9, 10, 11, 12, 13, 14, 15, 16, 17, 18, 19, 20, 21, 22, 23, 24, 25, 26, 27, 28, 29, 30], [0, 1, 2, 3, 4, 5, 6, 7, 8, 9, 10, 11, 12, 13, 14, 15, 16, 17, 18, 19, 20, 21, 22, 23, 24, 25, 26, 27, 28, 29, 30], [0, 1, 2, 3, 4, 5, 6, 7, 8, 9, 10, 11, 12, 13, 14, 15, 16, 17, 18, 19, 20, 21, 22, 23, 24, 25, 26, 27, 28, 29, 30, 32], [0, 1, 2, 3, 4, 5, 6, 7, 8, 9, 10, 11, 12, 13, 14, 15, 16, 17, 18, 19, 20, 21, 22, 23, 24, 25, 26, 27, 28, 29, 30, 31, 32, 33], [0, 1, 2, 3, 4, 5, 6, 7, 8, 9, 10, 11, 12, 13, 14, 15, 16, 17, 18, 19, 20, 21, 22, 23, 24, 25, 26, 27, 28, 29, 30, 31, 32, 33, 34], [0, 1, 2, 3, 4, 5, 6, 7, 8, 9, 10, 11, 12, 13, 14, 15, 16, 17, 18, 19, 20, 21, 22, 23, 24, 25, 26, 27, 28, 29, 30], [0, 1, 2, 3, 4, 5, 6, 7, 8, 9, 10, 11, 12, 13, 14, 15, 16, 17, 18, 19, 20, 21, 22, 23, 24, 25, 26, 27, 28, 29, 30, 31, 32, 33, 34, 35, 36], [0, 1, 2, 3, 4, 5, 6, 7, 8, 9, 10, 11, 12, 13, 14, 15, 16, 17, 18, 19, 20, 21, 22, 23, 24, 25, 26, 27, 28, 29, 30, 31, 32, 33, 34, 35, 36, 37], [0, 1, 2, 3, 4, 5, 6, 7, 8, 9, 10, 11, 12, 13, 14, 15, 16, 17, 18, 19, 20, 21, 22, 23, 24, 25, 26, 27, 28, 29, 30, 31, 32, 33, 34, 35, 36, 37, 38], [0, 1, 2, 3, 4, 5, 6, 7, 8, 9, 10, 11, 12, 13, 14, 15, 16, 17, 18, 19, 20, 21, 22, 23, 24, 25, 26, 27, 28, 29, 30, 31, 32, 33, 34, 35, 36, 37, 38, 39]]) (val := [some (.pointer (some (ad q524 (0 + 0)))), some (.int .i64 x522.From), some (.bool x544), some (.bool (!x544)), some (.bool (!x544)), some (.pointer (some (ad q524 (0 + 1)))), some (.int .i64 x522.To), some (.bool x547), some (.bool (!x547)), some (.bool (!x547)), some (.bool (!x547)), some (.pointer (some (ad q524 (0 + 0)))), some (.int .i64 x522.From), some (.pointer (some (ad q524 (0 + 1)))), some (.int .i64 x522.To), some (.bool (decide (x522.From = x522.To))), some (.bool (decide (x522.From = x522.To))), some (.bool (decide (x522.From = x522.To))), some (.pointer (some (ad q524 (0 + 2)))), some (.int .i64 x522.Cost), some (.bool (decide (x522.Cost < 1))), some (.bool (decide (x522.Cost < 1))), some (.bool (decide (x522.Cost < 1))), some undef, some undef, some undef, some (.bool true), some (.bool true), some undef, some undef, some undef, some undef, some undef, some undef, some undef, some undef, some undef, some undef, some undef, some undef, some (.bool true)]) (eff := []) (mask := [[]]) (keys := [[]]) (src := [[.base 4], [.op 0], [.op 1], [.op 2], [.op 3], [.base 4, .op 4], [.op 4, .op 5], [.op 4, .op 6], [.op 4, .op 7], [.op 4, .op 8], [.op 9], [.base 4, .op 10], [.op 10, .op 11], [.base 4, .op 10], [.op 10, .op 13], [.op 10, .op 12, .op 14], [.op 10, .op 15], [.op 16], [.base 4, .op 17], [.op 17, .op 18], [.op 17, .op 19], [.op 17, .op 20], [.op 21], [.base 4, .op 22], [.op 22, .op 23], [.op 22, .op 24], [.op 22, .op 25], [.op 26], [.base 3, .op 27], [.op 27, .op 28], [.op 27, .op 29], [.base 0, .op 30], [.base 3, .op 30], [.op 30, .op 32], [.op 30, .op 31, .op 33], [.op 30, .op 34], [.base 4, .op 30], [.op 30, .op 35, .op 36], [.op 30, .op 37], [.op 27, .op 30, .op 38], [.op 27, .op 39]]) (z := z) (ef := fun p g => ([[]] : List (List (Nat × Value))).getD p []) (hi := fun _ _ => I) (rs := fun p g => ([Bl q524 60 [(.int .i64 x522.From), (.int .i64 x522.To), (.int .i64 x522.Cost)] :: r] : List (List Asn)).getD p []) [(0, 0), (1, 0), (2, 0), (3, 0), (4, 0), (5, 0), (6, 0), (7, 0), (8, 0), (9, 0), (10, 0), (11, 0), (12, 0), (13, 0), (14, 0), (15, 0), (16, 0), (17, 0), (18, 0), (19, 0), (20, 0), (21, 0), (22, 0), (23, 0), (24, 0), (25, 0), (26, 0), (27, 0), (28, 0), (29, 0), (30, 0), (31, 0), (32, 0), (33, 0), (34, 0), (35, 0), (36, 0), (37, 0), (38, 0), (39, 0), (40, 0)] [] [0, 1, 2, 3, 4, 5, 6, 7, 8, 9, 10, 11, 12, 13, 14, 15, 16, 17, 18, 19, 20, 21, 22, 23, 24, 25, 26, 27, 28, 29, 30, 31, 32, 33, 34, 35, 36, 37, 38, 39, 40] 0 mo hE () rfl H (by kernel_rfl) (by kernel_rfl) (fun p g => by cases p <;> rfl) ?_ ?_ (by kernel_rfl) (by kernel_rfl) ?_
                    · exact ⟨by intro a w g hE H; exact Dr.is H rfl (Dr.run rfl (d_fieldAddr fld60_0 hE rfl)),
    by intro a w g hE H; exact Dr.is H rfl (Dr.run rfl (d_load sc3 hE rfl H 0 rfl rfl)),
    by intro a w g hE H; exact (Dr.run rfl (d_call c154 hE rfl (f154_ok x522.From hc545  H))).mono fun v w' hR => by obtain ⟨rfl, H⟩ := hR; exact ⟨rfl, H⟩,
    by intro a w g hE H; exact Dr.is H rfl (Dr.run rfl (d_not hE rfl)),
    by intro a w g hE H; exact Dr.is H rfl (Dr.run rfl (d_move hE rfl)),
    by intro a w g hE H; exact Dr.is H rfl (Dr.rG rfl hE rfl rfl (not_f c546) (d_fieldAddr fld60_1 hE rfl)),
    by intro a w g hE H; exact Dr.is H rfl (Dr.rG rfl hE rfl rfl (not_f c546) (d_load sc3 hE rfl H 0 rfl rfl)),
    by intro a w g hE H; exact (Dr.rG rfl hE rfl rfl (not_f c546) (d_call c154 hE rfl (f154_ok x522.To hc548  H))).mono fun v w' hR => by obtain ⟨rfl, H⟩ := hR; exact ⟨rfl, H⟩,
    by intro a w g hE H; exact Dr.is H rfl (Dr.rG rfl hE rfl rfl (not_f c546) (d_not hE rfl)),
    by intro a w g hE H; exact Dr.is H rfl (Dr.run rfl (d_pF hE rfl (not_f c546) rfl)),
    by intro a w g hE H; exact Dr.is H rfl (Dr.run rfl (d_move hE rfl)),
    by intro a w g hE H; exact Dr.is H rfl (Dr.rG rfl hE rfl rfl (not_f c549) (d_fieldAddr fld60_0 hE rfl)),
    by intro a w g hE H; exact Dr.is H rfl (Dr.rG rfl hE rfl rfl (not_f c549) (d_load sc3 hE rfl H 0 rfl rfl)),
    by intro a w g hE H; exact Dr.is H rfl (Dr.rG rfl hE rfl rfl (not_f c549) (d_fieldAddr fld60_1 hE rfl)),
    by intro a w g hE H; exact Dr.is H rfl (Dr.rG rfl hE rfl rfl (not_f c549) (d_load sc3 hE rfl H 0 rfl rfl)),
    by intro a w g hE H; exact Dr.is H rfl (Dr.rG rfl hE rfl rfl (not_f c549) (d_eql hE rfl rfl)),
    by intro a w g hE H; exact Dr.is H rfl (Dr.run rfl (d_pF hE rfl (not_f c549) rfl)),
    by intro a w g hE H; exact Dr.is H rfl (Dr.run rfl (d_move hE rfl)),
    by intro a w g hE H; exact Dr.is H rfl (Dr.rG rfl hE rfl rfl (decide_eq_false c550) (d_fieldAddr fld60_2 hE rfl)),
    by intro a w g hE H; exact Dr.is H rfl (Dr.rG rfl hE rfl rfl (decide_eq_false c550) (d_load sc3 hE rfl H 0 rfl rfl)),
    by intro a w g hE H; exact Dr.is H rfl (Dr.rG rfl hE rfl rfl (decide_eq_false c550) (d_lss hE rfl rfl)),
    by intro a w g hE H; exact Dr.is H rfl (Dr.run rfl (d_pF hE rfl (decide_eq_false c550) rfl)),
    by intro a w g hE H; exact Dr.is H rfl (Dr.run rfl (d_move hE rfl)),
    by intro a w g hE H; exact Dr.is H rfl (Dr.pG rfl hE rfl rfl (decide_eq_true c551) ⟨rfl, rfl⟩),
    by intro a w g hE H; exact Dr.is H rfl (Dr.pG rfl hE rfl rfl (decide_eq_true c551) ⟨rfl, rfl⟩),
    by intro a w g hE H; exact Dr.is H rfl (Dr.pG rfl hE rfl rfl (decide_eq_true c551) ⟨rfl, rfl⟩),
    by intro a w g hE H; exact Dr.is H rfl (Dr.run rfl (d_pT hE rfl (decide_eq_true c551) rfl)),
    by intro a w g hE H; exact Dr.is H rfl (Dr.run rfl (d_move hE rfl)),
    by intro a w g hE H; exact Dr.is H rfl (Dr.pG rfl hE rfl rfl rfl ⟨rfl, rfl⟩),
    by intro a w g hE H; exact Dr.is H rfl (Dr.pG rfl hE rfl rfl rfl ⟨rfl, rfl⟩),
    by intro a w g hE H; exact Dr.is H rfl (Dr.pG rfl hE rfl rfl rfl ⟨rfl, rfl⟩),
    by intro a w g hE H; exact Dr.is H rfl (Dr.passU rfl hE rfl rfl ⟨rfl, rfl⟩),
    by intro a w g hE H; exact Dr.is H rfl (Dr.passU rfl hE rfl rfl ⟨rfl, rfl⟩),
    by intro a w g hE H; exact Dr.is H rfl (Dr.passU rfl hE rfl rfl ⟨rfl, rfl⟩),
    by intro a w g hE H; exact Dr.is H rfl (Dr.passU rfl hE rfl rfl ⟨rfl, rfl⟩),
    by intro a w g hE H; exact Dr.is H rfl (Dr.passU rfl hE rfl rfl ⟨rfl, rfl⟩),
    by intro a w g hE H; exact Dr.is H rfl (Dr.passU rfl hE rfl rfl ⟨rfl, rfl⟩),
    by intro a w g hE H; exact Dr.is H rfl (Dr.passU rfl hE rfl rfl ⟨rfl, rfl⟩),
    by intro a w g hE H; exact Dr.is H rfl (Dr.passU rfl hE rfl rfl ⟨rfl, rfl⟩),
    by intro a w g hE H; exact Dr.is H rfl (Dr.pG rfl hE rfl rfl rfl ⟨rfl, rfl⟩),
    by intro a w g hE H; exact Dr.is H rfl (Dr.run rfl (d_pT hE rfl rfl rfl)),
    trivial⟩
                    · trivial
                    · intro a w g hE H
                      have H : St z I w (Bl q524 60 [(.int .i64 x522.From), (.int .i64 x522.To), (.int .i64 x522.Cost)] :: r) := H
                      cases hm
                      have H := St.del H 0
                      exact ⟨hE.sub ⟨rfl, rfl, rfl, rfl, rfl, trivial⟩, H⟩
                  · rw [if_neg c551] at hm
                    by_cases c552 : 1073741824 < x522.Cost
                    · rw [if_pos c552] at hm
                      refine Dr.region (γ := Unit) (pre := [[], [0], [0, 1], [0, 1, 2], [0, 1, 2, 3], [0, 1, 2, 3, 4], [0, 1, 2, 3, 4, 5], [0, 1, 2, 3, 4, 5, 6], [0, 1, 2, 3, 4, 5, 6, 7], [0, 1, 2, 3, 4, 5, 6, 7, 8], [0, 1, 2, 3, 4, 5, 6, 7, 8, 9], [0, 1, 2, 3, 4, 5, 6, 7, 8, 9, 10], [0, 1, 2, 3, 4, 5, 6, 7, 8, 9, 10, 11], [0, 1, 2, 3, 4, 5, 6, 7, 8, 9, 10], [0, 1, 2, 3, 4, 5, 6, 7, 8, 9, 10, 13], [0, 1, 2, 3, 4, 5, 6, 7, 8, 9, 10, 11, 12, 13, 14], [0, 1, 2, 3, 4, 5, 6, 7, 8, 9, 10, 11, 12, 13, 14, 15], [0, 1, 2, 3, 4, 5, 6, 7, 8, 9, 10, 11, 12, 13, 14, 15, 16], [0, 1, 2, 3, 4, 5, 6, 7, 8, 9, 10, 11, 12, 13, 14, 15, 16, 17], [0, 1, 2, 3, 4, 5, 6, 7, 8, 9, 10, 11, 12, 13, 14, 15, 16, 17, 18], [0, 1, 2, 3, 4, 5, 6, 7, 8, 9, 10, 11, 12, 13, 14, 15, 16, 17, 18, 19], [0, 1, 2, 3, 4, 5, 6, 7, 8, 9, 10, 11, 12, 13, 14, 15, 16, 17, 18, 19, 20], [0, 1, 2, 3, 4, 5, 6, 7, 8, 9, 10, 11, 12, 13, 14, 15, 16, 17, 18, 19, 20, 21], [0, 1, 2, 3, 4, 5, 6, 7, 8, 9, 10, 11, 12, 13, 14, 15, 16, 17, 18, 19, 20, 21, 22], [0, 1, 2, 3, 4, 5, 6, 7, 8, 9, 10, 11, 12, 13, 14, 15, 16, 17, 18, 19, 20, 21, 22, 23], [0, 1, 2, 3, 4, 5, 6, 7, 8, 9, 10, 11, 12, 13, 14, 15, 16, 17, 18, 19, 20, 21, 22, 23, 24], [0, 1, 2, 3, 4, 5, 6, 7, 8, 9, 10, 11, 12, 13, 14, 15, 16, 17, 18, 19, 20, 21, 22, 23, 24, 25], [0, 1, 2, 3, 4, 5, 6, 7, 8, 9, 10, 11, 12, 13, 14, 15, 16, 17, 18, 19, 20, 21, 22, 23, 24, 25, 26], [0, 1, 2, 3, 4, 5, 6, 7, 8, 9, 10, 11, 12, 13, 14, 15, 16, 17, 18, 19, 20, 21, 22, 23, 24, 25, 26, 27], [0, 1, 2, 3, 4, 5, 6, 7, 8, 9, 10, 11, 12, 13, 14, 15, 16, 17, 18, 19, 20, 21, 22, 23, 24, 25, 26, 27, 28], [0, 1, 2, 3, 4, 5, 6, 7, 8, 9, 10, 11, 12, 13, 14, 15, 16, 17, 18, 19, 20, 21, 22, 23, 24, 25, 26, 27, 28, 29], [0, 1, 2, 3, 4, 5, 6, 7, 8, 9, 10, 11, 12, 13, 14, 15, 16, 17, 18, 19, 20, 21, 22, 23, 24, 25, 26, 27, 28, 29, 30], [0, 1, 2, 3, 4, 5, 6, 7, 8, 9, 10, 11, 12, 13, 14, 15, 16, 17, 18, 19, 20, 21, 22, 23, 24, 25, 26, 27, 28, 29, 30], [0, 1, 2, 3, 4, 5, 6, 7, 8, 9, 10, 11, 12, 13, 14, 15, 16, 17, 18, 19, 20, 21, 22, 23, 24, 25, 26, 27, 28, 29, 30, 32], [0, 1, 2, 3, 4, 5, 6, 7, 8, 9, 10, 11, 12, 13, 14, 15, 16, 17, 18, 19, 20, 21, 22, 23, 24, 25, 26, 27, 28, 29, 30, 31, 32, 33], [0, 1, 2, 3, 4, 5, 6, 7, 8, 9, 10, 11, 12, 13, 14, 15, 16, 17, 18, 19, 20, 21, 22, 23, 24, 25, 26, 27, 28, 29, 30, 31, 32, 33, 34], [0, 1, 2, 3, 4, 5, 6, 7, 8, 9, 10, 11, 12, 13, 14, 15, 16, 17, 18, 19, 20, 21, 22, 23, 24, 25, 26, 27, 28, 29, 30], [0, 1, 2, 3, 4, 5, 6, 7, 8, 9, 10, 11, 12, 13, 14, 15, 16, 17, 18, 19, 20, 21, 22, 23, 24, 25, 26, 27, 28, 29, 30, 31, 32, 33, 34, 35, 36], [0, 1, 2, 3, 4, 5, 6, 7, 8, 9, 10, 11, 12, 13, 14, 15, 16, 17, 18, 19, 20, 21, 22, 23, 24, 25, 26, 27, 28, 29, 30, 31, 32, 33, 34, 35, 36, 37], [0, 1, 2, 3, 4, 5, 6, 7, 8, 9, 10, 11, 12, 13, 14, 15, 16, 17, 18, 19, 20, 21, 22, 23, 24, 25, 26, 27, 28, 29, 30, 31, 32, 33, 34, 35, 36, 37, 38], [0, 1, 2, 3, 4, 5, 6, 7, 8, 9, 10, 11, 12, 13, 14, 15, 16, 17, 18, 19, 20, 21, 22, 23, 24, 25, 26, 27, 28, 29, 30, 31, 32, 33, 34, 35, 36, 37, 38, 39]]) (val := [some (.pointer (some (ad q524 (0 + 0)))), some (.int .i64 x522.From), some (.bool x544), some (.bool (!x544)), some (.bool (!x544)), some (.pointer (some (ad q524 (0 + 1)))), some (.int .i64 x522.To), some (.bool x547), some (.bool (!x547)), some (.bool (!x547)), some (.bool (!x547)), some (.pointer (some (ad q524 (0 + 0)))), some (.int .i64 x522.From), some (.pointer (some (ad q524 (0 + 1)))), some (.int .i64 x522.To), some (.bool (decide (x522.From = x522.To))), some (.bool (decide (x522.From = x522.To))), some (.bool (decide (x522.From = x522.To))), some (.pointer (some (ad q524 (0 + 2)))), some (.int .i64 x522.Cost), some (.bool (decide (x522.Cost < 1))), some (.bool (decide (x522.Cost < 1))), some (.bool (decide (x522.Cost < 1))), some (.pointer (some (ad q524 (0 + 2)))), some (.int .i64 x522.Cost), some (.bool (decide (1073741824 < x522.Cost))), some (.bool (decide (1073741824 < x522.Cost))), some (.bool (decide (1073741824 < x522.Cost))), some undef, some undef, some undef, some undef, some undef, some undef, some undef, some undef, some undef, some undef, some undef, some undef, some (.bool true)]) (eff := []) (mask := [[]]) (keys := [[]]) (src := [[.base 4], [.op 0], [.op 1], [.op 2], [.op 3], [.base 4, .op 4], [.op 4, .op 5], [.op 4, .op 6], [.op 4, .op 7], [.op 4, .op 8], [.op 9], [.base 4, .op 10], [.op 10, .op 11], [.base 4, .op 10], [.op 10, .op 13], [.op 10, .op 12, .op 14], [.op 10, .op 15], [.op 16], [.base 4, .op 17], [.op 17, .op 18], [.op 17, .op 19], [.op 17, .op 20], [.op 21], [.base 4, .op 22], [.op 22, .op 23], [.op 22, .op 24], [.op 22, .op 25], [.op 26], [.base 3, .op 27], [.op 27, .op 28], [.op 27, .op 29], [.base 0, .op 30], [.base 3, .op 30], [.op 30, .op 32], [.op 30, .op 31, .op 33], [.op 30, .op 34], [.base 4, .op 30], [.op 30, .op 35, .op 36], [.op 30, .op 37], [.op 27, .op 30, .op 38], [.op 27, .op 39]]) (z := z) (ef := fun p g => ([[]] : List (List (Nat × Value))).getD p []) (hi := fun _ _ => I) (rs := fun p g => ([Bl q524 60 [(.int .i64 x522.From), (.int .i64 x522.To), (.int .i64 x522.Cost)] :: r] : List (List Asn)).getD p []) [(0, 0), (1, 0), (2, 0), (3, 0), (4, 0), (5, 0), (6, 0), (7, 0), (8, 0), (9, 0), (10, 0), (11, 0), (12, 0), (13, 0), (14, 0), (15, 0), (16, 0), (17, 0), (18, 0), (19, 0), (20, 0), (21, 0), (22, 0), (23, 0), (24, 0), (25, 0), (26, 0), (27, 0), (28, 0), (29, 0), (30, 0), (31, 0), (32, 0), (33, 0), (34, 0), (35, 0), (36, 0), (37, 0), (38, 0), (39, 0), (40, 0)] [] [0, 1, 2, 3, 4, 5, 6, 7, 8, 9, 10, 11, 12, 13, 14, 15, 16, 17, 18, 19, 20, 21, 22, 23, 24, 25, 26, 27, 28, 29, 30, 31, 32, 33, 34, 35, 36, 37, 38, 39, 40] 0 mo hE () rfl H (by kernel_rfl) (by kernel_rfl) (fun p g => by cases p <;> rfl) ?_ ?_ (by kernel_rfl) (by kernel_rfl) ?_
                      · exact ⟨by intro a w g hE H; exact Dr.is H rfl (Dr.run rfl (d_fieldAddr fld60_0 hE rfl)),
    by intro a w g hE H; exact Dr.is H rfl (Dr.run rfl (d_load sc3 hE rfl H 0 rfl rfl)),
    by intro a w g hE H; exact (Dr.run rfl (d_call c154 hE rfl (f154_ok x522.From hc545  H))).mono fun v w' hR => by obtain ⟨rfl, H⟩ := hR; exact ⟨rfl, H⟩,
    by intro a w g hE H; exact Dr.is H rfl (Dr.run rfl (d_not hE rfl)),
    by intro a w g hE H; exact Dr.is H rfl (Dr.run rfl (d_move hE rfl)),
    by intro a w g hE H; exact Dr.is H rfl (Dr.rG rfl hE rfl rfl (not_f c546) (d_fieldAddr fld60_1 hE rfl)),
    by intro a w g hE H; exact Dr.is H rfl (Dr.rG rfl hE rfl rfl (not_f c546) (d_load sc3 hE rfl H 0 rfl rfl)),
    by intro a w g hE H; exact (Dr.rG rfl hE rfl rfl (not_f c546) (d_call c154 hE rfl (f154_ok x522.To hc548  H))).mono fun v w' hR => by obtain ⟨rfl, H⟩ := hR; exact ⟨rfl, H⟩,
    by intro a w g hE H; exact Dr.is H rfl (Dr.rG rfl hE rfl rfl (not_f c546) (d_not hE rfl)),
    by intro a w g hE H; exact Dr.is H rfl (Dr.run rfl (d_pF hE rfl (not_f c546) rfl)),
    by intro a w g hE H; exact Dr.is H rfl (Dr.run rfl (d_move hE rfl)),
    by intro a w g hE H; exact Dr.is H rfl (Dr.rG rfl hE rfl rfl (not_f c549) (d_fieldAddr fld60_0 hE rfl)),
    by intro a w g hE H; exact Dr.is H rfl (Dr.rG rfl hE rfl rfl (not_f c549) (d_load sc3 hE rfl H 0 rfl rfl)),
    by intro a w g hE H; exact Dr.is H rfl (Dr.rG rfl hE rfl rfl (not_f c549) (d_fieldAddr fld60_1 hE rfl)),
    by intro a w g hE H; exact Dr.is H rfl (Dr.rG rfl hE rfl rfl (not_f c549) (d_load sc3 hE rfl H 0 rfl rfl)),
    by intro a w g hE H; exact Dr.is H rfl (Dr.rG rfl hE rfl rfl (not_f c549) (d_eql hE rfl rfl)),
    by intro a w g hE H; exact Dr.is H rfl (Dr.run rfl (d_pF hE rfl (not_f c549) rfl)),
    by intro a w g hE H; exact Dr.is H rfl (Dr.run rfl (d_move hE rfl)),
    by intro a w g hE H; exact Dr.is H rfl (Dr.rG rfl hE rfl rfl (decide_eq_false c550) (d_fieldAddr fld60_2 hE rfl)),
    by intro a w g hE H; exact Dr.is H rfl (Dr.rG rfl hE rfl rfl (decide_eq_false c550) (d_load sc3 hE rfl H 0 rfl rfl)),
    by intro a w g hE H; exact Dr.is H rfl (Dr.rG rfl hE rfl rfl (decide_eq_false c550) (d_lss hE rfl rfl)),
    by intro a w g hE H; exact Dr.is H rfl (Dr.run rfl (d_pF hE rfl (decide_eq_false c550) rfl)),
    by intro a w g hE H; exact Dr.is H rfl (Dr.run rfl (d_move hE rfl)),
    by intro a w g hE H; exact Dr.is H rfl (Dr.rG rfl hE rfl rfl (decide_eq_false c551) (d_fieldAddr fld60_2 hE rfl)),
    by intro a w g hE H; exact Dr.is H rfl (Dr.rG rfl hE rfl rfl (decide_eq_false c551) (d_load sc3 hE rfl H 0 rfl rfl)),
    by intro a w g hE H; exact Dr.is H rfl (Dr.rG rfl hE rfl rfl (decide_eq_false c551) (d_gtr hE rfl rfl)),
    by intro a w g hE H; exact Dr.is H rfl (Dr.run rfl (d_pF hE rfl (decide_eq_false c551) rfl)),
    by intro a w g hE H; exact Dr.is H rfl (Dr.run rfl (d_move hE rfl)),
    by intro a w g hE H; exact Dr.is H rfl (Dr.pG rfl hE rfl rfl (decide_eq_true c552) ⟨rfl, rfl⟩),
    by intro a w g hE H; exact Dr.is H rfl (Dr.pG rfl hE rfl rfl (decide_eq_true c552) ⟨rfl, rfl⟩),
    by intro a w g hE H; exact Dr.is H rfl (Dr.pG rfl hE rfl rfl (decide_eq_true c552) ⟨rfl, rfl⟩),
    by intro a w g hE H; exact Dr.is H rfl (Dr.passU rfl hE rfl rfl ⟨rfl, rfl⟩),
    by intro a w g hE H; exact Dr.is H rfl (Dr.passU rfl hE rfl rfl ⟨rfl, rfl⟩),
    by intro a w g hE H; exact Dr.is H rfl (Dr.passU rfl hE rfl rfl ⟨rfl, rfl⟩),
    by intro a w g hE H; exact Dr.is H rfl (Dr.passU rfl hE rfl rfl ⟨rfl, rfl⟩),
    by intro a w g hE H; exact Dr.is H rfl (Dr.passU rfl hE rfl rfl ⟨rfl, rfl⟩),
    by intro a w g hE H; exact Dr.is H rfl (Dr.passU rfl hE rfl rfl ⟨rfl, rfl⟩),
    by intro a w g hE H; exact Dr.is H rfl (Dr.passU rfl hE rfl rfl ⟨rfl, rfl⟩),
    by intro a w g hE H; exact Dr.is H rfl (Dr.passU rfl hE rfl rfl ⟨rfl, rfl⟩),
    by intro a w g hE H; exact Dr.is H rfl (Dr.pG rfl hE rfl rfl (decide_eq_true c552) ⟨rfl, rfl⟩),
    by intro a w g hE H; exact Dr.is H rfl (Dr.run rfl (d_pT hE rfl (decide_eq_true c552) rfl)),
    trivial⟩
                      · trivial
                      · intro a w g hE H
                        have H : St z I w (Bl q524 60 [(.int .i64 x522.From), (.int .i64 x522.To), (.int .i64 x522.Cost)] :: r) := H
                        cases hm
                        have H := St.del H 0
                        exact ⟨hE.sub ⟨rfl, rfl, rfl, rfl, rfl, trivial⟩, H⟩
                    · rw [if_neg c552] at hm
                      by_cases c553 : 0 < y390
                      · rw [if_pos c553] at hm
                        obtain ⟨x554, hx555, hm⟩ := bnd hm
                        obtain ⟨x556, hc557, hm⟩ := bnd hm
                        refine Dr.region (γ := Unit) (pre := [[], [0], [0, 1], [0, 1, 2], [0, 1, 2, 3], [0, 1, 2, 3, 4], [0, 1, 2, 3, 4, 5], [0, 1, 2, 3, 4, 5, 6], [0, 1, 2, 3, 4, 5, 6, 7], [0, 1, 2, 3, 4, 5, 6, 7, 8], [0, 1, 2, 3, 4, 5, 6, 7, 8, 9], [0, 1, 2, 3, 4, 5, 6, 7, 8, 9, 10], [0, 1, 2, 3, 4, 5, 6, 7, 8, 9, 10, 11], [0, 1, 2, 3, 4, 5, 6, 7, 8, 9, 10], [0, 1, 2, 3, 4, 5, 6, 7, 8, 9, 10, 13], [0, 1, 2, 3, 4, 5, 6, 7, 8, 9, 10, 11, 12, 13, 14], [0, 1, 2, 3, 4, 5, 6, 7, 8, 9, 10, 11, 12, 13, 14, 15], [0, 1, 2, 3, 4, 5, 6, 7, 8, 9, 10, 11, 12, 13, 14, 15, 16], [0, 1, 2, 3, 4, 5, 6, 7, 8, 9, 10, 11, 12, 13, 14, 15, 16, 17], [0, 1, 2, 3, 4, 5, 6, 7, 8, 9, 10, 11, 12, 13, 14, 15, 16, 17, 18], [0, 1, 2, 3, 4, 5, 6, 7, 8, 9, 10, 11, 12, 13, 14, 15, 16, 17, 18, 19], [0, 1, 2, 3, 4, 5, 6, 7, 8, 9, 10, 11, 12, 13, 14, 15, 16, 17, 18, 19, 20], [0, 1, 2, 3, 4, 5, 6, 7, 8, 9, 10, 11, 12, 13, 14, 15, 16, 17, 18, 19, 20, 21], [0, 1, 2, 3, 4, 5, 6, 7, 8, 9, 10, 11, 12, 13, 14, 15, 16, 17, 18, 19, 20, 21, 22], [0, 1, 2, 3, 4, 5, 6, 7, 8, 9, 10, 11, 12, 13, 14, 15, 16, 17, 18, 19, 20, 21, 22, 23], [0, 1, 2, 3, 4, 5, 6, 7, 8, 9, 10, 11, 12, 13, 14, 15, 16, 17, 18, 19, 20, 21, 22, 23, 24], [0, 1, 2, 3, 4, 5, 6, 7, 8, 9, 10, 11, 12, 13, 14, 15, 16, 17, 18, 19, 20, 21, 22, 23, 24, 25], [0, 1, 2, 3, 4, 5, 6, 7, 8, 9, 10, 11, 12, 13, 14, 15, 16, 17, 18, 19, 20, 21, 22, 23, 24, 25, 26], [0, 1, 2, 3, 4, 5, 6, 7, 8, 9, 10, 11, 12, 13, 14, 15, 16, 17, 18, 19, 20, 21, 22, 23, 24, 25, 26, 27], [0, 1, 2, 3, 4, 5, 6, 7, 8, 9, 10, 11, 12, 13, 14, 15, 16, 17, 18, 19, 20, 21, 22, 23, 24, 25, 26, 27, 28], [0, 1, 2, 3, 4, 5, 6, 7, 8, 9, 10, 11, 12, 13, 14, 15, 16, 17, 18, 19, 20, 21, 22, 23, 24, 25, 26, 27, 28, 29], [0, 1, 2, 3, 4, 5, 6, 7, 8, 9, 10, 11, 12, 13, 14, 15, 16, 17, 18, 19, 20, 21, 22, 23, 24, 25, 26, 27, 28, 29, 30], [0, 1, 2, 3, 4, 5, 6, 7, 8, 9, 10, 11, 12, 13, 14, 15, 16, 17, 18, 19, 20, 21, 22, 23, 24, 25, 26, 27, 28, 29, 30], [0, 1, 2, 3, 4, 5, 6, 7, 8, 9, 10, 11, 12, 13, 14, 15, 16, 17, 18, 19, 20, 21, 22, 23, 24, 25, 26, 27, 28, 29, 30, 32], [0, 1, 2, 3, 4, 5, 6, 7, 8, 9, 10, 11, 12, 13, 14, 15, 16, 17, 18, 19, 20, 21, 22, 23, 24, 25, 26, 27, 28, 29, 30, 31, 32, 33], [0, 1, 2, 3, 4, 5, 6, 7, 8, 9, 10, 11, 12, 13, 14, 15, 16, 17, 18, 19, 20, 21, 22, 23, 24, 25, 26, 27, 28, 29, 30, 31, 32, 33, 34], [0, 1, 2, 3, 4, 5, 6, 7, 8, 9, 10, 11, 12, 13, 14, 15, 16, 17, 18, 19, 20, 21, 22, 23, 24, 25, 26, 27, 28, 29, 30], [0, 1, 2, 3, 4, 5, 6, 7, 8, 9, 10, 11, 12, 13, 14, 15, 16, 17, 18, 19, 20, 21, 22, 23, 24, 25, 26, 27, 28, 29, 30, 31, 32, 33, 34, 35, 36], [0, 1, 2, 3, 4, 5, 6, 7, 8, 9, 10, 11, 12, 13, 14, 15, 16, 17, 18, 19, 20, 21, 22, 23, 24, 25, 26, 27, 28, 29, 30, 31, 32, 33, 34, 35, 36, 37], [0, 1, 2, 3, 4, 5, 6, 7, 8, 9, 10, 11, 12, 13, 14, 15, 16, 17, 18, 19, 20, 21, 22, 23, 24, 25, 26, 27, 28, 29, 30, 31, 32, 33, 34, 35, 36, 37, 38], [0, 1, 2, 3, 4, 5, 6, 7, 8, 9, 10, 11, 12, 13, 14, 15, 16, 17, 18, 19, 20, 21, 22, 23, 24, 25, 26, 27, 28, 29, 30, 31, 32, 33, 34, 35, 36, 37, 38, 39]]) (val := [some (.pointer (some (ad q524 (0 + 0)))), some (.int .i64 x522.From), some (.bool x544), some (.bool (!x544)), some (.bool (!x544)), some (.pointer (some (ad q524 (0 + 1)))), some (.int .i64 x522.To), some (.bool x547), some (.bool (!x547)), some (.bool (!x547)), some (.bool (!x547)), some (.pointer (some (ad q524 (0 + 0)))), some (.int .i64 x522.From), some (.pointer (some (ad q524 (0 + 1)))), some (.int .i64 x522.To), some (.bool (decide (x522.From = x522.To))), some (.bool (decide (x522.From = x522.To))), some (.bool (decide (x522.From = x522.To))), some (.pointer (some (ad q524 (0 + 2)))), some (.int .i64 x522.Cost), some (.bool (decide (x522.Cost < 1))), some (.bool (decide (x522.Cost < 1))), some (.bool (decide (x522.Cost < 1))), some (.pointer (some (ad q524 (0 + 2)))), some (.int .i64 x522.Cost), some (.bool (decide (1073741824 < x522.Cost))), some (.bool (decide (1073741824 < x522.Cost))), some (.bool (decide (1073741824 < x522.Cost))), some (.int .i64 y390), some (.bool (decide (0 < y390))), some (.bool (decide (0 < y390))), some u0, some (.int .i64 y390), some (.int .i64 (IntKind.i64.wrap (y390 - 1))), some (.pointer (some (ad (sb u0) (so u0 + (Int.toNat (IntKind.i64.wrap (y390 - 1))) * c_api_Arc.n)))), some (.agg #[(.int .i64 x554.From), (.int .i64 x554.To), (.int .i64 x554.Cost)]), some (.agg #[(.int .i64 x522.From), (.int .i64 x522.To), (.int .i64 x522.Cost)]), some (.int .i64 x556), some (.bool (decide (0 ≤ x556))), some (.bool (decide (0 ≤ x556))), some (.bool (decide (0 ≤ x556)))]) (eff := []) (mask := [[]]) (keys := [[]]) (src := [[.base 4], [.op 0], [.op 1], [.op 2], [.op 3], [.base 4, .op 4], [.op 4, .op 5], [.op 4, .op 6], [.op 4, .op 7], [.op 4, .op 8], [.op 9], [.base 4, .op 10], [.op 10, .op 11], [.base 4, .op 10], [.op 10, .op 13], [.op 10, .op 12, .op 14], [.op 10, .op 15], [.op 16], [.base 4, .op 17], [.op 17, .op 18], [.op 17, .op 19], [.op 17, .op 20], [.op 21], [.base 4, .op 22], [.op 22, .op 23], [.op 22, .op 24], [.op 22, .op 25], [.op 26], [.base 3, .op 27], [.op 27, .op 28], [.op 27, .op 29], [.base 0, .op 30], [.base 3, .op 30], [.op 30, .op 32], [.op 30, .op 31, .op 33], [.op 30, .op 34], [.base 4, .op 30], [.op 30, .op 35, .op 36], [.op 30, .op 37], [.op 27, .op 30, .op 38], [.op 27, .op 39]]) (z := z) (ef := fun p g => ([[]] : List (List (Nat × Value))).getD p []) (hi := fun _ _ => I) (rs := fun p g => ([Bl q524 60 [(.int .i64 x522.From), (.int .i64 x522.To), (.int .i64 x522.Cost)] :: r] : List (List Asn)).getD p []) [(0, 0), (1, 0), (2, 0), (3, 0), (4, 0), (5, 0), (6, 0), (7, 0), (8, 0), (9, 0), (10, 0), (11, 0), (12, 0), (13, 0), (14, 0), (15, 0), (16, 0), (17, 0), (18, 0), (19, 0), (20, 0), (21, 0), (22, 0), (23, 0), (24, 0), (25, 0), (26, 0), (27, 0), (28, 0), (29, 0), (30, 0), (31, 0), (32, 0), (33, 0), (34, 0), (35, 0), (36, 0), (37, 0), (38, 0), (39, 0), (40, 0)] [] [0, 1, 2, 3, 4, 5, 6, 7, 8, 9, 10, 11, 12, 13, 14, 15, 16, 17, 18, 19, 20, 21, 22, 23, 24, 25, 26, 27, 28, 29, 30, 31, 32, 33, 34, 35, 36, 37, 38, 39, 40] 0 mo hE () rfl H (by kernel_rfl) (by kernel_rfl) (fun p g => by cases p <;> rfl) ?_ ?_ (by kernel_rfl) (by kernel_rfl) ?_
                        · exact ⟨by intro a w g hE H; exact Dr.is H rfl (Dr.run rfl (d_fieldAddr fld60_0 hE rfl)),
    by intro a w g hE H; exact Dr.is H rfl (Dr.run rfl (d_load sc3 hE rfl H 0 rfl rfl)),
    by intro a w g hE H; exact (Dr.run rfl (d_call c154 hE rfl (f154_ok x522.From hc545  H))).mono fun v w' hR => by obtain ⟨rfl, H⟩ := hR; exact ⟨rfl, H⟩,
    by intro a w g hE H; exact Dr.is H rfl (Dr.run rfl (d_not hE rfl)),
    by intro a w g hE H; exact Dr.is H rfl (Dr.run rfl (d_move hE rfl)),
    by intro a w g hE H; exact Dr.is H rfl (Dr.rG rfl hE rfl rfl (not_f c546) (d_fieldAddr fld60_1 hE rfl)),
    by intro a w g hE H; exact Dr.is H rfl (Dr.rG rfl hE rfl rfl (not_f c546) (d_load sc3 hE rfl H 0 rfl rfl)),
    by intro a w g hE H; exact (Dr.rG rfl hE rfl rfl (not_f c546) (d_call c154 hE rfl (f154_ok x522.To hc548  H))).mono fun v w' hR => by obtain ⟨rfl, H⟩ := hR; exact ⟨rfl, H⟩,
    by intro a w g hE H; exact Dr.is H rfl (Dr.rG rfl hE rfl rfl (not_f c546) (d_not hE rfl)),
    by intro a w g hE H; exact Dr.is H rfl (Dr.run rfl (d_pF hE rfl (not_f c546) rfl)),
    by intro a w g hE H; exact Dr.is H rfl (Dr.run rfl (d_move hE rfl)),
    by intro a w g hE H; exact Dr.is H rfl (Dr.rG rfl hE rfl rfl (not_f c549) (d_fieldAddr fld60_0 hE rfl)),
    by intro a w g hE H; exact Dr.is H rfl (Dr.rG rfl hE rfl rfl (not_f c549) (d_load sc3 hE rfl H 0 rfl rfl)),
    by intro a w g hE H; exact Dr.is H rfl (Dr.rG rfl hE rfl rfl (not_f c549) (d_fieldAddr fld60_1 hE rfl)),
    by intro a w g hE H; exact Dr.is H rfl (Dr.rG rfl hE rfl rfl (not_f c549) (d_load sc3 hE rfl H 0 rfl rfl)),
    by intro a w g hE H; exact Dr.is H rfl (Dr.rG rfl hE rfl rfl (not_f c549) (d_eql hE rfl rfl)),
    by intro a w g hE H; exact Dr.is H rfl (Dr.run rfl (d_pF hE rfl (not_f c549) rfl)),
    by intro a w g hE H; exact Dr.is H rfl (Dr.run rfl (d_move hE rfl)),
    by intro a w g hE H; exact Dr.is H rfl (Dr.rG rfl hE rfl rfl (decide_eq_false c550) (d_fieldAddr fld60_2 hE rfl)),
    by intro a w g hE H; exact Dr.is H rfl (Dr.rG rfl hE rfl rfl (decide_eq_false c550) (d_load sc3 hE rfl H 0 rfl rfl)),
    by intro a w g hE H; exact Dr.is H rfl (Dr.rG rfl hE rfl rfl (decide_eq_false c550) (d_lss hE rfl rfl)),
    by intro a w g hE H; exact Dr.is H rfl (Dr.run rfl (d_pF hE rfl (decide_eq_false c550) rfl)),
    by intro a w g hE H; exact Dr.is H rfl (Dr.run rfl (d_move hE rfl)),
    by intro a w g hE H; exact Dr.is H rfl (Dr.rG rfl hE rfl rfl (decide_eq_false c551) (d_fieldAddr fld60_2 hE rfl)),
    by intro a w g hE H; exact Dr.is H rfl (Dr.rG rfl hE rfl rfl (decide_eq_false c551) (d_load sc3 hE rfl H 0 rfl rfl)),
    by intro a w g hE H; exact Dr.is H rfl (Dr.rG rfl hE rfl rfl (decide_eq_false c551) (d_gtr hE rfl rfl)),
    by intro a w g hE H; exact Dr.is H rfl (Dr.run rfl (d_pF hE rfl (decide_eq_false c551) rfl)),
    by intro a w g hE H; exact Dr.is H rfl (Dr.run rfl (d_move hE rfl)),
    by intro a w g hE H; exact Dr.is H rfl (Dr.rG rfl hE rfl rfl (decide_eq_false c552) (d_move hE rfl)),
    by intro a w g hE H; exact Dr.is H rfl (Dr.rG rfl hE rfl rfl (decide_eq_false c552) (d_gtr hE rfl rfl)),
    by intro a w g hE H; exact Dr.is H rfl (Dr.rG rfl hE rfl rfl (decide_eq_false c552) (d_move hE rfl)),
    by intro a w g hE H; exact Dr.is H rfl (Dr.rG rfl hE rfl rfl (decide_eq_true c553) (d_move hE rfl)),
    by intro a w g hE H; exact Dr.is H rfl (Dr.rG rfl hE rfl rfl (decide_eq_true c553) (d_move hE rfl)),
    by intro a w g hE H; exact Dr.is H rfl (Dr.rG rfl hE rfl rfl (decide_eq_true c553) (d_sub hE rfl rfl)),
    by intro a w g hE H; exact Dr.is H rfl (Dr.rG rfl hE rfl rfl (decide_eq_true c553) (d_indexS sl55 hE rfl rfl H (Rd.cons hr0) hx555)),
    by intro a w g hE H; exact Dr.is H rfl (Dr.rG rfl hE rfl rfl (decide_eq_true c553) (d_loadSA ag60 rfl hE rfl H (Rd.cons hr0) hx555 (fun _ _ e => e))),
    by intro a w g hE H; exact Dr.is H rfl (Dr.rG rfl hE rfl rfl (decide_eq_true c553) (d_loadA ag60 hE rfl H 0 rfl rfl)),
    by intro a w g hE H; exact (Dr.rG rfl hE rfl rfl (decide_eq_true c553) (d_call c155 hE rfl (f155_ok k x554 x522 hc557  H))).mono fun v w' hR => by obtain ⟨rfl, H⟩ := hR; exact ⟨rfl, H⟩,
    by intro a w g hE H; exact Dr.is H rfl (Dr.rG rfl hE rfl rfl (decide_eq_true c553) (d_geq hE rfl rfl)),
    by intro a w g hE H; exact Dr.is H rfl (Dr.rG rfl hE rfl rfl (decide_eq_false c552) (d_pT hE rfl (decide_eq_true c553) rfl)),
    by intro a w g hE H; exact Dr.is H rfl (Dr.run rfl (d_pF hE rfl (decide_eq_false c552) rfl)),
    trivial⟩
                        · trivial
                        · intro a w g hE H
                          have H : St z I w (Bl q524 60 [(.int .i64 x522.From), (.int .i64 x522.To), (.int .i64 x522.Cost)] :: r) := H
                          cases hm
                          have H := St.del H 0
                          exact ⟨hE.sub ⟨rfl, rfl, rfl, rfl, rfl, trivial⟩, H⟩
                      · rw [if_neg c553] at hm
                        refine Dr.region (γ := Unit) (pre := [[], [0], [0, 1], [0, 1, 2], [0, 1, 2, 3], [0, 1, 2, 3, 4], [0, 1, 2, 3, 4, 5], [0, 1, 2, 3, 4, 5, 6], [0, 1, 2, 3, 4, 5, 6, 7], [0, 1, 2, 3, 4, 5, 6, 7, 8], [0, 1, 2, 3, 4, 5, 6, 7, 8, 9], [0, 1, 2, 3, 4, 5, 6, 7, 8, 9, 10], [0, 1, 2, 3, 4, 5, 6, 7, 8, 9, 10, 11], [0, 1, 2, 3, 4, 5, 6, 7, 8, 9, 10], [0, 1, 2, 3, 4, 5, 6, 7, 8, 9, 10, 13], [0, 1, 2, 3, 4, 5, 6, 7, 8, 9, 10, 11, 12, 13, 14], [0, 1, 2, 3, 4, 5, 6, 7, 8, 9, 10, 11, 12, 13, 14, 15], [0, 1, 2, 3, 4, 5, 6, 7, 8, 9, 10, 11, 12, 13, 14, 15, 16], [0, 1, 2, 3, 4, 5, 6, 7, 8, 9, 10, 11, 12, 13, 14, 15, 16, 17], [0, 1, 2, 3, 4, 5, 6, 7, 8, 9, 10, 11, 12, 13, 14, 15, 16, 17, 18], [0, 1, 2, 3, 4, 5, 6, 7, 8, 9, 10, 11, 12, 13, 14, 15, 16, 17, 18, 19], [0, 1, 2, 3, 4, 5, 6, 7, 8, 9, 10, 11, 12, 13, 14, 15, 16, 17, 18, 19, 20], [0, 1, 2, 3, 4, 5, 6, 7, 8, 9, 10, 11, 12, 13, 14, 15, 16, 17, 18, 19, 20, 21], [0, 1, 2, 3, 4, 5, 6, 7, 8, 9, 10, 11, 12, 13, 14, 15, 16, 17, 18, 19, 20, 21, 22], [0, 1, 2, 3, 4, 5, 6, 7, 8, 9, 10, 11, 12, 13, 14, 15, 16, 17, 18, 19, 20, 21, 22, 23], [0, 1, 2, 3, 4, 5, 6, 7, 8, 9, 10, 11, 12, 13, 14, 15, 16, 17, 18, 19, 20, 21, 22, 23, 24], [0, 1, 2, 3, 4, 5, 6, 7, 8, 9, 10, 11, 12, 13, 14, 15, 16, 17, 18, 19, 20, 21, 22, 23, 24, 25], [0, 1, 2, 3, 4, 5, 6, 7, 8, 9, 10, 11, 12, 13, 14, 15, 16, 17, 18, 19, 20, 21, 22, 23, 24, 25, 26], [0, 1, 2, 3, 4, 5, 6, 7, 8, 9, 10, 11, 12, 13, 14, 15, 16, 17, 18, 19, 20, 21, 22, 23, 24, 25, 26, 27], [0, 1, 2, 3, 4, 5, 6, 7, 8, 9, 10, 11, 12, 13, 14, 15, 16, 17, 18, 19, 20, 21, 22, 23, 24, 25, 26, 27, 28], [0, 1, 2, 3, 4, 5, 6, 7, 8, 9, 10, 11, 12, 13, 14, 15, 16, 17, 18, 19, 20, 21, 22, 23, 24, 25, 26, 27, 28, 29], [0, 1, 2, 3, 4, 5, 6, 7, 8, 9, 10, 11, 12, 13, 14, 15, 16, 17, 18, 19, 20, 21, 22, 23, 24, 25, 26, 27, 28, 29, 30], [0, 1, 2, 3, 4, 5, 6, 7, 8, 9, 10, 11, 12, 13, 14, 15, 16, 17, 18, 19, 20, 21, 22, 23, 24, 25, 26, 27, 28, 29, 30], [0, 1, 2, 3, 4, 5, 6, 7, 8, 9, 10, 11, 12, 13, 14, 15, 16, 17, 18, 19, 20, 21, 22, 23, 24, 25, 26, 27, 28, 29, 30, 32], [0, 1, 2, 3, 4, 5, 6, 7, 8, 9, 10, 11, 12, 13, 14, 15, 16, 17, 18, 19, 20, 21, 22, 23, 24, 25, 26, 27, 28, 29, 30, 31, 32, 33], [0, 1, 2, 3, 4, 5, 6, 7, 8, 9, 10, 11, 12, 13, 14, 15, 16, 17, 18, 19, 20, 21, 22, 23, 24, 25, 26, 27, 28, 29, 30, 31, 32, 33, 34], [0, 1, 2, 3, 4, 5, 6, 7, 8, 9, 10, 11, 12, 13, 14, 15, 16, 17, 18, 19, 20, 21, 22, 23, 24, 25, 26, 27, 28, 29, 30], [0, 1, 2, 3, 4, 5, 6, 7, 8, 9, 10, 11, 12, 13, 14, 15, 16, 17, 18, 19, 20, 21, 22, 23, 24, 25, 26, 27, 28, 29, 30, 31, 32, 33, 34, 35, 36], [0, 1, 2, 3, 4, 5, 6, 7, 8, 9, 10, 11, 12, 13, 14, 15, 16, 17, 18, 19, 20, 21, 22, 23, 24, 25, 26, 27, 28, 29, 30, 31, 32, 33, 34, 35, 36, 37], [0, 1, 2, 3, 4, 5, 6, 7, 8, 9, 10, 11, 12, 13, 14, 15, 16, 17, 18, 19, 20, 21, 22, 23, 24, 25, 26, 27, 28, 29, 30, 31, 32, 33, 34, 35, 36, 37, 38], [0, 1, 2, 3, 4, 5, 6, 7, 8, 9, 10, 11, 12, 13, 14, 15, 16, 17, 18, 19, 20, 21, 22, 23, 24, 25, 26, 27, 28, 29, 30, 31, 32, 33, 34, 35, 36, 37, 38, 39]]) (val := [some (.pointer (some (ad q524 (0 + 0)))), some (.int .i64 x522.From), some (.bool x544), some (.bool (!x544)), some (.bool (!x544)), some (.pointer (some (ad q524 (0 + 1)))), some (.int .i64 x522.To), some (.bool x547), some (.bool (!x547)), some (.bool (!x547)), some (.bool (!x547)), some (.pointer (some (ad q524 (0 + 0)))), some (.int .i64 x522.From), some (.pointer (some (ad q524 (0 + 1)))), some (.int .i64 x522.To), some (.bool (decide (x522.From = x522.To))), some (.bool (decide (x522.From = x522.To))), some (.bool (decide (x522.From = x522.To))), some (.pointer (some (ad q524 (0 + 2)))), some (.int .i64 x522.Cost), some (.bool (decide (x522.Cost < 1))), some (.bool (decide (x522.Cost < 1))), some (.bool (decide (x522.Cost < 1))), some (.pointer (some (ad q524 (0 + 2)))), some (.int .i64 x522.Cost), some (.bool (decide (1073741824 < x522.Cost))), some (.bool (decide (1073741824 < x522.Cost))), some (.bool (decide (1073741824 < x522.Cost))), some (.int .i64 y390), some (.bool (decide (0 < y390))), some (.bool (decide (0 < y390))), some undef, some undef, some undef, some undef, some undef, some undef, some undef, some undef, some (.bool false), some (.bool false)]) (eff := []) (mask := [[]]) (keys := [[]]) (src := [[.base 4], [.op 0], [.op 1], [.op 2], [.op 3], [.base 4, .op 4], [.op 4, .op 5], [.op 4, .op 6], [.op 4, .op 7], [.op 4, .op 8], [.op 9], [.base 4, .op 10], [.op 10, .op 11], [.base 4, .op 10], [.op 10, .op 13], [.op 10, .op 12, .op 14], [.op 10, .op 15], [.op 16], [.base 4, .op 17], [.op 17, .op 18], [.op 17, .op 19], [.op 17, .op 20], [.op 21], [.base 4, .op 22], [.op 22, .op 23], [.op 22, .op 24], [.op 22, .op 25], [.op 26], [.base 3, .op 27], [.op 27, .op 28], [.op 27, .op 29], [.base 0, .op 30], [.base 3, .op 30], [.op 30, .op 32], [.op 30, .op 31, .op 33], [.op 30, .op 34], [.base 4, .op 30], [.op 30, .op 35, .op 36], [.op 30, .op 37], [.op 27, .op 30, .op 38], [.op 27, .op 39]]) (z := z) (ef := fun p g => ([[]] : List (List (Nat × Value))).getD p []) (hi := fun _ _ => I) (rs := fun p g => ([Bl q524 60 [(.int .i64 x522.From), (.int .i64 x522.To), (.int .i64 x522.Cost)] :: r] : List (List Asn)).getD p []) [(0, 0), (1, 0), (2, 0), (3, 0), (4, 0), (5, 0), (6, 0), (7, 0), (8, 0), (9, 0), (10, 0), (11, 0), (12, 0), (13, 0), (14, 0), (15, 0), (16, 0), (17, 0), (18, 0), (19, 0), (20, 0), (21, 0), (22, 0), (23, 0), (24, 0), (25, 0), (26, 0), (27, 0), (28, 0), (29, 0), (30, 0), (31, 0), (32, 0), (33, 0), (34, 0), (35, 0), (36, 0), (37, 0), (38, 0), (39, 0), (40, 0)] [] [0, 1, 2, 3, 4, 5, 6, 7, 8, 9, 10, 11, 12, 13, 14, 15, 16, 17, 18, 19, 20, 21, 22, 23, 24, 25, 26, 27, 28, 29, 30, 31, 32, 33, 34, 35, 36, 37, 38, 39, 40] 0 mo hE () rfl H (by kernel_rfl) (by kernel_rfl) (fun p g => by cases p <;> rfl) ?_ ?_ (by kernel_rfl) (by kernel_rfl) ?_
                        · exact ⟨by intro a w g hE H; exact Dr.is H rfl (Dr.run rfl (d_fieldAddr fld60_0 hE rfl)),
    by intro a w g hE H; exact Dr.is H rfl (Dr.run rfl (d_load sc3 hE rfl H 0 rfl rfl)),
    by intro a w g hE H; exact (Dr.run rfl (d_call c154 hE rfl (f154_ok x522.From hc545  H))).mono fun v w' hR => by obtain ⟨rfl, H⟩ := hR; exact ⟨rfl, H⟩,
    by intro a w g hE H; exact Dr.is H rfl (Dr.run rfl (d_not hE rfl)),
    by intro a w g hE H; exact Dr.is H rfl (Dr.run rfl (d_move hE rfl)),
    by intro a w g hE H; exact Dr.is H rfl (Dr.rG rfl hE rfl rfl (not_f c546) (d_fieldAddr fld60_1 hE rfl)),
    by intro a w g hE H; exact Dr.is H rfl (Dr.rG rfl hE rfl rfl (not_f c546) (d_load sc3 hE rfl H 0 rfl rfl)),
    by intro a w g hE H; exact (Dr.rG rfl hE rfl rfl (not_f c546) (d_call c154 hE rfl (f154_ok x522.To hc548  H))).mono fun v w' hR => by obtain ⟨rfl, H⟩ := hR; exact ⟨rfl, H⟩,
    by intro a w g hE H; exact Dr.is H rfl (Dr.rG rfl hE rfl rfl (not_f c546) (d_not hE rfl)),
    by intro a w g hE H; exact Dr.is H rfl (Dr.run rfl (d_pF hE rfl (not_f c546) rfl)),
    by intro a w g hE H; exact Dr.is H rfl (Dr.run rfl (d_move hE rfl)),
    by intro a w g hE H; exact Dr.is H rfl (Dr.rG rfl hE rfl rfl (not_f c549) (d_fieldAddr fld60_0 hE rfl)),
    by intro a w g hE H; exact Dr.is H rfl (Dr.rG rfl hE rfl rfl (not_f c549) (d_load sc3 hE rfl H 0 rfl rfl)),
    by intro a w g hE H; exact Dr.is H rfl (Dr.rG rfl hE rfl rfl (not_f c549) (d_fieldAddr fld60_1 hE rfl)),
    by intro a w g hE H; exact Dr.is H rfl (Dr.rG rfl hE rfl rfl (not_f c549) (d_load sc3 hE rfl H 0 rfl rfl)),
    by intro a w g hE H; exact Dr.is H rfl (Dr.rG rfl hE rfl rfl (not_f c549) (d_eql hE rfl rfl)),
    by intro a w g hE H; exact Dr.is H rfl (Dr.run rfl (d_pF hE rfl (not_f c549) rfl)),
    by intro a w g hE H; exact Dr.is H rfl (Dr.run rfl (d_move hE rfl)),
    by intro a w g hE H; exact Dr.is H rfl (Dr.rG rfl hE rfl rfl (decide_eq_false c550) (d_fieldAddr fld60_2 hE rfl)),
    by intro a w g hE H; exact Dr.is H rfl (Dr.rG rfl hE rfl rfl (decide_eq_false c550) (d_load sc3 hE rfl H 0 rfl rfl)),
    by intro a w g hE H; exact Dr.is H rfl (Dr.rG rfl hE rfl rfl (decide_eq_false c550) (d_lss hE rfl rfl)),
    by intro a w g hE H; exact Dr.is H rfl (Dr.run rfl (d_pF hE rfl (decide_eq_false c550) rfl)),
    by intro a w g hE H; exact Dr.is H rfl (Dr.run rfl (d_move hE rfl)),
    by intro a w g hE H; exact Dr.is H rfl (Dr.rG rfl hE rfl rfl (decide_eq_false c551) (d_fieldAddr fld60_2 hE rfl)),
    by intro a w g hE H; exact Dr.is H rfl (Dr.rG rfl hE rfl rfl (decide_eq_false c551) (d_load sc3 hE rfl H 0 rfl rfl)),
    by intro a w g hE H; exact Dr.is H rfl (Dr.rG rfl hE rfl rfl (decide_eq_false c551) (d_gtr hE rfl rfl)),
    by intro a w g hE H; exact Dr.is H rfl (Dr.run rfl (d_pF hE rfl (decide_eq_false c551) rfl)),
    by intro a w g hE H; exact Dr.is H rfl (Dr.run rfl (d_move hE rfl)),
    by intro a w g hE H; exact Dr.is H rfl (Dr.rG rfl hE rfl rfl (decide_eq_false c552) (d_move hE rfl)),
    by intro a w g hE H; exact Dr.is H rfl (Dr.rG rfl hE rfl rfl (decide_eq_false c552) (d_gtr hE rfl rfl)),
    by intro a w g hE H; exact Dr.is H rfl (Dr.rG rfl hE rfl rfl (decide_eq_false c552) (d_move hE rfl)),
    by intro a w g hE H; exact Dr.is H rfl (Dr.pG rfl hE rfl rfl (decide_eq_false c553) ⟨rfl, rfl⟩),
    by intro a w g hE H; exact Dr.is H rfl (Dr.pG rfl hE rfl rfl (decide_eq_false c553) ⟨rfl, rfl⟩),
    by intro a w g hE H; exact Dr.is H rfl (Dr.pG rfl hE rfl rfl (decide_eq_false c553) ⟨rfl, rfl⟩),
    by intro a w g hE H; exact Dr.is H rfl (Dr.pG rfl hE rfl rfl (decide_eq_false c553) ⟨rfl, rfl⟩),
    by intro a w g hE H; exact Dr.is H rfl (Dr.pG rfl hE rfl rfl (decide_eq_false c553) ⟨rfl, rfl⟩),
    by intro a w g hE H; exact Dr.is H rfl (Dr.pG rfl hE rfl rfl (decide_eq_false c553) ⟨rfl, rfl⟩),
    by intro a w g hE H; exact Dr.is H rfl (Dr.pG rfl hE rfl rfl (decide_eq_false c553) ⟨rfl, rfl⟩),
    by intro a w g hE H; exact Dr.is H rfl (Dr.pG rfl hE rfl rfl (decide_eq_false c553) ⟨rfl, rfl⟩),
    by intro a w g hE H; exact Dr.is H rfl (Dr.rG rfl hE rfl rfl (decide_eq_false c552) (d_pF hE rfl (decide_eq_false c553) rfl)),
    by intro a w g hE H; exact Dr.is H rfl (Dr.run rfl (d_pF hE rfl (decide_eq_false c552) rfl)),
    trivial⟩
                        · trivial
                        · intro a w g hE H
                          have H : St z I w (Bl q524 60 [(.int .i64 x522.From), (.int .i64 x522.To), (.int .i64 x522.Cost)] :: r) := H
                          cases hm
                          have H := St.del H 0
                          exact ⟨hE.sub ⟨rfl, rfl, rfl, rfl, rfl, trivial⟩, H⟩
              · rw [if_neg c549] at hm
                refine Dr.region (γ := Unit) (pre := [[], [0], [0, 1], [0, 1, 2], [0, 1, 2, 3], [0, 1, 2, 3, 4], [0, 1, 2, 3, 4, 5], [0, 1, 2, 3, 4, 5, 6], [0, 1, 2, 3, 4, 5, 6, 7], [0, 1, 2, 3, 4, 5, 6, 7, 8], [0, 1, 2, 3, 4, 5, 6, 7, 8, 9], [0, 1, 2, 3, 4, 5, 6, 7, 8, 9, 10], [0, 1, 2, 3, 4, 5, 6, 7, 8, 9, 10, 11], [0, 1, 2, 3, 4, 5, 6, 7, 8, 9, 10], [0, 1, 2, 3, 4, 5, 6, 7, 8, 9, 10, 13], [0, 1, 2, 3, 4, 5, 6, 7, 8, 9, 10, 11, 12, 13, 14], [0, 1, 2, 3, 4, 5, 6, 7, 8, 9, 10, 11, 12, 13, 14, 15], [0, 1, 2, 3, 4, 5, 6, 7, 8, 9, 10, 11, 12, 13, 14, 15, 16], [0, 1, 2, 3, 4, 5, 6, 7, 8, 9, 10, 11, 12, 13, 14, 15, 16, 17], [0, 1, 2, 3, 4, 5, 6, 7, 8, 9, 10, 11, 12, 13, 14, 15, 16, 17, 18], [0, 1, 2, 3, 4, 5, 6, 7, 8, 9, 10, 11, 12, 13, 14, 15, 16, 17, 18, 19], [0, 1, 2, 3, 4, 5, 6, 7, 8, 9, 10, 11, 12, 13, 14, 15, 16, 17, 18, 19, 20], [0, 1, 2, 3, 4, 5, 6, 7, 8, 9, 10, 11, 12, 13, 14, 15, 16, 17, 18, 19, 20, 21], [0, 1, 2, 3, 4, 5, 6, 7, 8, 9, 10, 11, 12, 13, 14, 15, 16, 17, 18, 19, 20, 21, 22], [0, 1, 2, 3, 4, 5, 6, 7, 8, 9, 10, 11, 12, 13, 14, 15, 16, 17, 18, 19, 20, 21, 22, 23], [0, 1, 2, 3, 4, 5, 6, 7, 8, 9, 10, 11, 12, 13, 14, 15, 16, 17, 18, 19, 20, 21, 22, 23, 24], [0, 1, 2, 3, 4, 5, 6, 7, 8, 9, 10, 11, 12, 13, 14, 15, 16, 17, 18, 19, 20, 21, 22, 23, 24, 25], [0, 1, 2, 3, 4, 5, 6, 7, 8, 9, 10, 11, 12, 13, 14, 15, 16, 17, 18, 19, 20, 21, 22, 23, 24, 25, 26], [0, 1, 2, 3, 4, 5, 6, 7, 8, 9, 10, 11, 12, 13, 14, 15, 16, 17, 18, 19, 20, 21, 22, 23, 24, 25, 26, 27], [0, 1, 2, 3, 4, 5, 6, 7, 8, 9, 10, 11, 12, 13, 14, 15, 16, 17, 18, 19, 20, 21, 22, 23, 24, 25, 26, 27, 28], [0, 1, 2, 3, 4, 5, 6, 7, 8, 9, 10, 11, 12, 13, 14, 15, 16, 17, 18, 19, 20, 21, 22, 23, 24, 25, 26, 27, 28, 29], [0, 1, 2, 3, 4, 5, 6, 7, 8, 9, 10, 11, 12, 13, 14, 15, 16, 17, 18, 19, 20, 21, 22, 23, 24, 25, 26, 27, 28, 29, 30], [0, 1, 2, 3, 4, 5, 6, 7, 8, 9, 10, 11, 12, 13, 14, 15, 16, 17, 18, 19, 20, 21, 22, 23, 24, 25, 26, 27, 28, 29, 30], [0, 1, 2, 3, 4, 5, 6, 7, 8, 9, 10, 11, 12, 13, 14, 15, 16, 17, 18, 19, 20, 21, 22, 23, 24, 25, 26, 27, 28, 29, 30, 32], [0, 1, 2, 3, 4, 5, 6, 7, 8, 9, 10, 11, 12, 13, 14, 15, 16, 17, 18, 19, 20, 21, 22, 23, 24, 25, 26, 27, 28, 29, 30, 31, 32, 33], [0, 1, 2, 3, 4, 5, 6, 7, 8, 9, 10, 11, 12, 13, 14, 15, 16, 17, 18, 19, 20, 21, 22, 23, 24, 25, 26, 27, 28, 29, 30, 31, 32, 33, 34], [0, 1, 2, 3, 4, 5, 6, 7, 8, 9, 10, 11, 12, 13, 14, 15, 16, 17, 18, 19, 20, 21, 22, 23, 24, 25, 26, 27, 28, 29, 30], [0, 1, 2, 3, 4, 5, 6, 7, 8, 9, 10, 11, 12, 13, 14, 15, 16, 17, 18, 19, 20, 21, 22, 23, 24, 25, 26, 27, 28, 29, 30, 31, 32, 33, 34, 35, 36], [0, 1, 2, 3, 4, 5, 6, 7, 8, 9, 10, 11, 12, 13, 14, 15, 16, 17, 18, 19, 20, 21, 22, 23, 24, 25, 26, 27, 28, 29, 30, 31, 32, 33, 34, 35, 36, 37], [0, 1, 2, 3, 4, 5, 6, 7, 8, 9, 10, 11, 12, 13, 14, 15, 16, 17, 18, 19, 20, 21, 22, 23, 24, 25, 26, 27, 28, 29, 30, 31, 32, 33, 34, 35, 36, 37, 38], [0, 1, 2, 3, 4, 5, 6, 7, 8, 9, 10, 11, 12, 13, 14, 15, 16, 17, 18, 19, 20, 21, 22, 23, 24, 25, 26, 27, 28, 29, 30, 31, 32, 33, 34, 35, 36, 37, 38, 39]]) (val := [some (.pointer (some (ad q524 (0 + 0)))), some (.int .i64 x522.From), some (.bool x544), some (.bool (!x544)), some (.bool (!x544)), some (.pointer (some (ad q524 (0 + 1)))), some (.int .i64 x522.To), some (.bool x547), some (.bool (!x547)), some (.bool (!x547)), some (.bool (!x547)), some undef, some undef, some undef, some undef, some undef, some (.bool true), some (.bool true), some undef, some undef, some undef, some (.bool true), some (.bool true), some undef, some undef, some undef, some (.bool true), some (.bool true), some undef, some undef, some undef, some undef, some undef, some undef, some undef, some undef, some undef, some undef, some undef, some undef, some (.bool true)]) (eff := []) (mask := [[]]) (keys := [[]]) (src := [[.base 4], [.op 0], [.op 1], [.op 2], [.op 3], [.base 4, .op 4], [.op 4, .op 5], [.op 4, .op 6], [.op 4, .op 7], [.op 4, .op 8], [.op 9], [.base 4, .op 10], [.op 10, .op 11], [.base 4, .op 10], [.op 10, .op 13], [.op 10, .op 12, .op 14], [.op 10, .op 15], [.op 16], [.base 4, .op 17], [.op 17, .op 18], [.op 17, .op 19], [.op 17, .op 20], [.op 21], [.base 4, .op 22], [.op 22, .op 23], [.op 22, .op 24], [.op 22, .op 25], [.op 26], [.base 3, .op 27], [.op 27, .op 28], [.op 27, .op 29], [.base 0, .op 30], [.base 3, .op 30], [.op 30, .op 32], [.op 30, .op 31, .op 33], [.op 30, .op 34], [.base 4, .op 30], [.op 30, .op 35, .op 36], [.op 30, .op 37], [.op 27, .op 30, .op 38], [.op 27, .op 39]]) (z := z) (ef := fun p g => ([[]] : List (List (Nat × Value))).getD p []) (hi := fun _ _ => I) (rs := fun p g => ([Bl q524 60 [(.int .i64 x522.From), (.int .i64 x522.To), (.int .i64 x522.Cost)] :: r] : List (List Asn)).getD p []) [(0, 0), (1, 0), (2, 0), (3, 0), (4, 0), (5, 0), (6, 0), (7, 0), (8, 0), (9, 0), (10, 0), (11, 0), (12, 0), (13, 0), (14, 0), (15, 0), (16, 0), (17, 0), (18, 0), (19, 0), (20, 0), (21, 0), (22, 0), (23, 0), (24, 0), (25, 0), (26, 0), (27, 0), (28, 0), (29, 0), (30, 0), (31, 0), (32, 0), (33, 0), (34, 0), (35, 0), (36, 0), (37, 0), (38, 0), (39, 0), (40, 0)] [] [0, 1, 2, 3, 4, 5, 6, 7, 8, 9, 10, 11, 12, 13, 14, 15, 16, 17, 18, 19, 20, 21, 22, 23, 24, 25, 26, 27, 28, 29, 30, 31, 32, 33, 34, 35, 36, 37, 38, 39, 40] 0 mo hE () rfl H (by kernel_rfl) (by kernel_rfl) (fun p g => by cases p <;> rfl) ?_ ?_ (by kernel_rfl) (by kernel_rfl) ?_
                · exact ⟨by intro a w g hE H; exact Dr.is H rfl (Dr.run rfl (d_fieldAddr fld60_0 hE rfl)),
    by intro a w g hE H; exact Dr.is H rfl (Dr.run rfl (d_load sc3 hE rfl H 0 rfl rfl)),
    by intro a w g hE H; exact (Dr.run rfl (d_call c154 hE rfl (f154_ok x522.From hc545  H))).mono fun v w' hR => by obtain ⟨rfl, H⟩ := hR; exact ⟨rfl, H⟩,
    by intro a w g hE H; exact Dr.is H rfl (Dr.run rfl (d_not hE rfl)),
    by intro a w g hE H; exact Dr.is H rfl (Dr.run rfl (d_move hE rfl)),
    by intro a w g hE H; exact Dr.is H rfl (Dr.rG rfl hE rfl rfl (not_f c546) (d_fieldAddr fld60_1 hE rfl)),
    by intro a w g hE H; exact Dr.is H rfl (Dr.rG rfl hE rfl rfl (not_f c546) (d_load sc3 hE rfl H 0 rfl rfl)),
    by intro a w g hE H; exact (Dr.rG rfl hE rfl rfl (not_f c546) (d_call c154 hE rfl (f154_ok x522.To hc548  H))).mono fun v w' hR => by obtain ⟨rfl, H⟩ := hR; exact ⟨rfl, H⟩,
    by intro a w g hE H; exact Dr.is H rfl (Dr.rG rfl hE rfl rfl (not_f c546) (d_not hE rfl)),
    by intro a w g hE H; exact Dr.is H rfl (Dr.run rfl (d_pF hE rfl (not_f c546) rfl)),
    by intro a w g hE H; exact Dr.is H rfl (Dr.run rfl (d_move hE rfl)),
    by intro a w g hE H; exact Dr.is H rfl (Dr.pG rfl hE rfl rfl (not_t (b_f c549)) ⟨rfl, rfl⟩),
    by intro a w g hE H; exact Dr.is H rfl (Dr.pG rfl hE rfl rfl (not_t (b_f c549)) ⟨rfl, rfl⟩),
    by intro a w g hE H; exact Dr.is H rfl (Dr.pG rfl hE rfl rfl (not_t (b_f c549)) ⟨rfl, rfl⟩),
    by intro a w g hE H; exact Dr.is H rfl (Dr.pG rfl hE rfl rfl (not_t (b_f c549)) ⟨rfl, rfl⟩),
    by intro a w g hE H; exact Dr.is H rfl (Dr.pG rfl hE rfl rfl (not_t (b_f c549)) ⟨rfl, rfl⟩),
    by intro a w g hE H; exact Dr.is H rfl (Dr.run rfl (d_pT hE rfl (not_t (b_f c549)) rfl)),
    by intro a w g hE H; exact Dr.is H rfl (Dr.run rfl (d_move hE rfl)),
    by intro a w g hE H; exact Dr.is H rfl (Dr.pG rfl hE rfl rfl rfl ⟨rfl, rfl⟩),
    by intro a w g hE H; exact Dr.is H rfl (Dr.pG rfl hE rfl rfl rfl ⟨rfl, rfl⟩),
    by intro a w g hE H; exact Dr.is H rfl (Dr.pG rfl hE rfl rfl rfl ⟨rfl, rfl⟩),
    by intro a w g hE H; exact Dr.is H rfl (Dr.run rfl (d_pT hE rfl rfl rfl)),
    by intro a w g hE H; exact Dr.is H rfl (Dr.run rfl (d_move hE rfl)),
    by intro a w g hE H; exact Dr.is H rfl (Dr.pG rfl hE rfl rfl rfl ⟨rfl, rfl⟩),
    by intro a w g hE H; exact Dr.is H rfl (Dr.pG rfl hE rfl rfl rfl ⟨rfl, rfl⟩),
    by intro a w g hE H; exact Dr.is H rfl (Dr.pG rfl hE rfl rfl rfl ⟨rfl, rfl⟩),
    by intro a w g hE H; exact Dr.is H rfl (Dr.run rfl (d_pT hE rfl rfl rfl)),
    by intro a w g hE H; exact Dr.is H rfl (Dr.run rfl (d_move hE rfl)),
    by intro a w g hE H; exact Dr.is H rfl (Dr.pG rfl hE rfl rfl rfl ⟨rfl, rfl⟩),
    by intro a w g hE H; exact Dr.is H rfl (Dr.pG rfl hE rfl rfl rfl ⟨rfl, rfl⟩),
    by intro a w g hE H; exact Dr.is H rfl (Dr.pG rfl hE rfl rfl rfl ⟨rfl, rfl⟩),
    by intro a w g hE H; exact Dr.is H rfl (Dr.passU rfl hE rfl rfl ⟨rfl, rfl⟩),
    by intro a w g hE H; exact Dr.is H rfl (Dr.passU rfl hE rfl rfl ⟨rfl, rfl⟩),
    by intro a w g hE H; exact Dr.is H rfl (Dr.passU rfl hE rfl rfl ⟨rfl, rfl⟩),
    by intro a w g hE H; exact Dr.is H rfl (Dr.passU rfl hE rfl rfl ⟨rfl, rfl⟩),
    by intro a w g hE H; exact Dr.is H rfl (Dr.passU rfl hE rfl rfl ⟨rfl, rfl⟩),
    by intro a w g hE H; exact Dr.is H rfl (Dr.passU rfl hE rfl rfl ⟨rfl, rfl⟩),
    by intro a w g hE H; exact Dr.is H rfl (Dr.passU rfl hE rfl rfl ⟨rfl, rfl⟩),
    by intro a w g hE H; exact Dr.is H rfl (Dr.passU rfl hE rfl rfl ⟨rfl, rfl⟩),
    by intro a w g hE H; exact Dr.is H rfl (Dr.pG rfl hE rfl rfl rfl ⟨rfl, rfl⟩),
    by intro a w g hE H; exact Dr.is H rfl (Dr.run rfl (d_pT hE rfl rfl rfl)),
    trivial⟩
                · trivial
                · intro a w g hE H
                  have H : St z I w (Bl q524 60 [(.int .i64 x522.From), (.int .i64 x522.To), (.int .i64 x522.Cost)] :: r) := H
                  cases hm
                  have H := St.del H 0
                  exact ⟨hE.sub ⟨rfl, rfl, rfl, rfl, rfl, trivial⟩, H⟩
            · rw [if_neg c546] at hm
              refine Dr.region (γ := Unit) (pre := [[], [0], [0, 1], [0, 1, 2], [0, 1, 2, 3], [0, 1, 2, 3, 4], [0, 1, 2, 3, 4, 5], [0, 1, 2, 3, 4, 5, 6], [0, 1, 2, 3, 4, 5, 6, 7], [0, 1, 2, 3, 4, 5, 6, 7, 8], [0, 1, 2, 3, 4, 5, 6, 7, 8, 9], [0, 1, 2, 3, 4, 5, 6, 7, 8, 9, 10], [0, 1, 2, 3, 4, 5, 6, 7, 8, 9, 10, 11], [0, 1, 2, 3, 4, 5, 6, 7, 8, 9, 10], [0, 1, 2, 3, 4, 5, 6, 7, 8, 9, 10, 13], [0, 1, 2, 3, 4, 5, 6, 7, 8, 9, 10, 11, 12, 13, 14], [0, 1, 2, 3, 4, 5, 6, 7, 8, 9, 10, 11, 12, 13, 14, 15], [0, 1, 2, 3, 4, 5, 6, 7, 8, 9, 10, 11, 12, 13, 14, 15, 16], [0, 1, 2, 3, 4, 5, 6, 7, 8, 9, 10, 11, 12, 13, 14, 15, 16, 17], [0, 1, 2, 3, 4, 5, 6, 7, 8, 9, 10, 11, 12, 13, 14, 15, 16, 17, 18], [0, 1, 2, 3, 4, 5, 6, 7, 8, 9, 10, 11, 12, 13, 14, 15, 16, 17, 18, 19], [0, 1, 2, 3, 4, 5, 6, 7, 8, 9, 10, 11, 12, 13, 14, 15, 16, 17, 18, 19, 20], [0, 1, 2, 3, 4, 5, 6, 7, 8, 9, 10, 11, 12, 13, 14, 15, 16, 17, 18, 19, 20, 21], [0, 1, 2, 3, 4, 5, 6, 7, 8, 9, 10, 11, 12, 13, 14, 15, 16, 17, 18, 19, 20, 21, 22], [0, 1, 2, 3, 4, 5, 6, 7, 8, 9, 10, 11, 12, 13, 14, 15, 16, 17, 18, 19, 20, 21, 22, 23], [0, 1, 2, 3, 4, 5, 6, 7, 8, 9, 10, 11, 12, 13, 14, 15, 16, 17, 18, 19, 20, 21, 22, 23, 24], [0, 1, 2, 3, 4, 5, 6, 7, 8, 9, 10, 11, 12, 13, 14, 15, 16, 17, 18, 19, 20, 21, 22, 23, 24, 25], [0, 1, 2, 3, 4, 5, 6, 7, 8, 9, 10, 11, 12, 13, 14, 15, 16, 17, 18, 19, 20, 21, 22, 23, 24, 25, 26], [0, 1, 2, 3, 4, 5, 6, 7, 8, 9, 10, 11, 12, 13, 14, 15, 16, 17, 18, 19, 20, 21, 22, 23, 24, 25, 26, 27], [0, 1, 2, 3, 4, 5, 6, 7, 8, 9, 10, 11, 12, 13, 14, 15, 16, 17, 18, 19, 20, 21, 22, 23, 24, 25, 26, 27, 28], [0, 1, 2, 3, 4, 5, 6, 7, 8, 9, 10, 11, 12, 13, 14, 15, 16, 17, 18, 19, 20, 21, 22, 23, 24, 25, 26, 27, 28, 29], [0, 1, 2, 3, 4, 5, 6, 7, 8, 9, 10, 11, 12, 13, 14, 15, 16, 17, 18, 19, 20, 21, 22, 23, 24, 25, 26, 27, 28, 29, 30], [0, 1, 2, 3, 4, 5, 6, 7, 8, 9, 10, 11, 12, 13, 14, 15, 16, 17, 18, 19, 20, 21, 22, 23, 24, 25, 26, 27, 28, 29, 30], [0, 1, 2, 3, 4, 5, 6, 7, 8, 9, 10, 11, 12, 13, 14, 15, 16, 17, 18, 19, 20, 21, 22, 23, 24, 25, 26, 27, 28, 29, 30, 32], [0, 1, 2, 3, 4, 5, 6, 7, 8, 9, 10, 11, 12, 13, 14, 15, 16, 17, 18, 19, 20, 21, 22, 23, 24, 25, 26, 27, 28, 29, 30, 31, 32, 33], [0, 1, 2, 3, 4, 5, 6, 7, 8, 9, 10, 11, 12, 13, 14, 15, 16, 17, 18, 19, 20, 21, 22, 23, 24, 25, 26, 27, 28, 29, 30, 31, 32, 33, 34], [0, 1, 2, 3, 4, 5, 6, 7, 8, 9, 10, 11, 12, 13, 14, 15, 16, 17, 18, 19, 20, 21, 22, 23, 24, 25, 26, 27, 28, 29, 30], [0, 1, 2, 3, 4, 5, 6, 7, 8, 9, 10, 11, 12, 13, 14, 15, 16, 17, 18, 19, 20, 21, 22, 23, 24, 25, 26, 27, 28, 29, 30, 31, 32, 33, 34, 35, 36], [0, 1, 2, 3, 4, 5, 6, 7, 8, 9, 10, 11, 12, 13, 14, 15, 16, 17, 18, 19, 20, 21, 22, 23, 24, 25, 26, 27, 28, 29, 30, 31, 32, 33, 34, 35, 36, 37], [0, 1, 2, 3, 4, 5, 6, 7, 8, 9, 10, 11, 12, 13, 14, 15, 16, 17, 18, 19, 20, 21, 22, 23, 24, 25, 26, 27, 28, 29, 30, 31, 32, 33, 34, 35, 36, 37, 38], [0, 1, 2, 3, 4, 5, 6, 7, 8, 9, 10, 11, 12, 13, 14, 15, 16, 17, 18, 19, 20, 21, 22, 23, 24, 25, 26, 27, 28, 29, 30, 31, 32, 33, 34, 35, 36, 37, 38, 39]]) (val := [some (.pointer (some (ad q524 (0 + 0)))), some (.int .i64 x522.From), some (.bool x544), some (.bool (!x544)), some (.bool (!x544)), some undef, some undef, some undef, some undef, some (.bool true), some (.bool true), some undef, some undef, some undef, some undef, some undef, some (.bool true), some (.bool true), some undef, some undef, some undef, some (.bool true), some (.bool true), some undef, some undef, some undef, some (.bool true), some (.bool true), some undef, some undef, some undef, some undef, some undef, some undef, some undef, some undef, some undef, some undef, some undef, some undef, some (.bool true)]) (eff := []) (mask := [[]]) (keys := [[]]) (src := [[.base 4], [.op 0], [.op 1], [.op 2], [.op 3], [.base 4, .op 4], [.op 4, .op 5], [.op 4, .op 6], [.op 4, .op 7], [.op 4, .op 8], [.op 9], [.base 4, .op 10], [.op 10, .op 11], [.base 4, .op 10], [.op 10, .op 13], [.op 10, .op 12, .op 14], [.op 10, .op 15], [.op 16], [.base 4, .op 17], [.op 17, .op 18], [.op 17, .op 19], [.op 17, .op 20], [.op 21], [.base 4, .op 22], [.op 22, .op 23], [.op 22, .op 24], [.op 22, .op 25], [.op 26], [.base 3, .op 27], [.op 27, .op 28], [.op 27, .op 29], [.base 0, .op 30], [.base 3, .op 30], [.op 30, .op 32], [.op 30, .op 31, .op 33], [.op 30, .op 34], [.base 4, .op 30], [.op 30, .op 35, .op 36], [.op 30, .op 37], [.op 27, .op 30, .op 38], [.op 27, .op 39]]) (z := z) (ef := fun p g => ([[]] : List (List (Nat × Value))).getD p []) (hi := fun _ _ => I) (rs := fun p g => ([Bl q524 60 [(.int .i64 x522.From), (.int .i64 x522.To), (.int .i64 x522.Cost)] :: r] : List (List Asn)).getD p []) [(0, 0), (1, 0), (2, 0), (3, 0), (4, 0), (5, 0), (6, 0), (7, 0), (8, 0), (9, 0), (10, 0), (11, 0), (12, 0), (13, 0), (14, 0), (15, 0), (16, 0), (17, 0), (18, 0), (19, 0), (20, 0), (21, 0), (22, 0), (23, 0), (24, 0), (25, 0), (26, 0), (27, 0), (28, 0), (29, 0), (30, 0), (31, 0), (32, 0), (33, 0), (34, 0), (35, 0), (36, 0), (37, 0), (38, 0), (39, 0), (40, 0)] [] [0, 1, 2, 3, 4, 5, 6, 7, 8, 9, 10, 11, 12, 13, 14, 15, 16, 17, 18, 19, 20, 21, 22, 23, 24, 25, 26, 27, 28, 29, 30, 31, 32, 33, 34, 35, 36, 37, 38, 39, 40] 0 mo hE () rfl H (by kernel_rfl) (by kernel_rfl) (fun p g => by cases p <;> rfl) ?_ ?_ (by kernel_rfl) (by kernel_rfl) ?_
              · exact ⟨by intro a w g hE H; exact Dr.is H rfl (Dr.run rfl (d_fieldAddr fld60_0 hE rfl)),
    by intro a w g hE H; exact Dr.is H rfl (Dr.run rfl (d_load sc3 hE rfl H 0 rfl rfl)),
    by intro a w g hE H; exact (Dr.run rfl (d_call c154 hE rfl (f154_ok x522.From hc545  H))).mono fun v w' hR => by obtain ⟨rfl, H⟩ := hR; exact ⟨rfl, H⟩,
    by intro a w g hE H; exact Dr.is H rfl (Dr.run rfl (d_not hE rfl)),
    by intro a w g hE H; exact Dr.is H rfl (Dr.run rfl (d_move hE rfl)),
    by intro a w g hE H; exact Dr.is H rfl (Dr.pG rfl hE rfl rfl (not_t (b_f c546)) ⟨rfl, rfl⟩),
    by intro a w g hE H; exact Dr.is H rfl (Dr.pG rfl hE rfl rfl (not_t (b_f c546)) ⟨rfl, rfl⟩),
    by intro a w g hE H; exact Dr.is H rfl (Dr.pG rfl hE rfl rfl (not_t (b_f c546)) ⟨rfl, rfl⟩),
    by intro a w g hE H; exact Dr.is H rfl (Dr.pG rfl hE rfl rfl (not_t (b_f c546)) ⟨rfl, rfl⟩),
    by intro a w g hE H; exact Dr.is H rfl (Dr.run rfl (d_pT hE rfl (not_t (b_f c546)) rfl)),
    by intro a w g hE H; exact Dr.is H rfl (Dr.run rfl (d_move hE rfl)),
    by intro a w g hE H; exact Dr.is H rfl (Dr.pG rfl hE rfl rfl rfl ⟨rfl, rfl⟩),
    by intro a w g hE H; exact Dr.is H rfl (Dr.pG rfl hE rfl rfl rfl ⟨rfl, rfl⟩),
    by intro a w g hE H; exact Dr.is H rfl (Dr.pG rfl hE rfl rfl rfl ⟨rfl, rfl⟩),
    by intro a w g hE H; exact Dr.is H rfl (Dr.pG rfl hE rfl rfl rfl ⟨rfl, rfl⟩),
    by intro a w g hE H; exact Dr.is H rfl (Dr.pG rfl hE rfl rfl rfl ⟨rfl, rfl⟩),
    by intro a w g hE H; exact Dr.is H rfl (Dr.run rfl (d_pT hE rfl rfl rfl)),
    by intro a w g hE H; exact Dr.is H rfl (Dr.run rfl (d_move hE rfl)),
    by intro a w g hE H; exact Dr.is H rfl (Dr.pG rfl hE rfl rfl rfl ⟨rfl, rfl⟩),
    by intro a w g hE H; exact Dr.is H rfl (Dr.pG rfl hE rfl rfl rfl ⟨rfl, rfl⟩),
    by intro a w g hE H; exact Dr.is H rfl (Dr.pG rfl hE rfl rfl rfl ⟨rfl, rfl⟩),
    by intro a w g hE H; exact Dr.is H rfl (Dr.run rfl (d_pT hE rfl rfl rfl)),
    by intro a w g hE H; exact Dr.is H rfl (Dr.run rfl (d_move hE rfl)),
    by intro a w g hE H; exact Dr.is H rfl (Dr.pG rfl hE rfl rfl rfl ⟨rfl, rfl⟩),
    by intro a w g hE H; exact Dr.is H rfl (Dr.pG rfl hE rfl rfl rfl ⟨rfl, rfl⟩),
    by intro a w g hE H; exact Dr.is H rfl (Dr.pG rfl hE rfl rfl rfl ⟨rfl, rfl⟩),
    by intro a w g hE H; exact Dr.is H rfl (Dr.run rfl (d_pT hE rfl rfl rfl)),
    by intro a w g hE H; exact Dr.is H rfl (Dr.run rfl (d_move hE rfl)),
    by intro a w g hE H; exact Dr.is H rfl (Dr.pG rfl hE rfl rfl rfl ⟨rfl, rfl⟩),
    by intro a w g hE H; exact Dr.is H rfl (Dr.pG rfl hE rfl rfl rfl ⟨rfl, rfl⟩),
    by intro a w g hE H; exact Dr.is H rfl (Dr.pG rfl hE rfl rfl rfl ⟨rfl, rfl⟩),
    by intro a w g hE H; exact Dr.is H rfl (Dr.passU rfl hE rfl rfl ⟨rfl, rfl⟩),
    by intro a w g hE H; exact Dr.is H rfl (Dr.passU rfl hE rfl rfl ⟨rfl, rfl⟩),
    by intro a w g hE H; exact Dr.is H rfl (Dr.passU rfl hE rfl rfl ⟨rfl, rfl⟩),
    by intro a w g hE H; exact Dr.is H rfl (Dr.passU rfl hE rfl rfl ⟨rfl, rfl⟩),
    by intro a w g hE H; exact Dr.is H rfl (Dr.passU rfl hE rfl rfl ⟨rfl, rfl⟩),
    by intro a w g hE H; exact Dr.is H rfl (Dr.passU rfl hE rfl rfl ⟨rfl, rfl⟩),
    by intro a w g hE H; exact Dr.is H rfl (Dr.passU rfl hE rfl rfl ⟨rfl, rfl⟩),
    by intro a w g hE H; exact Dr.is H rfl (Dr.passU rfl hE rfl rfl ⟨rfl, rfl⟩),
    by intro a w g hE H; exact Dr.is H rfl (Dr.pG rfl hE rfl rfl rfl ⟨rfl, rfl⟩),
    by intro a w g hE H; exact Dr.is H rfl (Dr.run rfl (d_pT hE rfl rfl rfl)),
    trivial⟩
              · trivial
              · intro a w g hE H
                have H : St z I w (Bl q524 60 [(.int .i64 x522.From), (.int .i64 x522.To), (.int .i64 x522.Cost)] :: r) := H
                cases hm
                have H := St.del H 0
                exact ⟨hE.sub ⟨rfl, rfl, rfl, rfl, rfl, trivial⟩, H⟩
          · rintro a w ⟨hE, H⟩
            by_cases c559 : s543 = true
            · rw [if_pos c559] at hm
              refine cT hE rfl c559 ?_
              refine wp_seq ?_
              refine wp_region_lit ?_
              refine s1 hE rfl (d_assign hE rfl) fun a hE => ?_
              refine wpList_nil ?_
              refine wp_ret ?_
              cases hm
              have hm := hq475
              simp only [Out.on] at hm
              cases hm
              exact ret1 rfl hE rfl ⟨_, rfl, rfl, H⟩
            · rw [if_neg c559] at hm
              refine cF hE rfl (b_f c559) ?_
              refine wp_skip ?_
              refine wp_region_lit ?_
              refine s1 hE rfl (d_add hE rfl rfl) fun a hE => ?_
              refine s1 hE rfl (d_move hE rfl) fun a hE => ?_
              refine wpList_nil ?_
              exact ⟨k, Nat.lt_succ_self k, IntKind.i64.wrap (y390 + 1), hm, hE.sub ⟨rfl, rfl, rfl, rfl, trivial⟩, H⟩
        · rw [if_neg c477] at hm
          refine cF hE rfl (decide_eq_false c477) ?_
          refine wp_exit ?_
          cases hm
          exact ⟨_, rfl, hE.sub trivial, H⟩
    · exact ⟨0, hj475, hE.sub ⟨rfl, rfl, rfl, rfl, trivial⟩, H⟩
  · rintro a w ⟨s475, rfl, hE, H⟩
    have hm := hq475
    simp only [Out.on] at hm
    refine wp_seq ?_
    refine wp_region_lit ?_
    refine s1 hE rfl (d_assign hE rfl) fun a hE => ?_
    refine wpList_nil ?_
    refine wp_ret ?_
    cases hm
    exact ret1 rfl hE rfl ⟨_, rfl, rfl, H⟩
def m86_l0 (a0 : List S_api_Arc) : Nat → (List (Int × Bool)) → Int → Option (List (Int × Bool))
  | 0, _, _ => none
  | k + 1, mp203, y204 => if y204 < (a0.length : Int) then (Option.bind (rdx a0 y204) fun x256 => Option.bind (some (mput mp203 x256.From true)) fun mp263 => Option.bind (some (mput mp263 x256.To true)) fun mp265 => m86_l0 a0 k mp265 (IntKind.i64.wrap (y204 + 1))) else (some mp203)
def m86 (k : Nat) (a0 : List S_api_Arc) : Option (List Int) := Option.bind (m98 k a0) fun x167 => if x167 = 0 then (Option.bind (m86_l0 a0 k [] 0) fun s236 => Option.bind (skeys s236) fun l272 => some l272) else (some [])
set_option maxRecDepth 20000 in
set_option maxHeartbeats 4000000 in
theorem f86_ok (k : Nat) {u0 : Value} (a0 : List S_api_Arc) {res : (List Int)} (hm : m86 k a0 = some res) {z w : World} {I : Hp} {r : List Asn} (hr0 : Rd c_api_Arc I r u0 a0) (hz : z.drawn = 0) (H : St z I w (r)) :
    Calls Try.prog 86 #[u0] w (Rt fun v w' => ∃ v163 : Value, v = v163 ∧ St z I w' (OwnSl (cInt .i64) v163 res :: r)) := by
  unfold m86 at hm
  refine enter (args := [u0]) Try.func86 rfl Try.ntmps86 rfl fun a hE => ?_
  refine wp_seq ?_
  refine wp_region_lit ?_
  refine s1 hE rfl (d_assign hE rfl) fun a hE => ?_
  refine wpList_nil ?_
  refine wp_seq ?_
  refine wp_seq ?_
  refine wp_region_lit ?_
  refine s1 hE rfl (d_move hE rfl) fun a hE => ?_
  obtain ⟨x167, hc168, hm⟩ := bnd hm
  refine s2 hE rfl (d_call c98 hE rfl (f98_ok k a0 hc168 hr0 H)) fun a v w hR hE => ?_
  obtain ⟨hv_, H⟩ := hR
  have hv_ := hv_.symm
  subst hv_
  refine s1 hE rfl (d_neq hE rfl rfl) fun a hE => ?_
  refine wpList_nil ?_
  by_cases c170 : x167 = 0
  · rw [if_pos c170] at hm
    refine cF hE rfl (not_f (decide_eq_true c170)) ?_
    refine wp_skip ?_
    refine wp_seq ?_
    refine wp_region_lit ?_
    refine s2 hE rfl (d_makeMap (c := cBool) (g := false) H) fun a v w hR hE => ?_
    obtain ⟨q172, rfl, H⟩ := hR
    refine s1 hE rfl (d_assign hE rfl) fun a hE => ?_
    refine wpList_nil ?_
    refine wp_seq ?_
    refine wp_seq ?_
    refine wp_region_lit ?_
    refine s1 hE rfl (d_move hE rfl) fun a hE => ?_
    refine s1 hE rfl (d_lenS Try.underlying55 hE rfl H (Rd.cons hr0)) fun a hE => ?_
    refine s1 hE rfl (d_move hE rfl) fun a hE => ?_
    refine wpList_nil ?_
    obtain ⟨s236, hj236, hm⟩ := bnd hm
    refine cut2 (fun a w => Env a 26 [(3, (.map (some q172)))] ∧ St z I w (MapR cBool false q172 s236 :: r)) ?_ ?_
    · refine wp_block ?_
      refine loopI (fun k a w => ∃ mp203 : List (Int × Bool), ∃ y204 : Int, m86_l0 a0 k mp203 y204 = some s236 ∧ Env a 26 [(3, (.map (some q172))), (10, u0), (11, (.int .i64 (a0.length : Int))), (12, (.int .i64 y204))] ∧ St z I w (MapR cBool false q172 mp203 :: r)) ?_ k _ _ ?_
      · rintro k a w ⟨mp203, y204, hm, hE, H⟩
        cases k with
        | zero => rw [m86_l0] at hm; cases hm
        | succ k =>
          rw [m86_l0] at hm
          refine wp_seq ?_
          refine wp_region_lit ?_
          refine s1 hE rfl (d_lss hE rfl rfl) fun a hE => ?_
          refine wpList_nil ?_
          refine wp_seq ?_
          by_cases c238 : y204 < (a0.length : Int)
          · rw [if_pos c238] at hm
            refine cT hE rfl (decide_eq_true c238) ?_
            refine wp_skip ?_
            refine wp_seq ?_
            refine wp_block ?_
            refine wp_seq ?_
            refine wp_region_lit ?_
            obtain ⟨x256, hx257, hm⟩ := bnd hm
            refine s1 hE rfl (d_indexS sl55 hE rfl rfl H (Rd.cons hr0) hx257) fun a hE => ?_
            refine s1 hE rfl (d_loadSA ag60 rfl hE rfl H (Rd.cons hr0) hx257 (fun _ _ e => e)) fun a hE => ?_
            refine s2 hE rfl (d_alloc al60 H) fun a v w hR hE => ?_
            obtain ⟨q258, rfl, H⟩ := hR
            refine s3 (d_store sz60 hE rfl rfl rfl (oneAll rfl) H rfl) fun v w hR => ?_
            have H : St z I w (Bl q258 60 [(.int .i64 x256.From), (.int .i64 x256.To), (.int .i64 x256.Cost)] :: MapR cBool false q172 mp203 :: r) := hR
            refine wpList_nil ?_
            obtain ⟨mp263, hl264, hm⟩ := bnd hm
            obtain ⟨mp265, hl266, hm⟩ := bnd hm
            refine Dr.region (γ := Unit) (pre := [[], [], [1], [], [], [4], [0, 1, 2], [0, 1, 2, 3, 4, 5, 6]]) (val := [some (.map (some q172)), some (.pointer (some (ad q258 (0 + 0)))), some (.int .i64 x256.From), some (.map (some q172)), some (.pointer (some (ad q258 (0 + 1)))), some (.int .i64 x256.To), none, none]) (eff := [6, 7]) (mask := [[], [6], [6, 7]]) (keys := [[], [], []]) (src := [[.base 3], [.base 5], [.op 1], [.base 3], [.base 5], [.op 4], [.op 0, .op 2], [.op 3, .op 5]]) (z := z) (ef := fun p g => ([[], [], []] : List (List (Nat × Value))).getD p []) (hi := fun _ _ => I) (rs := fun p g => ([Bl q258 60 [(.int .i64 x256.From), (.int .i64 x256.To), (.int .i64 x256.Cost)] :: MapR cBool false q172 mp203 :: r, MapR cBool false q172 mp263 :: Bl q258 60 [(.int .i64 x256.From), (.int .i64 x256.To), (.int .i64 x256.Cost)] :: r, MapR cBool false q172 mp265 :: Bl q258 60 [(.int .i64 x256.From), (.int .i64 x256.To), (.int .i64 x256.Cost)] :: r] : List (List Asn)).getD p []) [(0, 0), (1, 0), (2, 0), (3, 0), (4, 0), (5, 0), (3, 1), (4, 1), (5, 1)] [(0, 6, 1), (1, 7, 2)] [0, 1, 2, 3, 4, 5] 2 mo hE () rfl H (by kernel_rfl) (by kernel_rfl) (fun p g => by rcases p with _ | _ | _ | p <;> rfl) ?_ ?_ (by kernel_rfl) (by kernel_rfl) ?_
            · exact ⟨by intro a w g hE H; exact Dr.is H rfl (Dr.run rfl (d_move hE rfl)),
    by intro a w g hE H; exact Dr.is H rfl (Dr.run rfl (d_fieldAddr fld60_0 hE rfl)),
    by intro a w g hE H; exact Dr.is H rfl (Dr.run rfl (d_load sc3 hE rfl H 0 rfl rfl)),
    by intro a w g hE H; exact Dr.is H rfl (Dr.run rfl (d_move hE rfl)),
    by intro a w g hE H; exact Dr.is H rfl (Dr.run rfl (d_fieldAddr fld60_1 hE rfl)),
    by intro a w g hE H; exact Dr.is H rfl (Dr.run rfl (d_load sc3 hE rfl H 0 rfl rfl)),
    by intro a w g hE H; exact Dr.is H rfl (Dr.run rfl (d_move hE rfl)),
    by intro a w g hE H; exact Dr.is H rfl (Dr.run rfl (d_fieldAddr fld60_1 hE rfl)),
    by intro a w g hE H; exact Dr.is H rfl (Dr.run rfl (d_load sc3 hE rfl H 1 rfl rfl)),
    trivial⟩
            · exact ⟨by intro a w g hE hF H; have H := St.get H 1 rfl; refine (Dr.run rfl (b_mapUpdate (c := cBool) (g := false) (cs := [(.bool true)]) (xv := true) Try.underlying158 Try.underlying3 hE rfl rfl rfl rfl (fun _ _ _ _ => by rfl) hl264 H)).mono fun v w hR => ?_; have H : St z I w (MapR cBool false q172 mp263 :: Bl q258 60 [(.int .i64 x256.From), (.int .i64 x256.To), (.int .i64 x256.Cost)] :: r) := hR; exact ⟨(), H, Dr.lkSub trivial⟩,
    by intro a w g hE hF H; refine (Dr.run rfl (b_mapUpdate (c := cBool) (g := false) (cs := [(.bool true)]) (xv := true) Try.underlying158 Try.underlying3 hE rfl rfl rfl rfl (fun _ _ _ _ => by rfl) hl266 H)).mono fun v w hR => ?_; have H : St z I w (MapR cBool false q172 mp265 :: Bl q258 60 [(.int .i64 x256.From), (.int .i64 x256.To), (.int .i64 x256.Cost)] :: r) := hR; exact ⟨(), H, Dr.lkSub trivial⟩,
    trivial⟩
            · intro a w g hE H
              have H : St z I w (MapR cBool false q172 mp265 :: Bl q258 60 [(.int .i64 x256.From), (.int .i64 x256.To), (.int .i64 x256.Cost)] :: r) := H
              refine wp_region_lit ?_
              refine s1 hE rfl (d_add hE rfl rfl) fun a hE => ?_
              refine s1 hE rfl (d_move hE rfl) fun a hE => ?_
              refine wpList_nil ?_
              have H := St.del H 1
              exact ⟨k, Nat.lt_succ_self k, mp265, IntKind.i64.wrap (y204 + 1), hm, hE.sub ⟨rfl, rfl, rfl, rfl, trivial⟩, H⟩
          · rw [if_neg c238] at hm
            refine cF hE rfl (decide_eq_false c238) ?_
            refine wp_exit ?_
            cases hm
            exact ⟨hE.sub ⟨rfl, trivial⟩, H⟩
      · exact ⟨[], 0, hj236, hE.sub ⟨rfl, rfl, rfl, rfl, trivial⟩, H⟩
    · rintro a w ⟨hE, H⟩
      refine wp_seq ?_
      refine wp_region_lit ?_
      refine s1 hE rfl (d_move hE rfl) fun a hE => ?_
      refine s2 hE rfl (d_call c104 hE rfl (k104 H)) fun a v w hR hE => ?_
      obtain ⟨q271, rfl, H⟩ := hR
      obtain ⟨l272, hl273, hm⟩ := bnd hm
      refine s2 hE rfl (d_call c75 hE rfl (s75_158 hl273 hz H 0 rfl 1 rfl)) fun a v w hR hE => ?_
      obtain ⟨v274, rfl⟩ : ∃ x, x = v := ⟨v, rfl⟩
      have H : St z I w (OwnSl (cInt .i64) v274 l272 :: Bl q271 158 [(.map (some q172))] :: MapR cBool false q172 s236 :: r) := hR
      refine s1 hE rfl (d_assign hE rfl) fun a hE => ?_
      refine wpList_nil ?_
      refine wp_ret ?_
      cases hm
      have H := St.del H 1
      have H := St.del H 1
      exact ret1 rfl hE rfl ⟨_, rfl, v274, rfl, H⟩
  · rw [if_neg c170] at hm
    refine cT hE rfl (not_t (decide_eq_false c170)) ?_
    refine wp_seq ?_
    refine wp_region_lit ?_
    refine s1 hE rfl (d_assign hE rfl) fun a hE => ?_
    refine wpList_nil ?_
    refine wp_ret ?_
    cases hm
    have H := St.nil (c := (cInt .i64)) H none
    exact ret1 rfl hE rfl ⟨_, rfl, (.slice none 0 0), rfl, H⟩
def m149_l0 (a0 : List Int) (a1 : Int) : Nat → Int → Option (Out Int Unit)
  | 0, _ => none
  | k + 1, y110 => if y110 < (a0.length : Int) then (Option.bind (rdx a0 y110) fun x136 => if a1 = x136 then (some (.ret y110)) else (m149_l0 a0 a1 k (IntKind.i64.wrap (y110 + 1)))) else (some (.go ()))
def m149 (k : Nat) (a0 : List Int) (a1 : Int) : Option Int := Option.bind (m149_l0 a0 a1 k 0) fun s125 => s125.on (fun q_ => some q_) fun s125 => some (-1)
set_option maxRecDepth 20000 in
set_option maxHeartbeats 4000000 in
theorem f149_ok (k : Nat) {u0 : Value} (a0 : List Int) (a1 : Int) {res : Int} (hm : m149 k a0 a1 = some res) {z w : World} {I : Hp} {r : List Asn} (hr0 : Rd (cInt .i64) I r u0 a0) (H : St z I w (r)) :
    Calls Try.prog 149 #[u0, (.int .i64 a1)] w (Rt fun v w' => v = (.int .i64 res) ∧ St z I w' (r)) := by
  unfold m149 at hm
  refine enter (args := [u0, (.int .i64 a1)]) Try.func149 rfl Try.ntmps149 rfl fun a hE => ?_
  refine wp_seq ?_
  refine wp_region_lit ?_
  refine s1 hE rfl (d_assign hE rfl) fun a hE => ?_
  refine wpList_nil ?_
  refine wp_seq ?_
  refine wp_seq ?_
  refine wp_region_lit ?_
  refine s1 hE rfl (d_move hE rfl) fun a hE => ?_
  refine s1 hE rfl (d_lenS Try.underlying51 hE rfl H hr0) fun a hE => ?_
  refine s1 hE rfl (d_move hE rfl) fun a hE => ?_
  refine wpList_nil ?_
  obtain ⟨s125, hj125, hq125⟩ := bnd hm
  refine cut2 (fun a w => ∃ s_ : Unit, s125 = .go s_ ∧ Env a 19 [] ∧ St z I w (r)) ?_ ?_
  · refine wp_block ?_
    refine loopI (fun k a w => ∃ y110 : Int, m149_l0 a0 a1 k y110 = some s125 ∧ Env a 19 [(0, u0), (1, (.int .i64 a1)), (7, (.int .i64 (a0.length : Int))), (8, (.int .i64 y110))] ∧ St z I w (r)) ?_ k _ _ ?_
    · rintro k a w ⟨y110, hm, hE, H⟩
      cases k with
      | zero => rw [m149_l0] at hm; cases hm
      | succ k =>
        rw [m149_l0] at hm
        refine wp_seq ?_
        refine wp_region_lit ?_
        refine s1 hE rfl (d_lss hE rfl rfl) fun a hE => ?_
        refine wpList_nil ?_
        refine wp_seq ?_
        by_cases c127 : y110 < (a0.length : Int)
        · rw [if_pos c127] at hm
          refine cT hE rfl (decide_eq_true c127) ?_
          refine wp_skip ?_
          refine wp_seq ?_
          refine wp_block ?_
          refine wp_seq ?_
          refine wp_region_lit ?_
          refine s1 hE rfl (d_move hE rfl) fun a hE => ?_
          refine s1 hE rfl (d_assign hE rfl) fun a hE => ?_
          refine wpList_nil ?_
          refine wp_seq ?_
          refine wp_region_lit ?_
          refine s1 hE rfl (d_move hE rfl) fun a hE => ?_
          refine s1 hE rfl (d_move hE rfl) fun a hE => ?_
          refine s1 hE rfl (d_move hE rfl) fun a hE => ?_
          obtain ⟨x136, hx137, hm⟩ := bnd hm
          refine s1 hE rfl (d_indexS sl51 hE rfl rfl H hr0 hx137) fun a hE => ?_
          refine s1 hE rfl (d_loadS1 sc3 hE rfl H hr0 hx137 (fun _ _ e => e)) fun a hE => ?_
          refine s1 hE rfl (d_eql hE rfl rfl) fun a hE => ?_
          refine wpList_nil ?_
          by_cases c139 : a1 = x136
          · rw [if_pos c139] at hm
            refine cT hE rfl (decide_eq_true c139) ?_
            refine wp_seq ?_
            refine wp_region_lit ?_
            refine s1 hE rfl (d_move hE rfl) fun a hE => ?_
            refine s1 hE rfl (d_assign hE rfl) fun a hE => ?_
            refine wpList_nil ?_
            refine wp_ret ?_
            cases hm
            have hm := hq125
            simp only [Out.on] at hm
            cases hm
            exact ret1 rfl hE rfl ⟨_, rfl, rfl, H⟩
          · rw [if_neg c139] at hm
            refine cF hE rfl (decide_eq_false c139) ?_
            refine wp_skip ?_
            refine wp_region_lit ?_
            refine s1 hE rfl (d_add hE rfl rfl) fun a hE => ?_
            refine s1 hE rfl (d_move hE rfl) fun a hE => ?_
            refine wpList_nil ?_
            exact ⟨k, Nat.lt_succ_self k, IntKind.i64.wrap (y110 + 1), hm, hE.sub ⟨rfl, rfl, rfl, rfl, trivial⟩, H⟩
        · rw [if_neg c127] at hm
          refine cF hE rfl (decide_eq_false c127) ?_
          refine wp_exit ?_
          cases hm
          exact ⟨_, rfl, hE.sub trivial, H⟩
    · exact ⟨0, hj125, hE.sub ⟨rfl, rfl, rfl, rfl, trivial⟩, H⟩
  · rintro a w ⟨s125, rfl, hE, H⟩
    have hm := hq125
    simp only [Out.on] at hm
    refine wp_seq ?_
    refine wp_region_lit ?_
    refine s1 hE rfl (d_assign hE rfl) fun a hE => ?_
    refine wpList_nil ?_
    refine wp_ret ?_
    cases hm
    exact ret1 rfl hE rfl ⟨_, rfl, rfl, H⟩
def m91 (k : Nat) (a0 : List Int) (a1 : Int) : Option Bool := Option.bind (m149 k a0 a1) fun x58 => some (decide (0 ≤ x58))
set_option maxRecDepth 20000 in
set_option maxHeartbeats 4000000 in
theorem f91_ok (k : Nat) {u0 : Value} (a0 : List Int) (a1 : Int) {res : Bool} (hm : m91 k a0 a1 = some res) {z w : World} {I : Hp} {r : List Asn} (hr0 : Rd (cInt .i64) I r u0 a0) (H : St z I w (r)) :
    Calls Try.prog 91 #[u0, (.int .i64 a1)] w (Rt fun v w' => v = (.bool res) ∧ St z I w' (r)) := by
  unfold m91 at hm
  refine enter (args := [u0, (.int .i64 a1)]) Try.func91 rfl Try.ntmps91 rfl fun a hE => ?_
  refine wp_seq ?_
  refine wp_region_lit ?_
  refine s1 hE rfl (d_assign hE rfl) fun a hE => ?_
  refine wpList_nil ?_
  refine wp_seq ?_
  refine wp_region_lit ?_
  refine s1 hE rfl (d_move hE rfl) fun a hE => ?_
  refine s1 hE rfl (d_move hE rfl) fun a hE => ?_
  obtain ⟨x58, hc59, hm⟩ := bnd hm
  refine s2 hE rfl (d_call c149 hE rfl (f149_ok k a0 a1 hc59 hr0 H)) fun a v w hR hE => ?_
  obtain ⟨hv_, H⟩ := hR
  have hv_ := hv_.symm
  subst hv_
  refine s1 hE rfl (d_geq hE rfl rfl) fun a hE => ?_
  refine s1 hE rfl (d_assign hE rfl) fun a hE => ?_
  refine wpList_nil ?_
  refine wp_ret ?_
  cases hm
  exact ret1 rfl hE rfl ⟨_, rfl, rfl, H⟩
def m30_l0 (a0 : List Int) (a1 : Int) : Nat → Int → Option (Out Bool Unit)
  | 0, _ => none
  | k + 1, y110 => if y110 < (a0.length : Int) then (Option.bind (rdx a0 y110) fun x136 => if x136 = a1 then (some (.ret true)) else (m30_l0 a0 a1 k (IntKind.i64.wrap (y110 + 1)))) else (some (.go ()))
def m30 (k : Nat) (a0 : List Int) (a1 : Int) : Option Bool := Option.bind (m30_l0 a0 a1 k 0) fun s125 => s125.on (fun q_ => some q_) fun s125 => some false
set_option maxRecDepth 20000 in
set_option maxHeartbeats 4000000 in
theorem f30_ok (k : Nat) {u0 : Value} (a0 : List Int) (a1 : Int) {res : Bool} (hm : m30 k a0 a1 = some res) {z w : World} {I : Hp} {r : List Asn} (hr0 : Rd (cInt .i64) I r u0 a0) (H : St z I w (r)) :
    Calls Try.prog 30 #[u0, (.int .i64 a1)] w (Rt fun v w' => v = (.bool res) ∧ St z I w' (r)) := by
  unfold m30 at hm
  refine enter (args := [u0, (.int .i64 a1)]) Try.func30 rfl Try.ntmps30 rfl fun a hE => ?_
  refine wp_seq ?_
  refine wp_region_lit ?_
  refine s1 hE rfl (d_assign hE rfl) fun a hE => ?_
  refine wpList_nil ?_
  refine wp_seq ?_
  refine wp_seq ?_
  refine wp_region_lit ?_
  refine s1 hE rfl (d_assign hE rfl) fun a hE => ?_
  refine wpList_nil ?_
  obtain ⟨s125, hj125, hq125⟩ := bnd hm
  refine cut2 (fun a w => ∃ s_ : Unit, s125 = .go s_ ∧ Env a 18 [] ∧ St z I w (r)) ?_ ?_
  · refine wp_block ?_
    refine loopI (fun k a w => ∃ y110 : Int, m30_l0 a0 a1 k y110 = some s125 ∧ Env a 18 [(0, u0), (1, (.int .i64 a1)), (5, (.int .i64 y110))] ∧ St z I w (r)) ?_ k _ _ ?_
    · rintro k a w ⟨y110, hm, hE, H⟩
      cases k with
      | zero => rw [m30_l0] at hm; cases hm
      | succ k =>
        rw [m30_l0] at hm
        refine wp_seq ?_
        refine wp_seq ?_
        refine wp_region_lit ?_
        refine s1 hE rfl (d_move hE rfl) fun a hE => ?_
        refine s1 hE rfl (d_move hE rfl) fun a hE => ?_
        refine s1 hE rfl (d_lenS Try.underlying51 hE rfl H hr0) fun a hE => ?_
        refine s1 hE rfl (d_lss hE rfl rfl) fun a hE => ?_
        refine wpList_nil ?_
        by_cases c127 : y110 < (a0.length : Int)
        · rw [if_pos c127] at hm
          refine cT hE rfl (decide_eq_true c127) ?_
          refine wp_skip ?_
          refine wp_seq ?_
          refine wp_block ?_
          refine wp_seq ?_
          refine wp_region_lit ?_
          refine s1 hE rfl (d_move hE rfl) fun a hE => ?_
          refine s1 hE rfl (d_move hE rfl) fun a hE => ?_
          obtain ⟨x136, hx137, hm⟩ := bnd hm
          refine s1 hE rfl (d_indexS sl51 hE rfl rfl H hr0 hx137) fun a hE => ?_
          refine s1 hE rfl (d_loadS1 sc3 hE rfl H hr0 hx137 (fun _ _ e => e)) fun a hE => ?_
          refine s1 hE rfl (d_move hE rfl) fun a hE => ?_
          refine s1 hE rfl (d_eql hE rfl rfl) fun a hE => ?_
          refine wpList_nil ?_
          by_cases c139 : x136 = a1
          · rw [if_pos c139] at hm
            refine cT hE rfl (decide_eq_true c139) ?_
            refine wp_seq ?_
            refine wp_region_lit ?_
            refine s1 hE rfl (d_assign hE rfl) fun a hE => ?_
            refine wpList_nil ?_
            refine wp_ret ?_
            cases hm
            have hm := hq125
            simp only [Out.on] at hm
            cases hm
            exact ret1 rfl hE rfl ⟨_, rfl, rfl, H⟩
          · rw [if_neg c139] at hm
            refine cF hE rfl (decide_eq_false c139) ?_
            refine wp_skip ?_
            refine wp_region_lit ?_
            refine s1 hE rfl (d_move hE rfl) fun a hE => ?_
            refine s1 hE rfl (d_add hE rfl rfl) fun a hE => ?_
            refine s1 hE rfl (d_assign hE rfl) fun a hE => ?_
            refine wpList_nil ?_
            exact ⟨k, Nat.lt_succ_self k, IntKind.i64.wrap (y110 + 1), hm, hE.sub ⟨rfl, rfl, rfl, trivial⟩, H⟩
        · rw [if_neg c127] at hm
          refine cF hE rfl (decide_eq_false c127) ?_
          refine wp_exit ?_
          cases hm
          exact ⟨_, rfl, hE.sub trivial, H⟩
    · exact ⟨0, hj125, hE.sub ⟨rfl, rfl, rfl, trivial⟩, H⟩
  · rintro a w ⟨s125, rfl, hE, H⟩
    have hm := hq125
    simp only [Out.on] at hm
    refine wp_seq ?_
    refine wp_region_lit ?_
    refine s1 hE rfl (d_assign hE rfl) fun a hE => ?_
    refine wpList_nil ?_
    refine wp_ret ?_
    cases hm
    exact ret1 rfl hE rfl ⟨_, rfl, rfl, H⟩
def m29_l0 (a0 : List S_api_Arc) : Nat → Int → Option (Out Bool Unit)
  | 0, _ => none
  | k + 1, y430 => if y430 < (a0.length : Int) then (Option.bind (rdx a0 y430) fun x577 => Option.bind (α := Bool) (if x577.From < 1 then (some true) else (if 64 < x577.From then (some true) else (if x577.To < 1 then (some true) else (if 64 < x577.To then (some true) else (if x577.From = x577.To then (some true) else (if x577.Cost < 1 then (some true) else (some (decide (1073741824 < x577.Cost))))))))) fun s587 => if s587 = true then (some (.ret false)) else (Option.bind (α := Bool) (if 0 < y430 then (Option.bind (rdx a0 (IntKind.i64.wrap (y430 - 1))) fun x610 => if x577.From < x610.From then (some true) else (Option.bind (rdx a0 (IntKind.i64.wrap (y430 - 1))) fun x613 => if x613.From = x577.From then (Option.bind (rdx a0 (IntKind.i64.wrap (y430 - 1))) fun x616 => some (decide (x577.To ≤ x616.To))) else (some false))) else (some false)) fun s608 => if s608 = true then (some (.ret false)) else (m29_l0 a0 k (IntKind.i64.wrap (y430 + 1))))) else (some (.go ()))
def m29 (k : Nat) (a0 : List S_api_Arc) : Option Bool := Option.bind (m29_l0 a0 k 0) fun s525 => s525.on (fun q_ => some q_) fun s525 => some true
set_option maxRecDepth 20000 in
set_option maxHeartbeats 4000000 in
theorem f29_ok (k : Nat) {u0 : Value} (a0 : List S_api_Arc) {res : Bool} (hm : m29 k a0 = some res) {z w : World} {I : Hp} {r : List Asn} (hr0 : Rd c_api_Arc I r u0 a0) (H : St z I w (r)) :
    Calls Try.prog 29 #[u0] w (Rt fun v w' => v = (.bool res) ∧ St z I w' (r)) := by
  unfold m29 at hm
  refine enter (args := [u0]) Try.func29 rfl Try.ntmps29 rfl fun a hE => ?_
  refine wp_seq ?_
  refine wp_region_lit ?_
  refine s1 hE rfl (d_assign hE rfl) fun a hE => ?_
  refine wpList_nil ?_
  refine wp_seq ?_
  refine wp_seq ?_
  refine wp_region_lit ?_
  refine s1 hE rfl (d_assign hE rfl) fun a hE => ?_
  refine wpList_nil ?_
  obtain ⟨s525, hj525, hq525⟩ := bnd hm
  refine cut2 (fun a w => ∃ s_ : Unit, s525 = .go s_ ∧ Env a 85 [] ∧ St z I w (r)) ?_ ?_
  · refine wp_block ?_
    refine loopI (fun k a w => ∃ y430 : Int, m29_l0 a0 k y430 = some s525 ∧ Env a 85 [(0, u0), (3, (.int .i64 y430))] ∧ St z I w (r)) ?_ k _ _ ?_
    · rintro k a w ⟨y430, hm, hE, H⟩
      cases k with
      | zero => rw [m29_l0] at hm; cases hm
      | succ k =>
        rw [m29_l0] at hm
        refine wp_seq ?_
        refine wp_seq ?_
        refine wp_region_lit ?_
        refine s1 hE rfl (d_move hE rfl) fun a hE => ?_
        refine s1 hE rfl (d_move hE rfl) fun a hE => ?_
        refine s1 hE rfl (d_lenS Try.underlying55 hE rfl H hr0) fun a hE => ?_
        refine s1 hE rfl (d_lss hE rfl rfl) fun a hE => ?_
        refine wpList_nil ?_
        by_cases c527 : y430 < (a0.length : Int)
        · rw [if_pos c527] at hm
          refine cT hE rfl (decide_eq_true c527) ?_
          refine wp_skip ?_
          refine wp_seq ?_
          refine wp_block ?_
          refine wp_seq ?_
          refine wp_region_lit ?_
          refine s1 hE rfl (d_move hE rfl) fun a hE => ?_
          refine s1 hE rfl (d_move hE rfl) fun a hE => ?_
          obtain ⟨x577, hx578, hm⟩ := bnd hm
          refine s1 hE rfl (d_indexS sl55 hE rfl rfl H hr0 hx578) fun a hE => ?_
          refine s1 hE rfl (d_loadSA ag60 rfl hE rfl H hr0 hx578 (fun _ _ e => e)) fun a hE => ?_
          refine s2 hE rfl (d_alloc al60 H) fun a v w hR hE => ?_
          obtain ⟨q579, rfl, H⟩ := hR
          refine s3 (d_store sz60 hE rfl rfl rfl (oneAll rfl) H rfl) fun v w hR => ?_
          have H : St z I w (Bl q579 60 [(.int .i64 x577.From), (.int .i64 x577.To), (.int .i64 x577.Cost)] :: r) := hR
          refine wpList_nil ?_
          refine wp_seq ?_
          refine wp_seq ?_
          obtain ⟨s587, hj587, hm⟩ := bnd hm
          refine cut2 (fun a w => Env a 85 [(0, u0), (3, (.int .i64 y430)), (4, (.pointer (some (ad q579 0)))), (49, (.bool s587))] ∧ St z I w (Bl q579 60 [(.int .i64 x577.From), (.int .i64 x577.To), (.int .i64 x577.Cost)] :: r)) ?_ ?_
          · have hm := hj587
            refine wp_region_lit ?_
            refine s1 hE rfl (d_fieldAddr fld60_0 hE rfl) fun a hE => ?_
            refine s1 hE rfl (d_load sc3 hE rfl H 0 rfl rfl) fun a hE => ?_
            refine s1 hE rfl (d_lss hE rfl rfl) fun a hE => ?_
            refine s1 hE rfl (d_move hE rfl) fun a hE => ?_
            by_cases c588 : x577.From < 1
            · rw [if_pos c588] at hm
              refine gP hE rfl rfl rfl (decide_eq_true c588) fun a hE => ?_
              refine gP hE rfl rfl rfl (decide_eq_true c588) fun a hE => ?_
              refine gP hE rfl rfl rfl (decide_eq_true c588) fun a hE => ?_
              refine s1 hE rfl (d_pT hE rfl (decide_eq_true c588) rfl) fun a hE => ?_
              refine s1 hE rfl (d_move hE rfl) fun a hE => ?_
              refine gP hE rfl rfl rfl rfl fun a hE => ?_
              refine gP hE rfl rfl rfl rfl fun a hE => ?_
              refine gP hE rfl rfl rfl rfl fun a hE => ?_
              refine s1 hE rfl (d_pT hE rfl rfl rfl) fun a hE => ?_
              refine s1 hE rfl (d_move hE rfl) fun a hE => ?_
              refine gP hE rfl rfl rfl rfl fun a hE => ?_
              refine gP hE rfl rfl rfl rfl fun a hE => ?_
              refine gP hE rfl rfl rfl rfl fun a hE => ?_
              refine s1 hE rfl (d_pT hE rfl rfl rfl) fun a hE => ?_
              refine s1 hE rfl (d_move hE rfl) fun a hE => ?_
              refine gP hE rfl rfl rfl rfl fun a hE => ?_
              refine gP hE rfl rfl rfl rfl fun a hE => ?_
              refine gP hE rfl rfl rfl rfl fun a hE => ?_
              refine gP hE rfl rfl rfl rfl fun a hE => ?_
              refine gP hE rfl rfl rfl rfl fun a hE => ?_
              refine s1 hE rfl (d_pT hE rfl rfl rfl) fun a hE => ?_
              refine s1 hE rfl (d_move hE rfl) fun a hE => ?_
              refine gP hE rfl rfl rfl rfl fun a hE => ?_
              refine gP hE rfl rfl rfl rfl fun a hE => ?_
              refine gP hE rfl rfl rfl rfl fun a hE => ?_
              refine s1 hE rfl (d_pT hE rfl rfl rfl) fun a hE => ?_
              refine s1 hE rfl (d_move hE rfl) fun a hE => ?_
              refine gP hE rfl rfl rfl rfl fun a hE => ?_
              refine gP hE rfl rfl rfl rfl fun a hE => ?_
              refine gP hE rfl rfl rfl rfl fun a hE => ?_
              refine s1 hE rfl (d_pT hE rfl rfl rfl) fun a hE => ?_
              refine wpList_nil ?_
              cases hm
              exact ⟨hE.sub ⟨rfl, rfl, rfl, rfl, trivial⟩, H⟩
            · rw [if_neg c588] at hm
              refine gR hE rfl rfl (decide_eq_false c588) ?_
              refine s1 hE rfl (d_fieldAddr fld60_0 hE rfl) fun a hE => ?_
              refine gR hE rfl rfl (decide_eq_false c588) ?_
              refine s1 hE rfl (d_load sc3 hE rfl H 0 rfl rfl) fun a hE => ?_
              refine gR hE rfl rfl (decide_eq_false c588) ?_
              refine s1 hE rfl (d_gtr hE rfl rfl) fun a hE => ?_
              refine s1 hE rfl (d_pF hE rfl (decide_eq_false c588) rfl) fun a hE => ?_
              refine s1 hE rfl (d_move hE rfl) fun a hE => ?_
              by_cases c589 : 64 < x577.From
              · rw [if_pos c589] at hm
                refine gP hE rfl rfl rfl (decide_eq_true c589) fun a hE => ?_
                refine gP hE rfl rfl rfl (decide_eq_true c589) fun a hE => ?_
                refine gP hE rfl rfl rfl (decide_eq_true c589) fun a hE => ?_
                refine s1 hE rfl (d_pT hE rfl (decide_eq_true c589) rfl) fun a hE => ?_
                refine s1 hE rfl (d_move hE rfl) fun a hE => ?_
                refine gP hE rfl rfl rfl rfl fun a hE => ?_
                refine gP hE rfl rfl rfl rfl fun a hE => ?_
                refine gP hE rfl rfl rfl rfl fun a hE => ?_
                refine s1 hE rfl (d_pT hE rfl rfl rfl) fun a hE => ?_
                refine s1 hE rfl (d_move hE rfl) fun a hE => ?_
                refine gP hE rfl rfl rfl rfl fun a hE => ?_
                refine gP hE rfl rfl rfl rfl fun a hE => ?_
                refine gP hE rfl rfl rfl rfl fun a hE => ?_
                refine gP hE rfl rfl rfl rfl fun a hE => ?_
                refine gP hE rfl rfl rfl rfl fun a hE => ?_
                refine s1 hE rfl (d_pT hE rfl rfl rfl) fun a hE => ?_
                refine s1 hE rfl (d_move hE rfl) fun a hE => ?_
                refine gP hE rfl rfl rfl rfl fun a hE => ?_
                refine gP hE rfl rfl rfl rfl fun a hE => ?_
                refine gP hE rfl rfl rfl rfl fun a hE => ?_
                refine s1 hE rfl (d_pT hE rfl rfl rfl) fun a hE => ?_
                refine s1 hE rfl (d_move hE rfl) fun a hE => ?_
                refine gP hE rfl rfl rfl rfl fun a hE => ?_
                refine gP hE rfl rfl rfl rfl fun a hE => ?_
                refine gP hE rfl rfl rfl rfl fun a hE => ?_
                refine s1 hE rfl (d_pT hE rfl rfl rfl) fun a hE => ?_
                refine wpList_nil ?_
                cases hm
                exact ⟨hE.sub ⟨rfl, rfl, rfl, rfl, trivial⟩, H⟩
              · rw [if_neg c589] at hm
                refine gR hE rfl rfl (decide_eq_false c589) ?_
                refine s1 hE rfl (d_fieldAddr fld60_1 hE rfl) fun a hE => ?_
                refine gR hE rfl rfl (decide_eq_false c589) ?_
                refine s1 hE rfl (d_load sc3 hE rfl H 0 rfl rfl) fun a hE => ?_
                refine gR hE rfl rfl (decide_eq_false c589) ?_
                refine s1 hE rfl (d_lss hE rfl rfl) fun a hE => ?_
                refine s1 hE rfl (d_pF hE rfl (decide_eq_false c589) rfl) fun a hE => ?_
                refine s1 hE rfl (d_move hE rfl) fun a hE => ?_
                by_cases c590 : x577.To < 1
                · rw [if_pos c590] at hm
                  refine gP hE rfl rfl rfl (decide_eq_true c590) fun a hE => ?_
                  refine gP hE rfl rfl rfl (decide_eq_true c590) fun a hE => ?_
                  refine gP hE rfl rfl rfl (decide_eq_true c590) fun a hE => ?_
                  refine s1 hE rfl (d_pT hE rfl (decide_eq_true c590) rfl) fun a hE => ?_
                  refine s1 hE rfl (d_move hE rfl) fun a hE => ?_
                  refine gP hE rfl rfl rfl rfl fun a hE => ?_
                  refine gP hE rfl rfl rfl rfl fun a hE => ?_
                  refine gP hE rfl rfl rfl rfl fun a hE => ?_
                  refine gP hE rfl rfl rfl rfl fun a hE => ?_
                  refine gP hE rfl rfl rfl rfl fun a hE => ?_
                  refine s1 hE rfl (d_pT hE rfl rfl rfl) fun a hE => ?_
                  refine s1 hE rfl (d_move hE rfl) fun a hE => ?_
                  refine gP hE rfl rfl rfl rfl fun a hE => ?_
                  refine gP hE rfl rfl rfl rfl fun a hE => ?_
                  refine gP hE rfl rfl rfl rfl fun a hE => ?_
                  refine s1 hE rfl (d_pT hE rfl rfl rfl) fun a hE => ?_
                  refine s1 hE rfl (d_move hE rfl) fun a hE => ?_
                  refine gP hE rfl rfl rfl rfl fun a hE => ?_
                  refine gP hE rfl rfl rfl rfl fun a hE => ?_
                  refine gP hE rfl rfl rfl rfl fun a hE => ?_
                  refine s1 hE rfl (d_pT hE rfl rfl rfl) fun a hE => ?_
                  refine wpList_nil ?_
                  cases hm
                  exact ⟨hE.sub ⟨rfl, rfl, rfl, rfl, trivial⟩, H⟩
                · rw [if_neg c590] at hm
                  refine gR hE rfl rfl (decide_eq_false c590) ?_
                  refine s1 hE rfl (d_fieldAddr fld60_1 hE rfl) fun a hE => ?_
                  refine gR hE rfl rfl (decide_eq_false c590) ?_
                  refine s1 hE rfl (d_load sc3 hE rfl H 0 rfl rfl) fun a hE => ?_
                  refine gR hE rfl rfl (decide_eq_false c590) ?_
                  refine s1 hE rfl (d_gtr hE rfl rfl) fun a hE => ?_
                  refine s1 hE rfl (d_pF hE rfl (decide_eq_false c590) rfl) fun a hE => ?_
                  refine s1 hE rfl (d_move hE rfl) fun a hE => ?_
                  by_cases c591 : 64 < x577.To
                  · rw [if_pos c591] at hm
                    refine gP hE rfl rfl rfl (decide_eq_true c591) fun a hE => ?_
                    refine gP hE rfl rfl rfl (decide_eq_true c591) fun a hE => ?_
                    refine gP hE rfl rfl rfl (decide_eq_true c591) fun a hE => ?_
                    refine gP hE rfl rfl rfl (decide_eq_true c591) fun a hE => ?_
                    refine gP hE rfl rfl rfl (decide_eq_true c591) fun a hE => ?_
                    refine s1 hE rfl (d_pT hE rfl (decide_eq_true c591) rfl) fun a hE => ?_
                    refine s1 hE rfl (d_move hE rfl) fun a hE => ?_
                    refine gP hE rfl rfl rfl rfl fun a hE => ?_
                    refine gP hE rfl rfl rfl rfl fun a hE => ?_
                    refine gP hE rfl rfl rfl rfl fun a hE => ?_
                    refine s1 hE rfl (d_pT hE rfl rfl rfl) fun a hE => ?_
                    refine s1 hE rfl (d_move hE rfl) fun a hE => ?_
                    refine gP hE rfl rfl rfl rfl fun a hE => ?_
                    refine gP hE rfl rfl rfl rfl fun a hE => ?_
                    refine gP hE rfl rfl rfl rfl fun a hE => ?_
                    refine s1 hE rfl (d_pT hE rfl rfl rfl) fun a hE => ?_
                    refine wpList_nil ?_
                    cases hm
                    exact ⟨hE.sub ⟨rfl, rfl, rfl, rfl, trivial⟩, H⟩
                  · rw [if_neg c591] at hm
                    refine gR hE rfl rfl (decide_eq_false c591) ?_
                    refine s1 hE rfl (d_fieldAddr fld60_0 hE rfl) fun a hE => ?_
                    refine gR hE rfl rfl (decide_eq_false c591) ?_
                    refine s1 hE rfl (d_load sc3 hE rfl H 0 rfl rfl) fun a hE => ?_
                    refine gR hE rfl rfl (decide_eq_false c591) ?_
                    refine s1 hE rfl (d_fieldAddr fld60_1 hE rfl) fun a hE => ?_
                    refine gR hE rfl rfl (decide_eq_false c591) ?_
                    refine s1 hE rfl (d_load sc3 hE rfl H 0 rfl rfl) fun a hE => ?_
                    refine gR hE rfl rfl (decide_eq_false c591) ?_
                    refine s1 hE rfl (d_eql hE rfl rfl) fun a hE => ?_
                    refine s1 hE rfl (d_pF hE rfl (decide_eq_false c591) rfl) fun a hE => ?_
                    refine s1 hE rfl (d_move hE rfl) fun a hE => ?_
                    by_cases c592 : x577.From = x577.To
                    · rw [if_pos c592] at hm
                      refine gP hE rfl rfl rfl (decide_eq_true c592) fun a hE => ?_
                      refine gP hE rfl rfl rfl (decide_eq_true c592) fun a hE => ?_
                      refine gP hE rfl rfl rfl (decide_eq_true c592) fun a hE => ?_
                      refine s1 hE rfl (d_pT hE rfl (decide_eq_true c592) rfl) fun a hE => ?_
                      refine s1 hE rfl (d_move hE rfl) fun a hE => ?_
                      refine gP hE rfl rfl rfl rfl fun a hE => ?_
                      refine gP hE rfl rfl rfl rfl fun a hE => ?_
                      refine gP hE rfl rfl rfl rfl fun a hE => ?_
                      refine s1 hE rfl (d_pT hE rfl rfl rfl) fun a hE => ?_
                      refine wpList_nil ?_
                      cases hm
                      exact ⟨hE.sub ⟨rfl, rfl, rfl, rfl, trivial⟩, H⟩
                    · rw [if_neg c592] at hm
                      refine gR hE rfl rfl (decide_eq_false c592) ?_
                      refine s1 hE rfl (d_fieldAddr fld60_2 hE rfl) fun a hE => ?_
                      refine gR hE rfl rfl (decide_eq_false c592) ?_
                      refine s1 hE rfl (d_load sc3 hE rfl H 0 rfl rfl) fun a hE => ?_
                      refine gR hE rfl rfl (decide_eq_false c592) ?_
                      refine s1 hE rfl (d_lss hE rfl rfl) fun a hE => ?_
                      refine s1 hE rfl (d_pF hE rfl (decide_eq_false c592) rfl) fun a hE => ?_
                      refine s1 hE rfl (d_move hE rfl) fun a hE => ?_
                      by_cases c593 : x577.Cost < 1
                      · rw [if_pos c593] at hm
                        refine gP hE rfl rfl rfl (decide_eq_true c593) fun a hE => ?_
                        refine gP hE rfl rfl rfl (decide_eq_true c593) fun a hE => ?_
                        refine gP hE rfl rfl rfl (decide_eq_true c593) fun a hE => ?_
                        refine s1 hE rfl (d_pT hE rfl (decide_eq_true c593) rfl) fun a hE => ?_
                        refine wpList_nil ?_
                        cases hm
                        exact ⟨hE.sub ⟨rfl, rfl, rfl, rfl, trivial⟩, H⟩
                      · rw [if_neg c593] at hm
                        refine gR hE rfl rfl (decide_eq_false c593) ?_
                        refine s1 hE rfl (d_fieldAddr fld60_2 hE rfl) fun a hE => ?_
                        refine gR hE rfl rfl (decide_eq_false c593) ?_
                        refine s1 hE rfl (d_load sc3 hE rfl H 0 rfl rfl) fun a hE => ?_
                        refine gR hE rfl rfl (decide_eq_false c593) ?_
                        refine s1 hE rfl (d_gtr hE rfl rfl) fun a hE => ?_
                        refine s1 hE rfl (d_pF hE rfl (decide_eq_false c593) rfl) fun a hE => ?_
                        refine wpList_nil ?_
                        cases hm
                        exact ⟨hE.sub ⟨rfl, rfl, rfl, rfl, trivial⟩, H⟩
          · rintro a w ⟨hE, H⟩
            by_cases c595 : s587 = true
            · rw [if_pos c595] at hm
              refine cT hE rfl c595 ?_
              refine wp_seq ?_
              refine wp_region_lit ?_
              refine s1 hE rfl (d_assign hE rfl) fun a hE => ?_
              refine wpList_nil ?_
              refine wp_ret ?_
              cases hm
              have hm := hq525
              simp only [Out.on] at hm
              cases hm
              have H := St.del H 0
              exact ret1 rfl hE rfl ⟨_, rfl, rfl, H⟩
            · rw [if_neg c595] at hm
              refine cF hE rfl (b_f c595) ?_
              refine wp_skip ?_
              refine wp_seq ?_
              obtain ⟨s608, hj608, hm⟩ := bnd hm
              refine cut2 (fun a w => Env a 85 [(0, u0), (3, (.int .i64 y430)), (84, (.bool s608))] ∧ St z I w (r)) ?_ ?_
              · have hm := hj608
                by_cases c609 : 0 < y430
                · rw [if_pos c609] at hm
                  obtain ⟨x610, hx611, hm⟩ := bnd hm
                  by_cases c612 : x577.From < x610.From
                  · rw [if_pos c612] at hm
                    refine Dr.region (γ := Unit) (pre := [[], [0], [0, 1], [0, 1, 2], [0, 1, 2], [0, 1, 2, 4], [0, 1, 2, 3, 4, 5], [0, 1, 2, 3, 4, 5, 6], [0, 1, 2, 3, 4, 5, 6, 7], [0, 1, 2], [0, 1, 2, 9], [0, 1, 2, 3, 4, 5, 6, 7, 8, 9, 10], [0, 1, 2, 3, 4, 5, 6, 7, 8, 9, 10, 11], [0, 1, 2, 3, 4, 5, 6, 7, 8, 9, 10, 11, 12], [0, 1, 2, 3, 4, 5, 6, 7, 8, 9, 10, 11, 12], [0, 1, 2, 3, 4, 5, 6, 7, 8, 9, 10, 11, 12, 14], [0, 1, 2, 3, 4, 5, 6, 7, 8, 9, 10, 11, 12, 13, 14, 15], [0, 1, 2, 3, 4, 5, 6, 7, 8, 9, 10, 11, 12, 13, 14, 15, 16], [0, 1, 2, 3, 4, 5, 6, 7, 8, 9, 10, 11, 12, 13, 14, 15, 16, 17], [0, 1, 2, 3, 4, 5, 6, 7, 8, 9, 10, 11, 12], [0, 1, 2, 3, 4, 5, 6, 7, 8, 9, 10, 11, 12, 19], [0, 1, 2, 3, 4, 5, 6, 7, 8, 9, 10, 11, 12, 13, 14, 15, 16, 17, 18, 19, 20], [0, 1, 2, 3, 4, 5, 6, 7, 8, 9, 10, 11, 12, 13, 14, 15, 16, 17, 18, 19, 20, 21], [0, 1, 2, 3, 4, 5, 6, 7, 8, 9, 10, 11, 12, 13, 14, 15, 16, 17, 18, 19, 20, 21, 22], [0, 1, 2, 3, 4, 5, 6, 7, 8, 9, 10, 11, 12, 13, 14, 15, 16, 17, 18, 19, 20, 21, 22], [0, 1, 2, 3, 4, 5, 6, 7, 8, 9, 10, 11, 12, 13, 14, 15, 16, 17, 18, 19, 20, 21, 22, 24], [0, 1, 2, 3, 4, 5, 6, 7, 8, 9, 10, 11, 12, 13, 14, 15, 16, 17, 18, 19, 20, 21, 22, 23, 24, 25], [0, 1, 2, 3, 4, 5, 6, 7, 8, 9, 10, 11, 12, 13, 14, 15, 16, 17, 18, 19, 20, 21, 22, 23, 24, 25, 26], [0, 1, 2, 3, 4, 5, 6, 7, 8, 9, 10, 11, 12, 13, 14, 15, 16, 17, 18, 19, 20, 21, 22, 23, 24, 25, 26, 27], [0, 1, 2, 3, 4, 5, 6, 7, 8, 9, 10, 11, 12, 13, 14, 15, 16, 17, 18, 19, 20, 21, 22], [0, 1, 2, 3, 4, 5, 6, 7, 8, 9, 10, 11, 12, 13, 14, 15, 16, 17, 18, 19, 20, 21, 22, 29], [0, 1, 2, 3, 4, 5, 6, 7, 8, 9, 10, 11, 12, 13, 14, 15, 16, 17, 18, 19, 20, 21, 22, 23, 24, 25, 26, 27, 28, 29, 30], [0, 1, 2, 3, 4, 5, 6, 7, 8, 9, 10, 11, 12, 13, 14, 15, 16, 17, 18, 19, 20, 21, 22, 23, 24, 25, 26, 27, 28, 29, 30, 31], [0, 1, 2, 3, 4, 5, 6, 7, 8, 9, 10, 11, 12, 13, 14, 15, 16, 17, 18, 19, 20, 21, 22, 23, 24, 25, 26, 27, 28, 29, 30, 31, 32], [0, 1, 2, 3, 4, 5, 6, 7, 8, 9, 10, 11, 12, 13, 14, 15, 16, 17, 18, 19, 20, 21, 22, 23, 24, 25, 26, 27, 28, 29, 30, 31, 32, 33]]) (val := [some (.int .i64 y430), some (.bool (decide (0 < y430))), some (.bool (decide (0 < y430))), some u0, some (.int .i64 y430), some (.int .i64 (IntKind.i64.wrap (y430 - 1))), some (.pointer (some (ad (sb u0) (so u0 + (Int.toNat (IntKind.i64.wrap (y430 - 1))) * c_api_Arc.n)))), some (.pointer (some (ad (sb u0) (so u0 + (Int.toNat (IntKind.i64.wrap (y430 - 1))) * c_api_Arc.n + 0)))), some (.int .i64 x610.From), some (.pointer (some (ad q579 (0 + 0)))), some (.int .i64 x577.From), some (.bool (decide (x577.From < x610.From))), some (.bool (decide (x577.From < x610.From))), some undef, some undef, some undef, some undef, some undef, some undef, some undef, some undef, some undef, some undef, some undef, some undef, some undef, some undef, some undef, some undef, some undef, some undef, some undef, some undef, some (.bool true), some (.bool true)]) (eff := []) (mask := [[]]) (keys := [[]]) (src := [[.base 3], [.op 0], [.op 1], [.base 0, .op 2], [.base 3, .op 2], [.op 2, .op 4], [.op 2, .op 3, .op 5], [.op 2, .op 6], [.op 2, .op 7], [.base 4, .op 2], [.op 2, .op 9], [.op 2, .op 8, .op 10], [.op 2, .op 11], [.base 0, .op 12], [.base 3, .op 12], [.op 12, .op 14], [.op 12, .op 13, .op 15], [.op 12, .op 16], [.op 12, .op 17], [.base 4, .op 12], [.op 12, .op 19], [.op 12, .op 18, .op 20], [.op 12, .op 21], [.base 0, .op 22], [.base 3, .op 22], [.op 22, .op 24], [.op 22, .op 23, .op 25], [.op 22, .op 26], [.op 22, .op 27], [.base 4, .op 22], [.op 22, .op 29], [.op 22, .op 28, .op 30], [.op 12, .op 22, .op 31], [.op 2, .op 12, .op 32], [.op 2, .op 33]]) (z := z) (ef := fun p g => ([[]] : List (List (Nat × Value))).getD p []) (hi := fun _ _ => I) (rs := fun p g => ([Bl q579 60 [(.int .i64 x577.From), (.int .i64 x577.To), (.int .i64 x577.Cost)] :: r] : List (List Asn)).getD p []) [(0, 0), (1, 0), (2, 0), (3, 0), (4, 0), (5, 0), (6, 0), (7, 0), (8, 0), (9, 0), (10, 0), (11, 0), (12, 0), (13, 0), (14, 0), (15, 0), (16, 0), (17, 0), (18, 0), (19, 0), (20, 0), (21, 0), (22, 0), (23, 0), (24, 0), (25, 0), (26, 0), (27, 0), (28, 0), (29, 0), (30, 0), (31, 0), (32, 0), (33, 0), (34, 0)] [] [0, 1, 2, 3, 4, 5, 6, 7, 8, 9, 10, 11, 12, 13, 14, 15, 16, 17, 18, 19, 20, 21, 22, 23, 24, 25, 26, 27, 28, 29, 30, 31, 32, 33, 34] 0 mo hE () rfl H (by kernel_rfl) (by kernel_rfl) (fun p g => by cases p <;> rfl) ?_ ?_ (by kernel_rfl) (by kernel_rfl) ?_
                    · exact ⟨by intro a w g hE H; exact Dr.is H rfl (Dr.run rfl (d_move hE rfl)),
    by intro a w g hE H; exact Dr.is H rfl (Dr.run rfl (d_gtr hE rfl rfl)),
    by intro a w g hE H; exact Dr.is H rfl (Dr.run rfl (d_move hE rfl)),
    by intro a w g hE H; exact Dr.is H rfl (Dr.rG rfl hE rfl rfl (decide_eq_true c609) (d_move hE rfl)),
    by intro a w g hE H; exact Dr.is H rfl (Dr.rG rfl hE rfl rfl (decide_eq_true c609) (d_move hE rfl)),
    by intro a w g hE H; exact Dr.is H rfl (Dr.rG rfl hE rfl rfl (decide_eq_true c609) (d_sub hE rfl rfl)),
    by intro a w g hE H; exact Dr.is H rfl (Dr.rG rfl hE rfl rfl (decide_eq_true c609) (d_indexS sl55 hE rfl rfl H (Rd.cons hr0) hx611)),
    by intro a w g hE H; exact Dr.is H rfl (Dr.rG rfl hE rfl rfl (decide_eq_true c609) (d_fieldAddr fld60_0 hE rfl)),
    by intro a w g hE H; exact Dr.is H rfl (Dr.rG rfl hE rfl rfl (decide_eq_true c609) (d_loadSf (j := 0) sc3 hE rfl H (Rd.cons hr0) hx611 (fun _ _ e => by rw [e]; rfl))),
    by intro a w g hE H; exact Dr.is H rfl (Dr.rG rfl hE rfl rfl (decide_eq_true c609) (d_fieldAddr fld60_0 hE rfl)),
    by intro a w g hE H; exact Dr.is H rfl (Dr.rG rfl hE rfl rfl (decide_eq_true c609) (d_load sc3 hE rfl H 0 rfl rfl)),
    by intro a w g hE H; exact Dr.is H rfl (Dr.rG rfl hE rfl rfl (decide_eq_true c609) (d_gtr hE rfl rfl)),
    by intro a w g hE H; exact Dr.is H rfl (Dr.rG rfl hE rfl rfl (decide_eq_true c609) (d_move hE rfl)),
    by intro a w g hE H; exact Dr.is H rfl (Dr.pG rfl hE rfl rfl (decide_eq_true c612) ⟨rfl, rfl⟩),
    by intro a w g hE H; exact Dr.is H rfl (Dr.pG rfl hE rfl rfl (decide_eq_true c612) ⟨rfl, rfl⟩),
    by intro a w g hE H; exact Dr.is H rfl (Dr.pG rfl hE rfl rfl (decide_eq_true c612) ⟨rfl, rfl⟩),
    by intro a w g hE H; exact Dr.is H rfl (Dr.pG rfl hE rfl rfl (decide_eq_true c612) ⟨rfl, rfl⟩),
    by intro a w g hE H; exact Dr.is H rfl (Dr.pG rfl hE rfl rfl (decide_eq_true c612) ⟨rfl, rfl⟩),
    by intro a w g hE H; exact Dr.is H rfl (Dr.pG rfl hE rfl rfl (decide_eq_true c612) ⟨rfl, rfl⟩),
    by intro a w g hE H; exact Dr.is H rfl (Dr.pG rfl hE rfl rfl (decide_eq_true c612) ⟨rfl, rfl⟩),
    by intro a w g hE H; exact Dr.is H rfl (Dr.pG rfl hE rfl rfl (decide_eq_true c612) ⟨rfl, rfl⟩),
    by intro a w g hE H; exact Dr.is H rfl (Dr.pG rfl hE rfl rfl (decide_eq_true c612) ⟨rfl, rfl⟩),
    by intro a w g hE H; exact Dr.is H rfl (Dr.pG rfl hE rfl rfl (decide_eq_true c612) ⟨rfl, rfl⟩),
    by intro a w g hE H; exact Dr.is H rfl (Dr.passU rfl hE rfl rfl ⟨rfl, rfl⟩),
    by intro a w g hE H; exact Dr.is H rfl (Dr.passU rfl hE rfl rfl ⟨rfl, rfl⟩),
    by intro a w g hE H; exact Dr.is H rfl (Dr.passU rfl hE rfl rfl ⟨rfl, rfl⟩),
    by intro a w g hE H; exact Dr.is H rfl (Dr.passU rfl hE rfl rfl ⟨rfl, rfl⟩),
    by intro a w g hE H; exact Dr.is H rfl (Dr.passU rfl hE rfl rfl ⟨rfl, rfl⟩),
    by intro a w g hE H; exact Dr.is H rfl (Dr.passU rfl hE rfl rfl ⟨rfl, rfl⟩),
    by intro a w g hE H; exact Dr.is H rfl (Dr.passU rfl hE rfl rfl ⟨rfl, rfl⟩),
    by intro a w g hE H; exact Dr.is H rfl (Dr.passU rfl hE rfl rfl ⟨rfl, rfl⟩),
    by intro a w g hE H; exact Dr.is H rfl (Dr.passU rfl hE rfl rfl ⟨rfl, rfl⟩),
    by intro a w g hE H; exact Dr.is H rfl (Dr.pG rfl hE rfl rfl (decide_eq_true c612) ⟨rfl, rfl⟩),
    by intro a w g hE H; exact Dr.is H rfl (Dr.rG rfl hE rfl rfl (decide_eq_true c609) (d_pT hE rfl (decide_eq_true c612) rfl)),
    by intro a w g hE H; exact Dr.is H rfl (Dr.run rfl (d_pT hE rfl (decide_eq_true c609) rfl)),
    trivial⟩
                    · trivial
                    · intro a w g hE H
                      have H : St z I w (Bl q579 60 [(.int .i64 x577.From), (.int .i64 x577.To), (.int .i64 x577.Cost)] :: r) := H
                      cases hm
                      have H := St.del H 0
                      exact ⟨hE.sub ⟨rfl, rfl, rfl, trivial⟩, H⟩
                  · rw [if_neg c612] at hm
                    obtain ⟨x613, hx614, hm⟩ := bnd hm
                    by_cases c615 : x613.From = x577.From
                    · rw [if_pos c615] at hm
                      obtain ⟨x616, hx617, hm⟩ := bnd hm
                      refine Dr.region (γ := Unit) (pre := [[], [0], [0, 1], [0, 1, 2], [0, 1, 2], [0, 1, 2, 4], [0, 1, 2, 3, 4, 5], [0, 1, 2, 3, 4, 5, 6], [0, 1, 2, 3, 4, 5, 6, 7], [0, 1, 2], [0, 1, 2, 9], [0, 1, 2, 3, 4, 5, 6, 7, 8, 9, 10], [0, 1, 2, 3, 4, 5, 6, 7, 8, 9, 10, 11], [0, 1, 2, 3, 4, 5, 6, 7, 8, 9, 10, 11, 12], [0, 1, 2, 3, 4, 5, 6, 7, 8, 9, 10, 11, 12], [0, 1, 2, 3, 4, 5, 6, 7, 8, 9, 10, 11, 12, 14], [0, 1, 2, 3, 4, 5, 6, 7, 8, 9, 10, 11, 12, 13, 14, 15], [0, 1, 2, 3, 4, 5, 6, 7, 8, 9, 10, 11, 12, 13, 14, 15, 16], [0, 1, 2, 3, 4, 5, 6, 7, 8, 9, 10, 11, 12, 13, 14, 15, 16, 17], [0, 1, 2, 3, 4, 5, 6, 7, 8, 9, 10, 11, 12], [0, 1, 2, 3, 4, 5, 6, 7, 8, 9, 10, 11, 12, 19], [0, 1, 2, 3, 4, 5, 6, 7, 8, 9, 10, 11, 12, 13, 14, 15, 16, 17, 18, 19, 20], [0, 1, 2, 3, 4, 5, 6, 7, 8, 9, 10, 11, 12, 13, 14, 15, 16, 17, 18, 19, 20, 21], [0, 1, 2, 3, 4, 5, 6, 7, 8, 9, 10, 11, 12, 13, 14, 15, 16, 17, 18, 19, 20, 21, 22], [0, 1, 2, 3, 4, 5, 6, 7, 8, 9, 10, 11, 12, 13, 14, 15, 16, 17, 18, 19, 20, 21, 22], [0, 1, 2, 3, 4, 5, 6, 7, 8, 9, 10, 11, 12, 13, 14, 15, 16, 17, 18, 19, 20, 21, 22, 24], [0, 1, 2, 3, 4, 5, 6, 7, 8, 9, 10, 11, 12, 13, 14, 15, 16, 17, 18, 19, 20, 21, 22, 23, 24, 25], [0, 1, 2, 3, 4, 5, 6, 7, 8, 9, 10, 11, 12, 13, 14, 15, 16, 17, 18, 19, 20, 21, 22, 23, 24, 25, 26], [0, 1, 2, 3, 4, 5, 6, 7, 8, 9, 10, 11, 12, 13, 14, 15, 16, 17, 18, 19, 20, 21, 22, 23, 24, 25, 26, 27], [0, 1, 2, 3, 4, 5, 6, 7, 8, 9, 10, 11, 12, 13, 14, 15, 16, 17, 18, 19, 20, 21, 22], [0, 1, 2, 3, 4, 5, 6, 7, 8, 9, 10, 11, 12, 13, 14, 15, 16, 17, 18, 19, 20, 21, 22, 29], [0, 1, 2, 3, 4, 5, 6, 7, 8, 9, 10, 11, 12, 13, 14, 15, 16, 17, 18, 19, 20, 21, 22, 23, 24, 25, 26, 27, 28, 29, 30], [0, 1, 2, 3, 4, 5, 6, 7, 8, 9, 10, 11, 12, 13, 14, 15, 16, 17, 18, 19, 20, 21, 22, 23, 24, 25, 26, 27, 28, 29, 30, 31], [0, 1, 2, 3, 4, 5, 6, 7, 8, 9, 10, 11, 12, 13, 14, 15, 16, 17, 18, 19, 20, 21, 22, 23, 24, 25, 26, 27, 28, 29, 30, 31, 32], [0, 1, 2, 3, 4, 5, 6, 7, 8, 9, 10, 11, 12, 13, 14, 15, 16, 17, 18, 19, 20, 21, 22, 23, 24, 25, 26, 27, 28, 29, 30, 31, 32, 33]]) (val := [some (.int .i64 y430), some (.bool (decide (0 < y430))), some (.bool (decide (0 < y430))), some u0, some (.int .i64 y430), some (.int .i64 (IntKind.i64.wrap (y430 - 1))), some (.pointer (some (ad (sb u0) (so u0 + (Int.toNat (IntKind.i64.wrap (y430 - 1))) * c_api_Arc.n)))), some (.pointer (some (ad (sb u0) (so u0 + (Int.toNat (IntKind.i64.wrap (y430 - 1))) * c_api_Arc.n + 0)))), some (.int .i64 x610.From), some (.pointer (some (ad q579 (0 + 0)))), some (.int .i64 x577.From), some (.bool (decide (x577.From < x610.From))), some (.bool (decide (x577.From < x610.From))), some u0, some (.int .i64 y430), some (.int .i64 (IntKind.i64.wrap (y430 - 1))), some (.pointer (some (ad (sb u0) (so u0 + (Int.toNat (IntKind.i64.wrap (y430 - 1))) * c_api_Arc.n)))), some (.pointer (some (ad (sb u0) (so u0 + (Int.toNat (IntKind.i64.wrap (y430 - 1))) * c_api_Arc.n + 0)))), some (.int .i64 x613.From), some (.pointer (some (ad q579 (0 + 0)))), some (.int .i64 x577.From), some (.bool (decide (x613.From = x577.From))), some (.bool (decide (x613.From = x577.From))), some u0, some (.int .i64 y430), some (.int .i64 (IntKind.i64.wrap (y430 - 1))), some (.pointer (some (ad (sb u0) (so u0 + (Int.toNat (IntKind.i64.wrap (y430 - 1))) * c_api_Arc.n)))), some (.pointer (some (ad (sb u0) (so u0 + (Int.toNat (IntKind.i64.wrap (y430 - 1))) * c_api_Arc.n + 1)))), some (.int .i64 x616.To), some (.pointer (some (ad q579 (0 + 1)))), some (.int .i64 x577.To), some (.bool (decide (x577.To ≤ x616.To))), some (.bool (decide (x577.To ≤ x616.To))), some (.bool (decide (x577.To ≤ x616.To))), some (.bool (decide (x577.To ≤ x616.To)))]) (eff := []) (mask := [[]]) (keys := [[]]) (src := [[.base 3], [.op 0], [.op 1], [.base 0, .op 2], [.base 3, .op 2], [.op 2, .op 4], [.op 2, .op 3, .op 5], [.op 2, .op 6], [.op 2, .op 7], [.base 4, .op 2], [.op 2, .op 9], [.op 2, .op 8, .op 10], [.op 2, .op 11], [.base 0, .op 12], [.base 3, .op 12], [.op 12, .op 14], [.op 12, .op 13, .op 15], [.op 12, .op 16], [.op 12, .op 17], [.base 4, .op 12], [.op 12, .op 19], [.op 12, .op 18, .op 20], [.op 12, .op 21], [.base 0, .op 22], [.base 3, .op 22], [.op 22, .op 24], [.op 22, .op 23, .op 25], [.op 22, .op 26], [.op 22, .op 27], [.base 4, .op 22], [.op 22, .op 29], [.op 22, .op 28, .op 30], [.op 12, .op 22, .op 31], [.op 2, .op 12, .op 32], [.op 2, .op 33]]) (z := z) (ef := fun p g => ([[]] : List (List (Nat × Value))).getD p []) (hi := fun _ _ => I) (rs := fun p g => ([Bl q579 60 [(.int .i64 x577.From), (.int .i64 x577.To), (.int .i64 x577.Cost)] :: r] : List (List Asn)).getD p []) [(0, 0), (1, 0), (2, 0), (3, 0), (4, 0), (5, 0), (6, 0), (7, 0), (8, 0), (9, 0), (10, 0), (11, 0), (12, 0), (13, 0), (14, 0), (15, 0), (16, 0), (17, 0), (18, 0), (19, 0), (20, 0), (21, 0), (22, 0), (23, 0), (24, 0), (25, 0), (26, 0), (27, 0), (28, 0), (29, 0), (30, 0), (31, 0), (32, 0), (33, 0), (34, 0)] [] [0, 1, 2, 3, 4, 5, 6, 7, 8, 9, 10, 11, 12, 13, 14, 15, 16, 17, 18, 19, 20, 21, 22, 23, 24, 25, 26, 27, 28, 29, 30, 31, 32, 33, 34] 0 mo hE () rfl H (by kernel_rfl) (by kernel_rfl) (fun p g => by cases p <;> rfl) ?_ ?_ (by kernel_rfl) (by kernel_rfl) ?_
                      · exact ⟨by intro a w g hE H; exact Dr.is H rfl (Dr.run rfl (d_move hE rfl)),
    by intro a w g hE H; exact Dr.is H rfl (Dr.run rfl (d_gtr hE rfl rfl)),
    by intro a w g hE H; exact Dr.is H rfl (Dr.run rfl (d_move hE rfl)),
    by intro a w g hE H; exact Dr.is H rfl (Dr.rG rfl hE rfl rfl (decide_eq_true c609) (d_move hE rfl)),
    by intro a w g hE H; exact Dr.is H rfl (Dr.rG rfl hE rfl rfl (decide_eq_true c609) (d_move hE rfl)),
    by intro a w g hE H; exact Dr.is H rfl (Dr.rG rfl hE rfl rfl (decide_eq_true c609) (d_sub hE rfl rfl)),
    by intro a w g hE H; exact Dr.is H rfl (Dr.rG rfl hE rfl rfl (decide_eq_true c609) (d_indexS sl55 hE rfl rfl H (Rd.cons hr0) hx611)),
    by intro a w g hE H; exact Dr.is H rfl (Dr.rG rfl hE rfl rfl (decide_eq_true c609) (d_fieldAddr fld60_0 hE rfl)),
    by intro a w g hE H; exact Dr.is H rfl (Dr.rG rfl hE rfl rfl (decide_eq_true c609) (d_loadSf (j := 0) sc3 hE rfl H (Rd.cons hr0) hx611 (fun _ _ e => by rw [e]; rfl))),
    by intro a w g hE H; exact Dr.is H rfl (Dr.rG rfl hE rfl rfl (decide_eq_true c609) (d_fieldAddr fld60_0 hE rfl)),
    by intro a w g hE H; exact Dr.is H rfl (Dr.rG rfl hE rfl rfl (decide_eq_true c609) (d_load sc3 hE rfl H 0 rfl rfl)),
    by intro a w g hE H; exact Dr.is H rfl (Dr.rG rfl hE rfl rfl (decide_eq_true c609) (d_gtr hE rfl rfl)),
    by intro a w g hE H; exact Dr.is H rfl (Dr.rG rfl hE rfl rfl (decide_eq_true c609) (d_move hE rfl)),
    by intro a w g hE H; exact Dr.is H rfl (Dr.rG rfl hE rfl rfl (decide_eq_false c612) (d_move hE rfl)),
    by intro a w g hE H; exact Dr.is H rfl (Dr.rG rfl hE rfl rfl (decide_eq_false c612) (d_move hE rfl)),
    by intro a w g hE H; exact Dr.is H rfl (Dr.rG rfl hE rfl rfl (decide_eq_false c612) (d_sub hE rfl rfl)),
    by intro a w g hE H; exact Dr.is H rfl (Dr.rG rfl hE rfl rfl (decide_eq_false c612) (d_indexS sl55 hE rfl rfl H (Rd.cons hr0) hx614)),
    by intro a w g hE H; exact Dr.is H rfl (Dr.rG rfl hE rfl rfl (decide_eq_false c612) (d_fieldAddr fld60_0 hE rfl)),
    by intro a w g hE H; exact Dr.is H rfl (Dr.rG rfl hE rfl rfl (decide_eq_false c612) (d_loadSf (j := 0) sc3 hE rfl H (Rd.cons hr0) hx614 (fun _ _ e => by rw [e]; rfl))),
    by intro a w g hE H; exact Dr.is H rfl (Dr.rG rfl hE rfl rfl (decide_eq_false c612) (d_fieldAddr fld60_0 hE rfl)),
    by intro a w g hE H; exact Dr.is H rfl (Dr.rG rfl hE rfl rfl (decide_eq_false c612) (d_load sc3 hE rfl H 0 rfl rfl)),
    by intro a w g hE H; exact Dr.is H rfl (Dr.rG rfl hE rfl rfl (decide_eq_false c612) (d_eql hE rfl rfl)),
    by intro a w g hE H; exact Dr.is H rfl (Dr.rG rfl hE rfl rfl (decide_eq_false c612) (d_move hE rfl)),
    by intro a w g hE H; exact Dr.is H rfl (Dr.rG rfl hE rfl rfl (decide_eq_true c615) (d_move hE rfl)),
    by intro a w g hE H; exact Dr.is H rfl (Dr.rG rfl hE rfl rfl (decide_eq_true c615) (d_move hE rfl)),
    by intro a w g hE H; exact Dr.is H rfl (Dr.rG rfl hE rfl rfl (decide_eq_true c615) (d_sub hE rfl rfl)),
    by intro a w g hE H; exact Dr.is H rfl (Dr.rG rfl hE rfl rfl (decide_eq_true c615) (d_indexS sl55 hE rfl rfl H (Rd.cons hr0) hx617)),
    by intro a w g hE H; exact Dr.is H rfl (Dr.rG rfl hE rfl rfl (decide_eq_true c615) (d_fieldAddr fld60_1 hE rfl)),
    by intro a w g hE H; exact Dr.is H rfl (Dr.rG rfl hE rfl rfl (decide_eq_true c615) (d_loadSf (j := 1) sc3 hE rfl H (Rd.cons hr0) hx617 (fun _ _ e => by rw [e]; rfl))),
    by intro a w g hE H; exact Dr.is H rfl (Dr.rG rfl hE rfl rfl (decide_eq_true c615) (d_fieldAddr fld60_1 hE rfl)),
    by intro a w g hE H; exact Dr.is H rfl (Dr.rG rfl hE rfl rfl (decide_eq_true c615) (d_load sc3 hE rfl H 0 rfl rfl)),
    by intro a w g hE H; exact Dr.is H rfl (Dr.rG rfl hE rfl rfl (decide_eq_true c615) (d_geq hE rfl rfl)),
    by intro a w g hE H; exact Dr.is H rfl (Dr.rG rfl hE rfl rfl (decide_eq_false c612) (d_pT hE rfl (decide_eq_true c615) rfl)),
    by intro a w g hE H; exact Dr.is H rfl (Dr.rG rfl hE rfl rfl (decide_eq_true c609) (d_pF hE rfl (decide_eq_false c612) rfl)),
    by intro a w g hE H; exact Dr.is H rfl (Dr.run rfl (d_pT hE rfl (decide_eq_true c609) rfl)),
    trivial⟩
                      · trivial
                      · intro a w g hE H
                        have H : St z I w (Bl q579 60 [(.int .i64 x577.From), (.int .i64 x577.To), (.int .i64 x577.Cost)] :: r) := H
                        cases hm
                        have H := St.del H 0
                        exact ⟨hE.sub ⟨rfl, rfl, rfl, trivial⟩, H⟩
                    · rw [if_neg c615] at hm
                      refine Dr.region (γ := Unit) (pre := [[], [0], [0, 1], [0, 1, 2], [0, 1, 2], [0, 1, 2, 4], [0, 1, 2, 3, 4, 5], [0, 1, 2, 3, 4, 5, 6], [0, 1, 2, 3, 4, 5, 6, 7], [0, 1, 2], [0, 1, 2, 9], [0, 1, 2, 3, 4, 5, 6, 7, 8, 9, 10], [0, 1, 2, 3, 4, 5, 6, 7, 8, 9, 10, 11], [0, 1, 2, 3, 4, 5, 6, 7, 8, 9, 10, 11, 12], [0, 1, 2, 3, 4, 5, 6, 7, 8, 9, 10, 11, 12], [0, 1, 2, 3, 4, 5, 6, 7, 8, 9, 10, 11, 12, 14], [0, 1, 2, 3, 4, 5, 6, 7, 8, 9, 10, 11, 12, 13, 14, 15], [0, 1, 2, 3, 4, 5, 6, 7, 8, 9, 10, 11, 12, 13, 14, 15, 16], [0, 1, 2, 3, 4, 5, 6, 7, 8, 9, 10, 11, 12, 13, 14, 15, 16, 17], [0, 1, 2, 3, 4, 5, 6, 7, 8, 9, 10, 11, 12], [0, 1, 2, 3, 4, 5, 6, 7, 8, 9, 10, 11, 12, 19], [0, 1, 2, 3, 4, 5, 6, 7, 8, 9, 10, 11, 12, 13, 14, 15, 16, 17, 18, 19, 20], [0, 1, 2, 3, 4, 5, 6, 7, 8, 9, 10, 11, 12, 13, 14, 15, 16, 17, 18, 19, 20, 21], [0, 1, 2, 3, 4, 5, 6, 7, 8, 9, 10, 11, 12, 13, 14, 15, 16, 17, 18, 19, 20, 21, 22], [0, 1, 2, 3, 4, 5, 6, 7, 8, 9, 10, 11, 12, 13, 14, 15, 16, 17, 18, 19, 20, 21, 22], [0, 1, 2, 3, 4, 5, 6, 7, 8, 9, 10, 11, 12, 13, 14, 15, 16, 17, 18, 19, 20, 21, 22, 24], [0, 1, 2, 3, 4, 5, 6, 7, 8, 9, 10, 11, 12, 13, 14, 15, 16, 17, 18, 19, 20, 21, 22, 23, 24, 25], [0, 1, 2, 3, 4, 5, 6, 7, 8, 9, 10, 11, 12, 13, 14, 15, 16, 17, 18, 19, 20, 21, 22, 23, 24, 25, 26], [0, 1, 2, 3, 4, 5, 6, 7, 8, 9, 10, 11, 12, 13, 14, 15, 16, 17, 18, 19, 20, 21, 22, 23, 24, 25, 26, 27], [0, 1, 2, 3, 4, 5, 6, 7, 8, 9, 10, 11, 12, 13, 14, 15, 16, 17, 18, 19, 20, 21, 22], [0, 1, 2, 3, 4, 5, 6, 7, 8, 9, 10, 11, 12, 13, 14, 15, 16, 17, 18, 19, 20, 21, 22, 29], [0, 1, 2, 3, 4, 5, 6, 7, 8, 9, 10, 11, 12, 13, 14, 15, 16, 17, 18, 19, 20, 21, 22, 23, 24, 25, 26, 27, 28, 29, 30], [0, 1, 2, 3, 4, 5, 6, 7, 8, 9, 10, 11, 12, 13, 14, 15, 16, 17, 18, 19, 20, 21, 22, 23, 24, 25, 26, 27, 28, 29, 30, 31], [0, 1, 2, 3, 4, 5, 6, 7, 8, 9, 10, 11, 12, 13, 14, 15, 16, 17, 18, 19, 20, 21, 22, 23, 24, 25, 26, 27, 28, 29, 30, 31, 32], [0, 1, 2, 3, 4, 5, 6, 7, 8, 9, 10, 11, 12, 13, 14, 15, 16, 17, 18, 19, 20, 21, 22, 23, 24, 25, 26, 27, 28, 29, 30, 31, 32, 33]]) (val := [some (.int .i64 y430), some (.bool (decide (0 < y430))), some (.bool (decide (0 < y430))), some u0, some (.int .i64 y430), some (.int .i64 (IntKind.i64.wrap (y430 - 1))), some (.pointer (some (ad (sb u0) (so u0 + (Int.toNat (IntKind.i64.wrap (y430 - 1))) * c_api_Arc.n)))), some (.pointer (some (ad (sb u0) (so u0 + (Int.toNat (IntKind.i64.wrap (y430 - 1))) * c_api_Arc.n + 0)))), some (.int .i64 x610.From), some (.pointer (some (ad q579 (0 + 0)))), some (.int .i64 x577.From), some (.bool (decide (x577.From < x610.From))), some (.bool (decide (x577.From < x610.From))), some u0, some (.int .i64 y430), some (.int .i64 (IntKind.i64.wrap (y430 - 1))), some (.pointer (some (ad (sb u0) (so u0 + (Int.toNat (IntKind.i64.wrap (y430 - 1))) * c_api_Arc.n)))), some (.pointer (some (ad (sb u0) (so u0 + (Int.toNat (IntKind.i64.wrap (y430 - 1))) * c_api_Arc.n + 0)))), some (.int .i64 x613.From), some (.pointer (some (ad q579 (0 + 0)))), some (.int .i64 x577.From), some (.bool (decide (x613.From = x577.From))), some (.bool (decide (x613.From = x577.From))), some undef, some undef, some undef, some undef, some undef, some undef, some undef, some undef, some undef, some (.bool false), some (.bool false), some (.bool false)]) (eff := []) (mask := [[]]) (keys := [[]]) (src := [[.base 3], [.op 0], [.op 1], [.base 0, .op 2], [.base 3, .op 2], [.op 2, .op 4], [.op 2, .op 3, .op 5], [.op 2, .op 6], [.op 2, .op 7], [.base 4, .op 2], [.op 2, .op 9], [.op 2, .op 8, .op 10], [.op 2, .op 11], [.base 0, .op 12], [.base 3, .op 12], [.op 12, .op 14], [.op 12, .op 13, .op 15], [.op 12, .op 16], [.op 12, .op 17], [.base 4, .op 12], [.op 12, .op 19], [.op 12, .op 18, .op 20], [.op 12, .op 21], [.base 0, .op 22], [.base 3, .op 22], [.op 22, .op 24], [.op 22, .op 23, .op 25], [.op 22, .op 26], [.op 22, .op 27], [.base 4, .op 22], [.op 22, .op 29], [.op 22, .op 28, .op 30], [.op 12, .op 22, .op 31], [.op 2, .op 12, .op 32], [.op 2, .op 33]]) (z := z) (ef := fun p g => ([[]] : List (List (Nat × Value))).getD p []) (hi := fun _ _ => I) (rs := fun p g => ([Bl q579 60 [(.int .i64 x577.From), (.int .i64 x577.To), (.int .i64 x577.Cost)] :: r] : List (List Asn)).getD p []) [(0, 0), (1, 0), (2, 0), (3, 0), (4, 0), (5, 0), (6, 0), (7, 0), (8, 0), (9, 0), (10, 0), (11, 0), (12, 0), (13, 0), (14, 0), (15, 0), (16, 0), (17, 0), (18, 0), (19, 0), (20, 0), (21, 0), (22, 0), (23, 0), (24, 0), (25, 0), (26, 0), (27, 0), (28, 0), (29, 0), (30, 0), (31, 0), (32, 0), (33, 0), (34, 0)] [] [0, 1, 2, 3, 4, 5, 6, 7, 8, 9, 10, 11, 12, 13, 14, 15, 16, 17, 18, 19, 20, 21, 22, 23, 24, 25, 26, 27, 28, 29, 30, 31, 32, 33, 34] 0 mo hE () rfl H (by kernel_rfl) (by kernel_rfl) (fun p g => by cases p <;> rfl) ?_ ?_ (by kernel_rfl) (by kernel_rfl) ?_
                      · exact ⟨by intro a w g hE H; exact Dr.is H rfl (Dr.run rfl (d_move hE rfl)),
    by intro a w g hE H; exact Dr.is H rfl (Dr.run rfl (d_gtr hE rfl rfl)),
    by intro a w g hE H; exact Dr.is H rfl (Dr.run rfl (d_move hE rfl)),
    by intro a w g hE H; exact Dr.is H rfl (Dr.rG rfl hE rfl rfl (decide_eq_true c609) (d_move hE rfl)),
    by intro a w g hE H; exact Dr.is H rfl (Dr.rG rfl hE rfl rfl (decide_eq_true c609) (d_move hE rfl)),
    by intro a w g hE H; exact Dr.is H rfl (Dr.rG rfl hE rfl rfl (decide_eq_true c609) (d_sub hE rfl rfl)),
    by intro a w g hE H; exact Dr.is H rfl (Dr.rG rfl hE rfl rfl (decide_eq_true c609) (d_indexS sl55 hE rfl rfl H (Rd.cons hr0) hx611)),
    by intro a w g hE H; exact Dr.is H rfl (Dr.rG rfl hE rfl rfl (decide_eq_true c609) (d_fieldAddr fld60_0 hE rfl)),
    by intro a w g hE H; exact Dr.is H rfl (Dr.rG rfl hE rfl rfl (decide_eq_true c609) (d_loadSf (j := 0) sc3 hE rfl H (Rd.cons hr0) hx611 (fun _ _ e => by rw [e]; rfl))),
    by intro a w g hE H; exact Dr.is H rfl (Dr.rG rfl hE rfl rfl (decide_eq_true c609) (d_fieldAddr fld60_0 hE rfl)),
    by intro a w g hE H; exact Dr.is H rfl (Dr.rG rfl hE rfl rfl (decide_eq_true c609) (d_load sc3 hE rfl H 0 rfl rfl)),
    by intro a w g hE H; exact Dr.is H rfl (Dr.rG rfl hE rfl rfl (decide_eq_true c609) (d_gtr hE rfl rfl)),
    by intro a w g hE H; exact Dr.is H rfl (Dr.rG rfl hE rfl rfl (decide_eq_true c609) (d_move hE rfl)),
    by intro a w g hE H; exact Dr.is H rfl (Dr.rG rfl hE rfl rfl (decide_eq_false c612) (d_move hE rfl)),
    by intro a w g hE H; exact Dr.is H rfl (Dr.rG rfl hE rfl rfl (decide_eq_false c612) (d_move hE rfl)),
    by intro a w g hE H; exact Dr.is H rfl (Dr.rG rfl hE rfl rfl (decide_eq_false c612) (d_sub hE rfl rfl)),
    by intro a w g hE H; exact Dr.is H rfl (Dr.rG rfl hE rfl rfl (decide_eq_false c612) (d_indexS sl55 hE rfl rfl H (Rd.cons hr0) hx614)),
    by intro a w g hE H; exact Dr.is H rfl (Dr.rG rfl hE rfl rfl (decide_eq_false c612) (d_fieldAddr fld60_0 hE rfl)),
    by intro a w g hE H; exact Dr.is H rfl (Dr.rG rfl hE rfl rfl (decide_eq_false c612) (d_loadSf (j := 0) sc3 hE rfl H (Rd.cons hr0) hx614 (fun _ _ e => by rw [e]; rfl))),
    by intro a w g hE H; exact Dr.is H rfl (Dr.rG rfl hE rfl rfl (decide_eq_false c612) (d_fieldAddr fld60_0 hE rfl)),
    by intro a w g hE H; exact Dr.is H rfl (Dr.rG rfl hE rfl rfl (decide_eq_false c612) (d_load sc3 hE rfl H 0 rfl rfl)),
    by intro a w g hE H; exact Dr.is H rfl (Dr.rG rfl hE rfl rfl (decide_eq_false c612) (d_eql hE rfl rfl)),
    by intro a w g hE H; exact Dr.is H rfl (Dr.rG rfl hE rfl rfl (decide_eq_false c612) (d_move hE rfl)),
    by intro a w g hE H; exact Dr.is H rfl (Dr.pG rfl hE rfl rfl (decide_eq_false c615) ⟨rfl, rfl⟩),
    by intro a w g hE H; exact Dr.is H rfl (Dr.pG rfl hE rfl rfl (decide_eq_false c615) ⟨rfl, rfl⟩),
    by intro a w g hE H; exact Dr.is H rfl (Dr.pG rfl hE rfl rfl (decide_eq_false c615) ⟨rfl, rfl⟩),
    by intro a w g hE H; exact Dr.is H rfl (Dr.pG rfl hE rfl rfl (decide_eq_false c615) ⟨rfl, rfl⟩),
    by intro a w g hE H; exact Dr.is H rfl (Dr.pG rfl hE rfl rfl (decide_eq_false c615) ⟨rfl, rfl⟩),
    by intro a w g hE H; exact Dr.is H rfl (Dr.pG rfl hE rfl rfl (decide_eq_false c615) ⟨rfl, rfl⟩),
    by intro a w g hE H; exact Dr.is H rfl (Dr.pG rfl hE rfl rfl (decide_eq_false c615) ⟨rfl, rfl⟩),
    by intro a w g hE H; exact Dr.is H rfl (Dr.pG rfl hE rfl rfl (decide_eq_false c615) ⟨rfl, rfl⟩),
    by intro a w g hE H; exact Dr.is H rfl (Dr.pG rfl hE rfl rfl (decide_eq_false c615) ⟨rfl, rfl⟩),
    by intro a w g hE H; exact Dr.is H rfl (Dr.rG rfl hE rfl rfl (decide_eq_false c612) (d_pF hE rfl (decide_eq_false c615) rfl)),
    by intro a w g hE H; exact Dr.is H rfl (Dr.rG rfl hE rfl rfl (decide_eq_true c609) (d_pF hE rfl (decide_eq_false c612) rfl)),
    by intro a w g hE H; exact Dr.is H rfl (Dr.run rfl (d_pT hE rfl (decide_eq_true c609) rfl)),
    trivial⟩
                      · trivial
                      · intro a w g hE H
                        have H : St z I w (Bl q579 60 [(.int .i64 x577.From), (.int .i64 x577.To), (.int .i64 x577.Cost)] :: r) := H
                        cases hm
                        have H := St.del H 0
                        exact ⟨hE.sub ⟨rfl, rfl, rfl, trivial⟩, H⟩
                · rw [if_neg c609] at hm
                  refine Dr.region (γ := Unit) (pre := [[], [0], [0, 1], [0, 1, 2], [0, 1, 2], [0, 1, 2, 4], [0, 1, 2, 3, 4, 5], [0, 1, 2, 3, 4, 5, 6], [0, 1, 2, 3, 4, 5, 6, 7], [0, 1, 2], [0, 1, 2, 9], [0, 1, 2, 3, 4, 5, 6, 7, 8, 9, 10], [0, 1, 2, 3, 4, 5, 6, 7, 8, 9, 10, 11], [0, 1, 2, 3, 4, 5, 6, 7, 8, 9, 10, 11, 12], [0, 1, 2, 3, 4, 5, 6, 7, 8, 9, 10, 11, 12], [0, 1, 2, 3, 4, 5, 6, 7, 8, 9, 10, 11, 12, 14], [0, 1, 2, 3, 4, 5, 6, 7, 8, 9, 10, 11, 12, 13, 14, 15], [0, 1, 2, 3, 4, 5, 6, 7, 8, 9, 10, 11, 12, 13, 14, 15, 16], [0, 1, 2, 3, 4, 5, 6, 7, 8, 9, 10, 11, 12, 13, 14, 15, 16, 17], [0, 1, 2, 3, 4, 5, 6, 7, 8, 9, 10, 11, 12], [0, 1, 2, 3, 4, 5, 6, 7, 8, 9, 10, 11, 12, 19], [0, 1, 2, 3, 4, 5, 6, 7, 8, 9, 10, 11, 12, 13, 14, 15, 16, 17, 18, 19, 20], [0, 1, 2, 3, 4, 5, 6, 7, 8, 9, 10, 11, 12, 13, 14, 15, 16, 17, 18, 19, 20, 21], [0, 1, 2, 3, 4, 5, 6, 7, 8, 9, 10, 11, 12, 13, 14, 15, 16, 17, 18, 19, 20, 21, 22], [0, 1, 2, 3, 4, 5, 6, 7, 8, 9, 10, 11, 12, 13, 14, 15, 16, 17, 18, 19, 20, 21, 22], [0, 1, 2, 3, 4, 5, 6, 7, 8, 9, 10, 11, 12, 13, 14, 15, 16, 17, 18, 19, 20, 21, 22, 24], [0, 1, 2, 3, 4, 5, 6, 7, 8, 9, 10, 11, 12, 13, 14, 15, 16, 17, 18, 19, 20, 21, 22, 23, 24, 25], [0, 1, 2, 3, 4, 5, 6, 7, 8, 9, 10, 11, 12, 13, 14, 15, 16, 17, 18, 19, 20, 21, 22, 23, 24, 25, 26], [0, 1, 2, 3, 4, 5, 6, 7, 8, 9, 10, 11, 12, 13, 14, 15, 16, 17, 18, 19, 20, 21, 22, 23, 24, 25, 26, 27], [0, 1, 2, 3, 4, 5, 6, 7, 8, 9, 10, 11, 12, 13, 14, 15, 16, 17, 18, 19, 20, 21, 22], [0, 1, 2, 3, 4, 5, 6, 7, 8, 9, 10, 11, 12, 13, 14, 15, 16, 17, 18, 19, 20, 21, 22, 29], [0, 1, 2, 3, 4, 5, 6, 7, 8, 9, 10, 11, 12, 13, 14, 15, 16, 17, 18, 19, 20, 21, 22, 23, 24, 25, 26, 27, 28, 29, 30], [0, 1, 2, 3, 4, 5, 6, 7, 8, 9, 10, 11, 12, 13, 14, 15, 16, 17, 18, 19, 20, 21, 22, 23, 24, 25, 26, 27, 28, 29, 30, 31], [0, 1, 2, 3, 4, 5, 6, 7, 8, 9, 10, 11, 12, 13, 14, 15, 16, 17, 18, 19, 20, 21, 22, 23, 24, 25, 26, 27, 28, 29, 30, 31, 32], [0, 1, 2, 3, 4, 5, 6, 7, 8, 9, 10, 11, 12, 13, 14, 15, 16, 17, 18, 19, 20, 21, 22, 23, 24, 25, 26, 27, 28, 29, 30, 31, 32, 33]]) (val := [some (.int .i64 y430), some (.bool (decide (0 < y430))), some (.bool (decide (0 < y430))), some undef, some undef, some undef, some undef, some undef, some undef, some undef, some undef, some undef, some undef, some undef, some undef, some undef, some undef, some undef, some undef, some undef, some undef, some undef, some undef, some undef, some undef, some undef, some undef, some undef, some undef, some undef, some undef, some undef, some undef, some undef, some (.bool false)]) (eff := []) (mask := [[]]) (keys := [[]]) (src := [[.base 3], [.op 0], [.op 1], [.base 0, .op 2], [.base 3, .op 2], [.op 2, .op 4], [.op 2, .op 3, .op 5], [.op 2, .op 6], [.op 2, .op 7], [.base 4, .op 2], [.op 2, .op 9], [.op 2, .op 8, .op 10], [.op 2, .op 11], [.base 0, .op 12], [.base 3, .op 12], [.op 12, .op 14], [.op 12, .op 13, .op 15], [.op 12, .op 16], [.op 12, .op 17], [.base 4, .op 12], [.op 12, .op 19], [.op 12, .op 18, .op 20], [.op 12, .op 21], [.base 0, .op 22], [.base 3, .op 22], [.op 22, .op 24], [.op 22, .op 23, .op 25], [.op 22, .op 26], [.op 22, .op 27], [.base 4, .op 22], [.op 22, .op 29], [.op 22, .op 28, .op 30], [.op 12, .op 22, .op 31], [.op 2, .op 12, .op 32], [.op 2, .op 33]]) (z := z) (ef := fun p g => ([[]] : List (List (Nat × Value))).getD p []) (hi := fun _ _ => I) (rs := fun p g => ([Bl q579 60 [(.int .i64 x577.From), (.int .i64 x577.To), (.int .i64 x577.Cost)] :: r] : List (List Asn)).getD p []) [(0, 0), (1, 0), (2, 0), (3, 0), (4, 0), (5, 0), (6, 0), (7, 0), (8, 0), (9, 0), (10, 0), (11, 0), (12, 0), (13, 0), (14, 0), (15, 0), (16, 0), (17, 0), (18, 0), (19, 0), (20, 0), (21, 0), (22, 0), (23, 0), (24, 0), (25, 0), (26, 0), (27, 0), (28, 0), (29, 0), (30, 0), (31, 0), (32, 0), (33, 0), (34, 0)] [] [0, 1, 2, 3, 4, 5, 6, 7, 8, 9, 10, 11, 12, 13, 14, 15, 16, 17, 18, 19, 20, 21, 22, 23, 24, 25, 26, 27, 28, 29, 30, 31, 32, 33, 34] 0 mo hE () rfl H (by kernel_rfl) (by kernel_rfl) (fun p g => by cases p <;> rfl) ?_ ?_ (by kernel_rfl) (by kernel_rfl) ?_
                  · exact ⟨by intro a w g hE H; exact Dr.is H rfl (Dr.run rfl (d_move hE rfl)),
    by intro a w g hE H; exact Dr.is H rfl (Dr.run rfl (d_gtr hE rfl rfl)),
    by intro a w g hE H; exact Dr.is H rfl (Dr.run rfl (d_move hE rfl)),
    by intro a w g hE H; exact Dr.is H rfl (Dr.pG rfl hE rfl rfl (decide_eq_false c609) ⟨rfl, rfl⟩),
    by intro a w g hE H; exact Dr.is H rfl (Dr.pG rfl hE rfl rfl (decide_eq_false c609) ⟨rfl, rfl⟩),
    by intro a w g hE H; exact Dr.is H rfl (Dr.pG rfl hE rfl rfl (decide_eq_false c609) ⟨rfl, rfl⟩),
    by intro a w g hE H; exact Dr.is H rfl (Dr.pG rfl hE rfl rfl (decide_eq_false c609) ⟨rfl, rfl⟩),
    by intro a w g hE H; exact Dr.is H rfl (Dr.pG rfl hE rfl rfl (decide_eq_false c609) ⟨rfl, rfl⟩),
    by intro a w g hE H; exact Dr.is H rfl (Dr.pG rfl hE rfl rfl (decide_eq_false c609) ⟨rfl, rfl⟩),
    by intro a w g hE H; exact Dr.is H rfl (Dr.pG rfl hE rfl rfl (decide_eq_false c609) ⟨rfl, rfl⟩),
    by intro a w g hE H; exact Dr.is H rfl (Dr.pG rfl hE rfl rfl (decide_eq_false c609) ⟨rfl, rfl⟩),
    by intro a w g hE H; exact Dr.is H rfl (Dr.pG rfl hE rfl rfl (decide_eq_false c609) ⟨rfl, rfl⟩),
    by intro a w g hE H; exact Dr.is H rfl (Dr.pG rfl hE rfl rfl (decide_eq_false c609) ⟨rfl, rfl⟩),
    by intro a w g hE H; exact Dr.is H rfl (Dr.passU rfl hE rfl rfl ⟨rfl, rfl⟩),
    by intro a w g hE H; exact Dr.is H rfl (Dr.passU rfl hE rfl rfl ⟨rfl, rfl⟩),
    by intro a w g hE H; exact Dr.is H rfl (Dr.passU rfl hE rfl rfl ⟨rfl, rfl⟩),
    by intro a w g hE H; exact Dr.is H rfl (Dr.passU rfl hE rfl rfl ⟨rfl, rfl⟩),
    by intro a w g hE H; exact Dr.is H rfl (Dr.passU rfl hE rfl rfl ⟨rfl, rfl⟩),
    by intro a w g hE H; exact Dr.is H rfl (Dr.passU rfl hE rfl rfl ⟨rfl, rfl⟩),
    by intro a w g hE H; exact Dr.is H rfl (Dr.passU rfl hE rfl rfl ⟨rfl, rfl⟩),
    by intro a w g hE H; exact Dr.is H rfl (Dr.passU rfl hE rfl rfl ⟨rfl, rfl⟩),
    by intro a w g hE H; exact Dr.is H rfl (Dr.passU rfl hE rfl rfl ⟨rfl, rfl⟩),
    by intro a w g hE H; exact Dr.is H rfl (Dr.passU rfl hE rfl rfl ⟨rfl, rfl⟩),
    by intro a w g hE H; exact Dr.is H rfl (Dr.passU rfl hE rfl rfl ⟨rfl, rfl⟩),
    by intro a w g hE H; exact Dr.is H rfl (Dr.passU rfl hE rfl rfl ⟨rfl, rfl⟩),
    by intro a w g hE H; exact Dr.is H rfl (Dr.passU rfl hE rfl rfl ⟨rfl, rfl⟩),
    by intro a w g hE H; exact Dr.is H rfl (Dr.passU rfl hE rfl rfl ⟨rfl, rfl⟩),
    by intro a w g hE H; exact Dr.is H rfl (Dr.passU rfl hE rfl rfl ⟨rfl, rfl⟩),
    by intro a w g hE H; exact Dr.is H rfl (Dr.passU rfl hE rfl rfl ⟨rfl, rfl⟩),
    by intro a w g hE H; exact Dr.is H rfl (Dr.passU rfl hE rfl rfl ⟨rfl, rfl⟩),
    by intro a w g hE H; exact Dr.is H rfl (Dr.passU rfl hE rfl rfl ⟨rfl, rfl⟩),
    by intro a w g hE H; exact Dr.is H rfl (Dr.passU rfl hE rfl rfl ⟨rfl, rfl⟩),
    by intro a w g hE H; exact Dr.is H rfl (Dr.passU rfl hE rfl rfl ⟨rfl, rfl⟩),
    by intro a w g hE H; exact Dr.is H rfl (Dr.pG rfl hE rfl rfl (decide_eq_false c609) ⟨rfl, rfl⟩),
    by intro a w g hE H; exact Dr.is H rfl (Dr.run rfl (d_pF hE rfl (decide_eq_false c609) rfl)),
    trivial⟩
                  · trivial
                  · intro a w g hE H
                    have H : St z I w (Bl q579 60 [(.int .i64 x577.From), (.int .i64 x577.To), (.int .i64 x577.Cost)] :: r) := H
                    cases hm
                    have H := St.del H 0
                    exact ⟨hE.sub ⟨rfl, rfl, rfl, trivial⟩, H⟩
              · rintro a w ⟨hE, H⟩
                by_cases c619 : s608 = true
                · rw [if_pos c619] at hm
                  refine cT hE rfl c619 ?_
                  refine wp_seq ?_
                  refine wp_region_lit ?_
                  refine s1 hE rfl (d_assign hE rfl) fun a hE => ?_
                  refine wpList_nil ?_
                  refine wp_ret ?_
                  cases hm
                  have hm := hq525
                  simp only [Out.on] at hm
                  cases hm
                  exact ret1 rfl hE rfl ⟨_, rfl, rfl, H⟩
                · rw [if_neg c619] at hm
                  refine cF hE rfl (b_f c619) ?_
                  refine wp_skip ?_
                  refine wp_region_lit ?_
                  refine s1 hE rfl (d_move hE rfl) fun a hE => ?_
                  refine s1 hE rfl (d_add hE rfl rfl) fun a hE => ?_
                  refine s1 hE rfl (d_assign hE rfl) fun a hE => ?_
                  refine wpList_nil ?_
                  exact ⟨k, Nat.lt_succ_self k, IntKind.i64.wrap (y430 + 1), hm, hE.sub ⟨rfl, rfl, trivial⟩, H⟩
        · rw [if_neg c527] at hm
          refine cF hE rfl (decide_eq_false c527) ?_
          refine wp_exit ?_
          cases hm
          exact ⟨_, rfl, hE.sub trivial, H⟩
    · exact ⟨0, hj525, hE.sub ⟨rfl, rfl, trivial⟩, H⟩
  · rintro a w ⟨s525, rfl, hE, H⟩
    have hm := hq525
    simp only [Out.on] at hm
    refine wp_seq ?_
    refine wp_region_lit ?_
    refine s1 hE rfl (d_assign hE rfl) fun a hE => ?_
    refine wpList_nil ?_
    refine wp_ret ?_
    cases hm
    exact ret1 rfl hE rfl ⟨_, rfl, rfl, H⟩
def m36_l1 (a0 : List S_api_Arc) (y961 : Int) : Nat → Bool → Int → Option Bool
  | 0, _, _ => none
  | k + 1, b1328, y1329 => if y1329 < (a0.length : Int) then (Option.bind (α := Bool) (if b1328 = true then (some true) else (Option.bind (rdx a0 y1329) fun x1387 => if x1387.From = y961 then (some true) else (Option.bind (rdx a0 y1329) fun x1390 => some (decide (x1390.To = y961))))) fun s1385 => m36_l1 a0 y961 k s1385 (IntKind.i64.wrap (y1329 + 1))) else (some b1328)
def m36_l0 (a0 : List S_api_Arc) : Nat → (List Int) → Int → Option (List Int)
  | 0, _, _ => none
  | k + 1, l960, y961 => if y961 ≤ 64 then (Option.bind (m36_l1 a0 y961 k false 0) fun s1361 => Option.bind (α := (List Int)) (if s1361 = true then (Option.bind (appd 17592186044416 l960 ([y961])) fun l1410 => some l1410) else (some l960)) fun s1403 => m36_l0 a0 k s1403 (IntKind.i64.wrap (y961 + 1))) else (some l960)
def m36 (k : Nat) (a0 : List S_api_Arc) : Option (List Int) := Option.bind (m36_l0 a0 k [] 1) fun s1188 => some s1188
set_option maxRecDepth 20000 in
set_option maxHeartbeats 4000000 in
theorem f36_ok (k : Nat) {u0 : Value} (a0 : List S_api_Arc) {res : (List Int)} (hm : m36 k a0 = some res) {z w : World} {I : Hp} {r : List Asn} (hr0 : Rd c_api_Arc I r u0 a0) (H : St z I w (r)) :
    Calls Try.prog 36 #[u0] w (Rt fun v w' => ∃ v731 : Value, v = v731 ∧ St z I w' (OwnSl (cInt .i64) v731 res :: r)) := by
  unfold m36 at hm
  refine enter (args := [u0]) Try.func36 rfl Try.ntmps36 rfl fun a hE => ?_
  refine wp_seq ?_
  refine wp_region_lit ?_
  refine s1 hE rfl (d_assign hE rfl) fun a hE => ?_
  refine wpList_nil ?_
  refine wp_seq ?_
  refine wp_region_lit ?_
  refine s2 hE rfl (d_lit (c := (cInt .i64)) (xs := []) hE rfl (lit51_0) rfl rfl (fun J h iJ s => rows0) H) fun a v w hR hE => ?_
  obtain ⟨v734, rfl⟩ : ∃ x, x = v := ⟨v, rfl⟩
  have H : St z I w (OwnSl (cInt .i64) v734 [] :: r) := hR
  refine s1 hE rfl (d_assign hE rfl) fun a hE => ?_
  refine wpList_nil ?_
  refine wp_seq ?_
  refine wp_seq ?_
  refine wp_region_lit ?_
  refine s1 hE rfl (d_assign hE rfl) fun a hE => ?_
  refine wpList_nil ?_
  obtain ⟨s1188, hj1188, hm⟩ := bnd hm
  refine cut2 (fun a w => ∃ v1186 : Value, Env a 43 [(3, v1186)] ∧ St z I w (OwnSl (cInt .i64) v1186 s1188 :: r)) ?_ ?_
  · refine wp_block ?_
    refine loopI (fun k a w => ∃ l960 : List Int, ∃ y961 : Int, m36_l0 a0 k l960 y961 = some s1188 ∧ ∃ v959 : Value, Env a 43 [(0, u0), (3, v959), (4, (.int .i64 y961))] ∧ St z I w (OwnSl (cInt .i64) v959 l960 :: r)) ?_ k _ _ ?_
    · rintro k a w ⟨l960, y961, hm, v959, hE, H⟩
      cases k with
      | zero => rw [m36_l0] at hm; cases hm
      | succ k =>
        rw [m36_l0] at hm
        refine wp_seq ?_
        refine wp_seq ?_
        refine wp_region_lit ?_
        refine s1 hE rfl (d_move hE rfl) fun a hE => ?_
        refine s1 hE rfl (d_leq hE rfl rfl) fun a hE => ?_
        refine wpList_nil ?_
        by_cases c1190 : y961 ≤ 64
        · rw [if_pos c1190] at hm
          refine cT hE rfl (decide_eq_true c1190) ?_
          refine wp_skip ?_
          refine wp_seq ?_
          refine wp_block ?_
          refine wp_seq ?_
          refine wp_region_lit ?_
          refine s1 hE rfl (d_assign hE rfl) fun a hE => ?_
          refine wpList_nil ?_
          refine wp_seq ?_
          refine wp_seq ?_
          refine wp_region_lit ?_
          refine s1 hE rfl (d_assign hE rfl) fun a hE => ?_
          refine wpList_nil ?_
          obtain ⟨s1361, hj1361, hm⟩ := bnd hm
          refine cut2 (fun a w => Env a 43 [(0, u0), (3, v959), (4, (.int .i64 y961)), (5, (.bool s1361))] ∧ St z I w (OwnSl (cInt .i64) v959 l960 :: r)) ?_ ?_
          · refine wp_block ?_
            refine loopI (fun k a w => ∃ b1328 : Bool, ∃ y1329 : Int, m36_l1 a0 y961 k b1328 y1329 = some s1361 ∧ Env a 43 [(0, u0), (3, v959), (4, (.int .i64 y961)), (5, (.bool b1328)), (6, (.int .i64 y1329))] ∧ St z I w (OwnSl (cInt .i64) v959 l960 :: r)) ?_ k _ _ ?_
            · rintro k a w ⟨b1328, y1329, hm, hE, H⟩
              cases k with
              | zero => rw [m36_l1] at hm; cases hm
              | succ k =>
                rw [m36_l1] at hm
                refine wp_seq ?_
                refine wp_seq ?_
                refine wp_region_lit ?_
                refine s1 hE rfl (d_move hE rfl) fun a hE => ?_
                refine s1 hE rfl (d_move hE rfl) fun a hE => ?_
                refine s1 hE rfl (d_lenS Try.underlying55 hE rfl H (Rd.cons hr0)) fun a hE => ?_
                refine s1 hE rfl (d_lss hE rfl rfl) fun a hE => ?_
                refine wpList_nil ?_
                by_cases c1363 : y1329 < (a0.length : Int)
                · rw [if_pos c1363] at hm
                  refine cT hE rfl (decide_eq_true c1363) ?_
                  refine wp_skip ?_
                  refine wp_seq ?_
                  refine wp_block ?_
                  obtain ⟨s1385, hj1385, hm⟩ := bnd hm
                  refine cut2 (fun a w => Env a 43 [(0, u0), (3, v959), (4, (.int .i64 y961)), (5, (.bool s1385)), (6, (.int .i64 y1329))] ∧ St z I w (OwnSl (cInt .i64) v959 l960 :: r)) ?_ ?_
                  · have hm := hj1385
                    refine wp_region_lit ?_
                    refine s1 hE rfl (d_move hE rfl) fun a hE => ?_
                    refine s1 hE rfl (d_move hE rfl) fun a hE => ?_
                    by_cases c1386 : b1328 = true
                    · rw [if_pos c1386] at hm
                      refine gP hE rfl rfl rfl c1386 fun a hE => ?_
                      refine gP hE rfl rfl rfl c1386 fun a hE => ?_
                      refine gP hE rfl rfl rfl c1386 fun a hE => ?_
                      refine gP hE rfl rfl rfl c1386 fun a hE => ?_
                      refine gP hE rfl rfl rfl c1386 fun a hE => ?_
                      refine gP hE rfl rfl rfl c1386 fun a hE => ?_
                      refine gP hE rfl rfl rfl c1386 fun a hE => ?_
                      refine s1 hE rfl (d_pT hE rfl c1386 rfl) fun a hE => ?_
                      refine s1 hE rfl (d_move hE rfl) fun a hE => ?_
                      refine gP hE rfl rfl rfl rfl fun a hE => ?_
                      refine gP hE rfl rfl rfl rfl fun a hE => ?_
                      refine gP hE rfl rfl rfl rfl fun a hE => ?_
                      refine gP hE rfl rfl rfl rfl fun a hE => ?_
                      refine gP hE rfl rfl rfl rfl fun a hE => ?_
                      refine gP hE rfl rfl rfl rfl fun a hE => ?_
                      refine gP hE rfl rfl rfl rfl fun a hE => ?_
                      refine s1 hE rfl (d_pT hE rfl rfl rfl) fun a hE => ?_
                      refine s1 hE rfl (d_assign hE rfl) fun a hE => ?_
                      refine wpList_nil ?_
                      cases hm
                      exact ⟨hE.sub ⟨rfl, rfl, rfl, rfl, rfl, trivial⟩, H⟩
                    · rw [if_neg c1386] at hm
                      refine gR hE rfl rfl (b_f c1386) ?_
                      refine s1 hE rfl (d_move hE rfl) fun a hE => ?_
                      refine gR hE rfl rfl (b_f c1386) ?_
                      refine s1 hE rfl (d_move hE rfl) fun a hE => ?_
                      refine gR hE rfl rfl (b_f c1386) ?_
                      obtain ⟨x1387, hx1388, hm⟩ := bnd hm
                      refine s1 hE rfl (d_indexS sl55 hE rfl rfl H (Rd.cons hr0) hx1388) fun a hE => ?_
                      refine gR hE rfl rfl (b_f c1386) ?_
                      refine s1 hE rfl (d_fieldAddr fld60_0 hE rfl) fun a hE => ?_
                      refine gR hE rfl rfl (b_f c1386) ?_
                      refine s1 hE rfl (d_loadSf (j := 0) sc3 hE rfl H (Rd.cons hr0) hx1388 (fun _ _ e => by rw [e]; rfl)) fun a hE => ?_
                      refine gR hE rfl rfl (b_f c1386) ?_
                      refine s1 hE rfl (d_move hE rfl) fun a hE => ?_
                      refine gR hE rfl rfl (b_f c1386) ?_
                      refine s1 hE rfl (d_eql hE rfl rfl) fun a hE => ?_
                      refine s1 hE rfl (d_pF hE rfl (b_f c1386) rfl) fun a hE => ?_
                      refine s1 hE rfl (d_move hE rfl) fun a hE => ?_
                      by_cases c1389 : x1387.From = y961
                      · rw [if_pos c1389] at hm
                        refine gP hE rfl rfl rfl (decide_eq_true c1389) fun a hE => ?_
                        refine gP hE rfl rfl rfl (decide_eq_true c1389) fun a hE => ?_
                        refine gP hE rfl rfl rfl (decide_eq_true c1389) fun a hE => ?_
                        refine gP hE rfl rfl rfl (decide_eq_true c1389) fun a hE => ?_
                        refine gP hE rfl rfl rfl (decide_eq_true c1389) fun a hE => ?_
                        refine gP hE rfl rfl rfl (decide_eq_true c1389) fun a hE => ?_
                        refine gP hE rfl rfl rfl (decide_eq_true c1389) fun a hE => ?_
                        refine s1 hE rfl (d_pT hE rfl (decide_eq_true c1389) rfl) fun a hE => ?_
                        refine s1 hE rfl (d_assign hE rfl) fun a hE => ?_
                        refine wpList_nil ?_
                        cases hm
                        exact ⟨hE.sub ⟨rfl, rfl, rfl, rfl, rfl, trivial⟩, H⟩
                      · rw [if_neg c1389] at hm
                        refine gR hE rfl rfl (decide_eq_false c1389) ?_
                        refine s1 hE rfl (d_move hE rfl) fun a hE => ?_
                        refine gR hE rfl rfl (decide_eq_false c1389) ?_
                        refine s1 hE rfl (d_move hE rfl) fun a hE => ?_
                        refine gR hE rfl rfl (decide_eq_false c1389) ?_
                        obtain ⟨x1390, hx1391, hm⟩ := bnd hm
                        refine s1 hE rfl (d_indexS sl55 hE rfl rfl H (Rd.cons hr0) hx1391) fun a hE => ?_
                        refine gR hE rfl rfl (decide_eq_false c1389) ?_
                        refine s1 hE rfl (d_fieldAddr fld60_1 hE rfl) fun a hE => ?_
                        refine gR hE rfl rfl (decide_eq_false c1389) ?_
                        refine s1 hE rfl (d_loadSf (j := 1) sc3 hE rfl H (Rd.cons hr0) hx1391 (fun _ _ e => by rw [e]; rfl)) fun a hE => ?_
                        refine gR hE rfl rfl (decide_eq_false c1389) ?_
                        refine s1 hE rfl (d_move hE rfl) fun a hE => ?_
                        refine gR hE rfl rfl (decide_eq_false c1389) ?_
                        refine s1 hE rfl (d_eql hE rfl rfl) fun a hE => ?_
                        refine s1 hE rfl (d_pF hE rfl (decide_eq_false c1389) rfl) fun a hE => ?_
                        refine s1 hE rfl (d_assign hE rfl) fun a hE => ?_
                        refine wpList_nil ?_
                        cases hm
                        exact ⟨hE.sub ⟨rfl, rfl, rfl, rfl, rfl, trivial⟩, H⟩
                  · rintro a w ⟨hE, H⟩
                    refine wp_region_lit ?_
                    refine s1 hE rfl (d_move hE rfl) fun a hE => ?_
                    refine s1 hE rfl (d_add hE rfl rfl) fun a hE => ?_
                    refine s1 hE rfl (d_assign hE rfl) fun a hE => ?_
                    refine wpList_nil ?_
                    exact ⟨k, Nat.lt_succ_self k, s1385, IntKind.i64.wrap (y1329 + 1), hm, hE.sub ⟨rfl, rfl, rfl, rfl, rfl, trivial⟩, H⟩
                · rw [if_neg c1363] at hm
                  refine cF hE rfl (decide_eq_false c1363) ?_
                  refine wp_exit ?_
                  cases hm
                  exact ⟨hE.sub ⟨rfl, rfl, rfl, rfl, trivial⟩, H⟩
            · exact ⟨false, 0, hj1361, hE.sub ⟨rfl, rfl, rfl, rfl, rfl, trivial⟩, H⟩
          · rintro a w ⟨hE, H⟩
            refine wp_seq ?_
            refine wp_region_lit ?_
            refine s1 hE rfl (d_move hE rfl) fun a hE => ?_
            refine wpList_nil ?_
            obtain ⟨s1403, hj1403, hm⟩ := bnd hm
            refine cut2 (fun a w => ∃ v1401 : Value, Env a 43 [(0, u0), (3, v1401), (4, (.int .i64 y961))] ∧ St z I w (OwnSl (cInt .i64) v1401 s1403 :: r)) ?_ ?_
            · have hm := hj1403
              by_cases c1404 : s1361 = true
              · rw [if_pos c1404] at hm
                refine cT hE rfl c1404 ?_
                refine wp_region_lit ?_
                refine s1 hE rfl (d_move hE rfl) fun a hE => ?_
                refine s1 hE rfl (d_move hE rfl) fun a hE => ?_
                refine s2 hE rfl (d_lit (c := (cInt .i64)) (xs := [y961]) hE rfl (lit51_1 _) rfl rfl (fun J h iJ s => rowsC (cs := [(.int .i64 y961)]) rfl (rows0)) H) fun a v w hR hE => ?_
                obtain ⟨v1409, rfl⟩ : ∃ x, x = v := ⟨v, rfl⟩
                have H : St z I w (OwnSl (cInt .i64) v1409 ([y961]) :: OwnSl (cInt .i64) v959 l960 :: r) := hR
                obtain ⟨l1410, ha1411, hm⟩ := bnd hm
                have H := St.get H 1 rfl
                have H : St z I w (OwnSl (cInt .i64) v959 l960 :: OwnSl (cInt .i64) v1409 ([y961]) :: r) := H
                refine s2 hE rfl (d_appendO (lim := 17592186044416) el51 (by decide) (by decide) hE rfl rfl H ha1411) fun a v w hR hE => ?_
                obtain ⟨v1412, rfl⟩ : ∃ x, x = v := ⟨v, rfl⟩
                have H : St z I w (OwnSl (cInt .i64) v1412 l1410 :: r) := hR
                refine s1 hE rfl (d_assign hE rfl) fun a hE => ?_
                refine wpList_nil ?_
                cases hm
                exact ⟨v1412, hE.sub ⟨rfl, rfl, rfl, trivial⟩, H⟩
              · rw [if_neg c1404] at hm
                refine cF hE rfl (b_f c1404) ?_
                refine wp_skip ?_
                cases hm
                exact ⟨v959, hE.sub ⟨rfl, rfl, rfl, trivial⟩, H⟩
            · rintro a w ⟨v1401, hE, H⟩
              refine wp_region_lit ?_
              refine s1 hE rfl (d_move hE rfl) fun a hE => ?_
              refine s1 hE rfl (d_add hE rfl rfl) fun a hE => ?_
              refine s1 hE rfl (d_assign hE rfl) fun a hE => ?_
              refine wpList_nil ?_
              exact ⟨k, Nat.lt_succ_self k, s1403, IntKind.i64.wrap (y961 + 1), hm, v1401, hE.sub ⟨rfl, rfl, rfl, trivial⟩, H⟩
        · rw [if_neg c1190] at hm
          refine cF hE rfl (decide_eq_false c1190) ?_
          refine wp_exit ?_
          cases hm
          exact ⟨v959, hE.sub ⟨rfl, trivial⟩, H⟩
    · exact ⟨[], 1, hj1188, v734, hE.sub ⟨rfl, rfl, rfl, trivial⟩, H⟩
  · rintro a w ⟨v1186, hE, H⟩
    refine wp_seq ?_
    refine wp_region_lit ?_
    refine s1 hE rfl (d_move hE rfl) fun a hE => ?_
    refine s1 hE rfl (d_assign hE rfl) fun a hE => ?_
    refine wpList_nil ?_
    refine wp_ret ?_
    cases hm
    exact ret1 rfl hE rfl ⟨_, rfl, v1186, rfl, H⟩
def m37_l0 (a0 : List Int) (a1 : List Int) : Nat → Int → Option (Out Bool Unit)
  | 0, _ => none
  | k + 1, y146 => if y146 < (a0.length : Int) then (Option.bind (rdx a0 y146) fun x186 => Option.bind (rdx a1 y146) fun x188 => if x186 = x188 then (m37_l0 a0 a1 k (IntKind.i64.wrap (y146 + 1))) else (some (.ret false))) else (some (.go ()))
def m37 (k : Nat) (a0 : List Int) (a1 : List Int) : Option Bool := if (a0.length : Int) = (a1.length : Int) then (Option.bind (m37_l0 a0 a1 k 0) fun s169 => s169.on (fun q_ => some q_) fun s169 => some true) else (some false)
set_option maxRecDepth 20000 in
set_option maxHeartbeats 4000000 in
theorem f37_ok (k : Nat) {u0 : Value} (a0 : List Int) {u1 : Value} (a1 : List Int) {res : Bool} (hm : m37 k a0 a1 = some res) {z w : World} {I : Hp} {r : List Asn} (hr0 : Rd (cInt .i64) I r u0 a0) (hr1 : Rd (cInt .i64) I r u1 a1) (H : St z I w (r)) :
    Calls Try.prog 37 #[u0, u1] w (Rt fun v w' => v = (.bool res) ∧ St z I w' (r)) := by
  unfold m37 at hm
  refine enter (args := [u0, u1]) Try.func37 rfl Try.ntmps37 rfl fun a hE => ?_
  refine wp_seq ?_
  refine wp_region_lit ?_
  refine s1 hE rfl (d_assign hE rfl) fun a hE => ?_
  refine wpList_nil ?_
  refine wp_seq ?_
  refine wp_seq ?_
  refine wp_region_lit ?_
  refine s1 hE rfl (d_move hE rfl) fun a hE => ?_
  refine s1 hE rfl (d_lenS Try.underlying51 hE rfl H hr0) fun a hE => ?_
  refine s1 hE rfl (d_move hE rfl) fun a hE => ?_
  refine s1 hE rfl (d_lenS Try.underlying51 hE rfl H hr1) fun a hE => ?_
  refine s1 hE rfl (d_neq hE rfl rfl) fun a hE => ?_
  refine wpList_nil ?_
  by_cases c123 : (a0.length : Int) = (a1.length : Int)
  · rw [if_pos c123] at hm
    refine cF hE rfl (not_f (decide_eq_true c123)) ?_
    refine wp_skip ?_
    refine wp_seq ?_
    refine wp_seq ?_
    refine wp_region_lit ?_
    refine s1 hE rfl (d_assign hE rfl) fun a hE => ?_
    refine wpList_nil ?_
    obtain ⟨s169, hj169, hq169⟩ := bnd hm
    refine cut2 (fun a w => ∃ s_ : Unit, s169 = .go s_ ∧ Env a 26 [] ∧ St z I w (r)) ?_ ?_
    · refine wp_block ?_
      refine loopI (fun k a w => ∃ y146 : Int, m37_l0 a0 a1 k y146 = some s169 ∧ Env a 26 [(0, u0), (1, u1), (5, (.int .i64 y146))] ∧ St z I w (r)) ?_ k _ _ ?_
      · rintro k a w ⟨y146, hm, hE, H⟩
        cases k with
        | zero => rw [m37_l0] at hm; cases hm
        | succ k =>
          rw [m37_l0] at hm
          refine wp_seq ?_
          refine wp_seq ?_
          refine wp_region_lit ?_
          refine s1 hE rfl (d_move hE rfl) fun a hE => ?_
          refine s1 hE rfl (d_move hE rfl) fun a hE => ?_
          refine s1 hE rfl (d_lenS Try.underlying51 hE rfl H hr0) fun a hE => ?_
          refine s1 hE rfl (d_lss hE rfl rfl) fun a hE => ?_
          refine wpList_nil ?_
          by_cases c171 : y146 < (a0.length : Int)
          · rw [if_pos c171] at hm
            refine cT hE rfl (decide_eq_true c171) ?_
            refine wp_skip ?_
            refine wp_seq ?_
            refine wp_block ?_
            refine wp_seq ?_
            obtain ⟨x186, hx187, hm⟩ := bnd hm
            obtain ⟨x188, hx189, hm⟩ := bnd hm
            refine Dr.region (γ := Unit) (pre := [[], [], [0, 1], [0, 1, 2], [], [], [4, 5], [4, 5, 6], [0, 1, 2, 3, 4, 5, 6, 7]]) (val := [some u0, some (.int .i64 y146), some (.pointer (some (ad (sb u0) (so u0 + (Int.toNat y146) * (cInt .i64).n)))), some (.int .i64 x186), some u1, some (.int .i64 y146), some (.pointer (some (ad (sb u1) (so u1 + (Int.toNat y146) * (cInt .i64).n)))), some (.int .i64 x188), some (.bool (!(decide (x186 = x188))))]) (eff := []) (mask := [[]]) (keys := [[]]) (src := [[.base 0], [.base 5], [.op 0, .op 1], [.op 2], [.base 1], [.base 5], [.op 4, .op 5], [.op 6], [.op 3, .op 7]]) (z := z) (ef := fun p g => ([[]] : List (List (Nat × Value))).getD p []) (hi := fun _ _ => I) (rs := fun p g => ([r] : List (List Asn)).getD p []) [(0, 0), (1, 0), (2, 0), (3, 0), (4, 0), (5, 0), (6, 0), (7, 0), (8, 0)] [] [0, 1, 2, 3, 4, 5, 6, 7, 8] 0 mo hE () rfl H (by kernel_rfl) (by kernel_rfl) (fun p g => by cases p <;> rfl) ?_ ?_ (by kernel_rfl) (by kernel_rfl) ?_
            · exact ⟨by intro a w g hE H; exact Dr.is H rfl (Dr.run rfl (d_move hE rfl)),
    by intro a w g hE H; exact Dr.is H rfl (Dr.run rfl (d_move hE rfl)),
    by intro a w g hE H; exact Dr.is H rfl (Dr.run rfl (d_indexS sl51 hE rfl rfl H hr0 hx187)),
    by intro a w g hE H; exact Dr.is H rfl (Dr.run rfl (d_loadS1 sc3 hE rfl H hr0 hx187 (fun _ _ e => e))),
    by intro a w g hE H; exact Dr.is H rfl (Dr.run rfl (d_move hE rfl)),
    by intro a w g hE H; exact Dr.is H rfl (Dr.run rfl (d_move hE rfl)),
    by intro a w g hE H; exact Dr.is H rfl (Dr.run rfl (d_indexS sl51 hE rfl rfl H hr1 hx189)),
    by intro a w g hE H; exact Dr.is H rfl (Dr.run rfl (d_loadS1 sc3 hE rfl H hr1 hx189 (fun _ _ e => e))),
    by intro a w g hE H; exact Dr.is H rfl (Dr.run rfl (d_neq hE rfl rfl)),
    trivial⟩
            · trivial
            · intro a w g hE H
              have H : St z I w (r) := H
              by_cases c191 : x186 = x188
              · rw [if_pos c191] at hm
                refine cF hE rfl (not_f (decide_eq_true c191)) ?_
                refine wp_skip ?_
                refine wp_region_lit ?_
                refine s1 hE rfl (d_move hE rfl) fun a hE => ?_
                refine s1 hE rfl (d_add hE rfl rfl) fun a hE => ?_
                refine s1 hE rfl (d_assign hE rfl) fun a hE => ?_
                refine wpList_nil ?_
                exact ⟨k, Nat.lt_succ_self k, IntKind.i64.wrap (y146 + 1), hm, hE.sub ⟨rfl, rfl, rfl, trivial⟩, H⟩
              · rw [if_neg c191] at hm
                refine cT hE rfl (not_t (decide_eq_false c191)) ?_
                refine wp_seq ?_
                refine wp_region_lit ?_
                refine s1 hE rfl (d_assign hE rfl) fun a hE => ?_
                refine wpList_nil ?_
                refine wp_ret ?_
                cases hm
                have hm := hq169
                simp only [Out.on] at hm
                cases hm
                exact ret1 rfl hE rfl ⟨_, rfl, rfl, H⟩
          · rw [if_neg c171] at hm
            refine cF hE rfl (decide_eq_false c171) ?_
            refine wp_exit ?_
            cases hm
            exact ⟨_, rfl, hE.sub trivial, H⟩
      · exact ⟨0, hj169, hE.sub ⟨rfl, rfl, rfl, trivial⟩, H⟩
    · rintro a w ⟨s169, rfl, hE, H⟩
      have hm := hq169
      simp only [Out.on] at hm
      refine wp_seq ?_
      refine wp_region_lit ?_
      refine s1 hE rfl (d_assign hE rfl) fun a hE => ?_
      refine wpList_nil ?_
      refine wp_ret ?_
      cases hm
      exact ret1 rfl hE rfl ⟨_, rfl, rfl, H⟩
  · rw [if_neg c123] at hm
    refine cT hE rfl (not_t (decide_eq_false c123)) ?_
    refine wp_seq ?_
    refine wp_region_lit ?_
    refine s1 hE rfl (d_assign hE rfl) fun a hE => ?_
    refine wpList_nil ?_
    refine wp_ret ?_
    cases hm
    exact ret1 rfl hE rfl ⟨_, rfl, rfl, H⟩
def m146  : Option Int := some 18446744073709551615
set_option maxRecDepth 20000 in
set_option maxHeartbeats 4000000 in
theorem f146_ok  {res : Int} (hm : m146 = some res) {z w : World} {I : Hp} {r : List Asn}  (H : St z I w (r)) :
    Calls Try.prog 146 #[] w (Rt fun v w' => v = (.int .u64 res) ∧ St z I w' (r)) := by
  unfold m146 at hm
  refine enter (args := []) Try.func146 rfl Try.ntmps146 rfl fun a hE => ?_
  refine wp_seq ?_
  refine wp_region_lit ?_
  refine s1 hE rfl (d_assign hE rfl) fun a hE => ?_
  refine wpList_nil ?_
  refine wp_seq ?_
  refine wp_region_lit ?_
  refine s1 hE rfl (d_assign hE rfl) fun a hE => ?_
  refine wpList_nil ?_
  refine wp_ret ?_
  cases hm
  exact ret1 rfl hE rfl ⟨_, rfl, rfl, H⟩
end Go.Proofs.Ytbielnhpfbhkgaa
