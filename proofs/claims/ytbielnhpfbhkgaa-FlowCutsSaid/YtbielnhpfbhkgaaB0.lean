/- Functions and what their calls do, by program (gen.py). -/
import Derived.Test.YtbielnhpfbhkgaaSl9
import Derived.Test.YtbielnhpfbhkgaaProg
import Derived.Test.YtbielnhpfbhkgaaShelfB
set_option linter.unusedVariables false
set_option linter.unusedSimpArgs false
namespace Go.Proofs.Ytbielnhpfbhkgaa
open Go Go.RowKit
theorem mo : Try.prog.follows .mixedOrders = true := by kernel_rfl
structure S_api_Arc where
  From : Int
  To : Int
  Cost : Int
def c_api_Arc : Cod S_api_Arc := Cod.flat 3 (fun x => [(.int .i64 x.From), (.int .i64 x.To), (.int .i64 x.Cost)]) (fun _ => rfl) (by intro x v hv; simp at hv; rcases hv with rfl | rfl | rfl <;> rfl)
theorem c157 : Callable Try.prog 157 := ⟨Try.f157, Try.func157, by kernel_rfl, by kernel_rfl⟩
theorem sl51 : Slc Try.prog 51 3 1 := ⟨Try.underlying51, fun w => by kernel_rfl⟩
theorem sc3 : Scal Try.prog 3 := fun w => ⟨by kernel_rfl, by kernel_rfl⟩
theorem fld60_0 : Fld Try.prog 60 0 0 := fun p w => by kernel_rfl
theorem c103 : Callable Try.prog 103 := ⟨Try.f103, Try.func103, by kernel_rfl, by kernel_rfl⟩
theorem fld60_1 : Fld Try.prog 60 1 1 := fun p w => by kernel_rfl
theorem lit51_2 (x0 : Int) (x1 : Int) : ∀ w : World, (Instr.buildSlice 51 2 (List.toArray [(0, (.int .i64 x0)), (1, (.int .i64 x1))])).run Try.prog w = .ok (.slice (some (ad w.heap.size 0)) 2 2) (w.alloc (.cells (List.toArray [(.int .i64 x0), (.int .i64 x1)]) 3)) := fun w => by kernel_rfl
theorem c102 : Callable Try.prog 102 := ⟨Try.f102, Try.func102, by kernel_rfl, by kernel_rfl⟩
theorem sl55 : Slc Try.prog 55 60 3 := ⟨Try.underlying55, fun w => by kernel_rfl⟩
theorem ag60 : Aggr Try.prog 60 3 := fun w => ⟨by kernel_rfl, by kernel_rfl⟩
theorem al60 : ∀ w : World, (Instr.alloc 60 true (.tuple #[])).run Try.prog w = .ok (.pointer (some (ad w.heap.size 0))) (w.alloc (.cells (List.toArray [(.int .i64 0), (.int .i64 0), (.int .i64 0)]) 60)) := fun w => by kernel_rfl
theorem sz60 : ∀ w : World, (sizeOf 60).run Try.prog w = .ok 3 w := fun w => by kernel_rfl
theorem c154 : Callable Try.prog 154 := ⟨Try.f154, Try.func154, by kernel_rfl, by kernel_rfl⟩
theorem fld60_2 : Fld Try.prog 60 2 2 := fun p w => by kernel_rfl
theorem c155 : Callable Try.prog 155 := ⟨Try.f155, Try.func155, by kernel_rfl, by kernel_rfl⟩
theorem c98 : Callable Try.prog 98 := ⟨Try.f98, Try.func98, by kernel_rfl, by kernel_rfl⟩
theorem c104 : Callable Try.prog 104 := ⟨Try.f104, Try.func104, by kernel_rfl, by kernel_rfl⟩
theorem k104 {b : Nat} {z w : World} {I : Hp} {r : List Asn} (H : St z I w r) : Calls Try.prog 104 #[.map (some b)] w (Rt fun v w' => ∃ q, v = .func (.func 158) #[] #[.pointer (some (ad q 0))] ∧ St z I w' (Bl q 158 [.map (some b)] :: r)) := by
  have cK : CallsIn Fence.wide 5 Try.prog 104 #[.map (some b)] w fun e w' => e = .returned (.func (.func 158) #[] #[.pointer (some ⟨w.heap.size, 0, none⟩)]) ∧ w' = w.alloc (.cells #[.map (some b)] 158) := AnyZI.keys_in Try.keys104 Fence.wide 5 trivial rfl (some b) w
  refine Calls.mono ((callsIn_wide (n := 5)).1 cK) fun e w' h => ?_
  obtain ⟨rfl, rfl⟩ := h
  exact ⟨_, rfl, _, rfl, H.alloc _⟩
theorem c75 : Callable Try.prog 75 := ⟨Try.f75, Try.func75, by kernel_rfl, by kernel_rfl⟩
theorem sorts75 (m : Nat) : AnyZI.SortsIn Try.prog Try.sorted75_ren Fence.wide m :=
  ⟨fun blk off cap ss W hH hblk hsz => callsIn_wide.2 (AnyM.slices_Sort_int Try.sort119 blk off cap ss W hH hblk hsz), fun p cap W => callsIn_wide.2 (AnyM.slices_Sort_int_none Try.sort119 p cap W)⟩
theorem s75_158 {α : Type} {c : Cod α} {g : Bool} {b q : Nat} {m : List (Int × α)} {res : List Int} (hm : skeys m = some res) {z w : World} {I : Hp} {r : List Asn} (H : St z I w r) (i : Nat) (hi : r[i]? = some (Bl q 158 [.map (some b)])) (j : Nat) (hj : r[j]? = some (MapR c g b m)) :
    Calls Try.prog 75 #[.func (.func 158) #[] #[.pointer (some (ad q 0))]] w (Rt fun v w' => St z I w' (OwnSl (cInt .i64) v res :: r)) := by
  obtain ⟨rfl, hl, hw⟩ := skeys_some hm
  obtain ⟨D0, hown, hperm, hsize⟩ := H.ownsMap (kt := 3) Try.underlying3 j hj hl hw
  have hq := H.ob i hi
  have hseq : SeqGives Fence.wide 2 Try.prog 158 #[.pointer (some ⟨q, 0, none⟩)] encZ (fun ss => ss.Perm (intKeys D0)) (Maps.size D0) w :=
    AnyZI.keys_gives (ρ := Try.keys104_ren) { Try.keys104 with } Fence.wide _ trivial rfl (by omega) q b m.length D0 (R := Rtriv) w (Array.getElem?_eq_some_iff.1 hq).1 (by simp [World.cell?, hq]) hown
  have cS := AnyZI.sorted_in Try.sorted75 Fence.wide 5 trivial trivial trivial trivial rfl (by omega) (sorts75 _) (enters_of Try.func119 (by kernel_rfl) rfl) 158 #[.pointer (some ⟨q, 0, none⟩)] trivial (enters_of Try.func158 (by kernel_rfl) rfl) _ _ (by rw [hsize]; exact Nat.le_trans hl (by decide)) (by rw [hsize]; omega) _ hseq
  change CallsIn _ _ Try.prog 75 _ _ _ at cS
  refine Calls.mono ((callsIn_wide (n := 5)).1 cS) fun e w' h => ?_
  obtain ⟨v, ss, rfl, hS, hrow, _, hb⟩ := h
  refine ⟨v, rfl, ?_⟩
  have he : (ss.mergeSort fun x y => decide (x ≤ y)) = sortZ (mkeys m) := sortZ_perm (hS.trans hperm)
  rw [he] at hrow
  exact H.newRow hb hrow
theorem c149 : Callable Try.prog 149 := ⟨Try.f149, Try.func149, by kernel_rfl, by kernel_rfl⟩
theorem lit51_0  : ∀ w : World, (Instr.buildSlice 51 0 (List.toArray [])).run Try.prog w = .ok (.slice (some (ad w.heap.size 0)) 0 0) (w.alloc (.cells (List.toArray []) 3)) := fun w => by kernel_rfl
theorem lit51_1 (x0 : Int) : ∀ w : World, (Instr.buildSlice 51 1 (List.toArray [(0, (.int .i64 x0))])).run Try.prog w = .ok (.slice (some (ad w.heap.size 0)) 1 1) (w.alloc (.cells (List.toArray [(.int .i64 x0)]) 3)) := fun w => by kernel_rfl
theorem el51 : Elt Try.prog 51 3 1 8 := ⟨Try.underlying51, by kernel_rfl, by decide⟩
theorem c146 : Callable Try.prog 146 := ⟨Try.f146, Try.func146, by kernel_rfl, by kernel_rfl⟩
def m157 (a0 : Int) : Option Bool := some (!(decide (a0 = a0)))
set_option maxRecDepth 20000 in
set_option maxHeartbeats 4000000 in
theorem f157_ok (a0 : Int) {res : Bool} (hm : m157 a0 = some res) {z w : World} {I : Hp} {r : List Asn}  (H : St z I w (r)) :
    Calls Try.prog 157 #[(.int .i64 a0)] w (Rt fun v w' => v = (.bool res) ∧ St z I w' (r)) := by
  have hI := Hp.le_refl I
  unfold m157 at hm
  refine enter (args := [(.int .i64 a0)]) Try.func157 rfl Try.ntmps157 rfl fun a hE => ?_
  refine wp_seq ?_
  refine wp_region_lit ?_
  refine s1 hE rfl (d_assign hE rfl) fun a hE => ?_
  refine wpList_nil ?_
  refine wp_seq ?_
  refine wp_region_lit ?_
  refine s1 hE rfl (d_move hE rfl) fun a hE => ?_
  refine s1 hE rfl (d_move hE rfl) fun a hE => ?_
  refine s1 hE rfl (d_neq hE rfl rfl) fun a hE => ?_
  refine s1 hE rfl (d_assign hE rfl) fun a hE => ?_
  refine wpList_nil ?_
  refine wp_ret ?_
  cases hm
  exact ret1 rfl hE rfl ⟨_, rfl, rfl, H⟩
def m154 (a0 : Int) : Option Bool := Option.bind (α := Bool) (if 1 ≤ a0 then (some (decide (a0 ≤ 64))) else (some false)) fun s8 => some s8
set_option maxRecDepth 20000 in
set_option maxHeartbeats 4000000 in
theorem f154_ok (a0 : Int) {res : Bool} (hm : m154 a0 = some res) {z w : World} {I : Hp} {r : List Asn}  (H : St z I w (r)) :
    Calls Try.prog 154 #[(.int .i64 a0)] w (Rt fun v w' => v = (.bool res) ∧ St z I w' (r)) := by
  have hI := Hp.le_refl I
  unfold m154 at hm
  refine enter (args := [(.int .i64 a0)]) Try.func154 rfl Try.ntmps154 rfl fun a hE => ?_
  refine wp_seq ?_
  refine wp_region_lit ?_
  refine s1 hE rfl (d_assign hE rfl) fun a hE => ?_
  refine wpList_nil ?_
  refine wp_seq ?_
  obtain ⟨s8, hj8, hm⟩ := bnd hm
  refine cut2 (fun a w => Env a 9 [(2, (.bool s8))] ∧ St z I w (r)) ?_ ?_
  · have hm := hj8
    refine wp_region_lit ?_
    refine s1 hE rfl (d_move hE rfl) fun a hE => ?_
    refine s1 hE rfl (d_geq hE rfl rfl) fun a hE => ?_
    refine s1 hE rfl (d_move hE rfl) fun a hE => ?_
    by_cases c9 : 1 ≤ a0
    · rw [if_pos c9] at hm
      refine gR hE rfl rfl (decide_eq_true c9) ?_
      refine s1 hE rfl (d_move hE rfl) fun a hE => ?_
      refine gR hE rfl rfl (decide_eq_true c9) ?_
      refine s1 hE rfl (d_leq hE rfl rfl) fun a hE => ?_
      refine s1 hE rfl (d_pT hE rfl (decide_eq_true c9) rfl) fun a hE => ?_
      refine s1 hE rfl (d_assign hE rfl) fun a hE => ?_
      refine wpList_nil ?_
      cases hm
      exact ⟨hE.sub ⟨rfl, trivial⟩, H⟩
    · rw [if_neg c9] at hm
      refine gP hE rfl rfl rfl (decide_eq_false c9) fun a hE => ?_
      refine gP hE rfl rfl rfl (decide_eq_false c9) fun a hE => ?_
      refine s1 hE rfl (d_pF hE rfl (decide_eq_false c9) rfl) fun a hE => ?_
      refine s1 hE rfl (d_assign hE rfl) fun a hE => ?_
      refine wpList_nil ?_
      cases hm
      exact ⟨hE.sub ⟨rfl, trivial⟩, H⟩
  · rintro a w ⟨hE, H⟩
    refine wp_ret ?_
    cases hm
    exact ret1 rfl hE rfl ⟨_, rfl, rfl, H⟩
def m103 (a0 : Int) (a1 : Int) : Option Int := Option.bind (m157 a0) fun x24 => Option.bind (m157 a1) fun x28 => if x24 = true then (if x28 = true then (some 0) else (some (-1))) else (if x28 = true then (some 1) else (if a0 < a1 then (some (-1)) else (if a1 < a0 then (some 1) else (some 0))))
set_option maxRecDepth 20000 in
set_option maxHeartbeats 4000000 in
theorem f103_ok (a0 : Int) (a1 : Int) {res : Int} (hm : m103 a0 a1 = some res) {z w : World} {I : Hp} {r : List Asn}  (H : St z I w (r)) :
    Calls Try.prog 103 #[(.int .i64 a0), (.int .i64 a1)] w (Rt fun v w' => v = (.int .i64 res) ∧ St z I w' (r)) := by
  have hI := Hp.le_refl I
  unfold m103 at hm
  refine enter (args := [(.int .i64 a0), (.int .i64 a1)]) Try.func103 rfl Try.ntmps103 rfl fun a hE => ?_
  refine wp_seq ?_
  refine wp_region_lit ?_
  refine s1 hE rfl (d_assign hE rfl) fun a hE => ?_
  refine wpList_nil ?_
  refine wp_seq ?_
  refine wp_region_lit ?_
  refine s1 hE rfl (d_move hE rfl) fun a hE => ?_
  obtain ⟨x24, hc25, hm⟩ := bnd hm
  refine s2 hE rfl (d_call c157 hE rfl (f157_ok a0 hc25  H)) fun a v w hR hE => ?_
  obtain ⟨rfl, H⟩ := hR
  refine s1 hE rfl (d_assign hE rfl) fun a hE => ?_
  refine wpList_nil ?_
  refine wp_seq ?_
  refine wp_region_lit ?_
  refine s1 hE rfl (d_move hE rfl) fun a hE => ?_
  obtain ⟨x28, hc29, hm⟩ := bnd hm
  refine s2 hE rfl (d_call c157 hE rfl (f157_ok a1 hc29  H)) fun a v w hR hE => ?_
  obtain ⟨rfl, H⟩ := hR
  refine s1 hE rfl (d_assign hE rfl) fun a hE => ?_
  refine wpList_nil ?_
  refine wp_seq ?_
  refine wp_seq ?_
  refine wp_region_lit ?_
  refine s1 hE rfl (d_move hE rfl) fun a hE => ?_
  refine wpList_nil ?_
  by_cases c33 : x24 = true
  · rw [if_pos c33] at hm
    refine cT hE rfl c33 ?_
    refine wp_seq ?_
    refine wp_seq ?_
    refine wp_region_lit ?_
    refine s1 hE rfl (d_move hE rfl) fun a hE => ?_
    refine wpList_nil ?_
    by_cases c35 : x28 = true
    · rw [if_pos c35] at hm
      refine cT hE rfl c35 ?_
      refine wp_seq ?_
      refine wp_region_lit ?_
      refine s1 hE rfl (d_assign hE rfl) fun a hE => ?_
      refine wpList_nil ?_
      refine wp_ret ?_
      cases hm
      exact ret1 rfl hE rfl ⟨_, rfl, rfl, H⟩
    · rw [if_neg c35] at hm
      refine cF hE rfl (b_f c35) ?_
      refine wp_skip ?_
      refine wp_seq ?_
      refine wp_region_lit ?_
      refine s1 hE rfl (d_assign hE rfl) fun a hE => ?_
      refine wpList_nil ?_
      refine wp_ret ?_
      cases hm
      exact ret1 rfl hE rfl ⟨_, rfl, rfl, H⟩
  · rw [if_neg c33] at hm
    refine cF hE rfl (b_f c33) ?_
    refine wp_skip ?_
    refine wp_seq ?_
    refine wp_seq ?_
    refine wp_region_lit ?_
    refine s1 hE rfl (d_move hE rfl) fun a hE => ?_
    refine wpList_nil ?_
    by_cases c37 : x28 = true
    · rw [if_pos c37] at hm
      refine cT hE rfl c37 ?_
      refine wp_seq ?_
      refine wp_region_lit ?_
      refine s1 hE rfl (d_assign hE rfl) fun a hE => ?_
      refine wpList_nil ?_
      refine wp_ret ?_
      cases hm
      exact ret1 rfl hE rfl ⟨_, rfl, rfl, H⟩
    · rw [if_neg c37] at hm
      refine cF hE rfl (b_f c37) ?_
      refine wp_skip ?_
      refine wp_seq ?_
      refine wp_seq ?_
      refine wp_region_lit ?_
      refine s1 hE rfl (d_move hE rfl) fun a hE => ?_
      refine s1 hE rfl (d_move hE rfl) fun a hE => ?_
      refine s1 hE rfl (d_lss hE rfl rfl) fun a hE => ?_
      refine wpList_nil ?_
      by_cases c39 : a0 < a1
      · rw [if_pos c39] at hm
        refine cT hE rfl (decide_eq_true c39) ?_
        refine wp_seq ?_
        refine wp_region_lit ?_
        refine s1 hE rfl (d_assign hE rfl) fun a hE => ?_
        refine wpList_nil ?_
        refine wp_ret ?_
        cases hm
        exact ret1 rfl hE rfl ⟨_, rfl, rfl, H⟩
      · rw [if_neg c39] at hm
        refine cF hE rfl (decide_eq_false c39) ?_
        refine wp_skip ?_
        refine wp_seq ?_
        refine wp_seq ?_
        refine wp_region_lit ?_
        refine s1 hE rfl (d_move hE rfl) fun a hE => ?_
        refine s1 hE rfl (d_move hE rfl) fun a hE => ?_
        refine s1 hE rfl (d_gtr hE rfl rfl) fun a hE => ?_
        refine wpList_nil ?_
        by_cases c41 : a1 < a0
        · rw [if_pos c41] at hm
          refine cT hE rfl (decide_eq_true c41) ?_
          refine wp_seq ?_
          refine wp_region_lit ?_
          refine s1 hE rfl (d_assign hE rfl) fun a hE => ?_
          refine wpList_nil ?_
          refine wp_ret ?_
          cases hm
          exact ret1 rfl hE rfl ⟨_, rfl, rfl, H⟩
        · rw [if_neg c41] at hm
          refine cF hE rfl (decide_eq_false c41) ?_
          refine wp_skip ?_
          refine wp_seq ?_
          refine wp_region_lit ?_
          refine s1 hE rfl (d_assign hE rfl) fun a hE => ?_
          refine wpList_nil ?_
          refine wp_ret ?_
          cases hm
          exact ret1 rfl hE rfl ⟨_, rfl, rfl, H⟩
def m102_l0 (a0 : List Int) : Nat → Int → Option (Out Int Unit)
  | 0, _ => none
  | k + 1, y60 => if y60 < (a0.length : Int) then (Option.bind (rdx a0 y60) fun x86 => if x86 = 0 then (m102_l0 a0 k (IntKind.i64.wrap (y60 + 1))) else (some (.ret x86))) else (some (.go ()))
def m102 (k : Nat) (a0 : List Int) : Option Int := Option.bind (m102_l0 a0 k 0) fun s75 => s75.on (fun q_ => some q_) fun s75 => some 0
set_option maxRecDepth 20000 in
set_option maxHeartbeats 4000000 in
theorem f102_ok (k : Nat) {u0 : Value} (a0 : List Int) {res : Int} (hm : m102 k a0 = some res) {z w : World} {I : Hp} {r : List Asn} (hr0 : Rd (cInt .i64) z I r u0 a0) (H : St z I w (r)) :
    Calls Try.prog 102 #[u0] w (Rt fun v w' => v = (.int .i64 res) ∧ St z I w' (r)) := by
  have hI := Hp.le_refl I
  unfold m102 at hm
  refine enter (args := [u0]) Try.func102 rfl Try.ntmps102 rfl fun a hE => ?_
  refine wp_seq ?_
  refine wp_region_lit ?_
  refine s1 hE rfl (d_assign hE rfl) fun a hE => ?_
  refine wpList_nil ?_
  refine wp_seq ?_
  refine wp_region_lit ?_
  refine s1 hE rfl (d_assign hE rfl) fun a hE => ?_
  refine wpList_nil ?_
  refine wp_seq ?_
  refine wp_seq ?_
  refine wp_region_lit ?_
  refine s1 hE rfl (d_move hE rfl) fun a hE => ?_
  refine s1 hE rfl (d_lenS Try.underlying51 hE rfl (Rd.st hr0 hI H)) fun a hE => ?_
  refine s1 hE rfl (d_move hE rfl) fun a hE => ?_
  refine wpList_nil ?_
  obtain ⟨s75, hj75, hq75⟩ := bnd hm
  refine cut2 (fun a w => ∃ s_ : Unit, s75 = .go s_ ∧ Env a 18 [(3, (.int .i64 0))] ∧ St z I w (r)) ?_ ?_
  · refine wp_block ?_
    refine loopI (fun k a w => ∃ y60 : Int, m102_l0 a0 k y60 = some s75 ∧ Env a 18 [(3, (.int .i64 0)), (6, u0), (7, (.int .i64 (a0.length : Int))), (8, (.int .i64 y60))] ∧ St z I w (r)) ?_ k _ _ ?_
    · rintro k a w ⟨y60, hm, hE, H⟩
      cases k with
      | zero => rw [m102_l0] at hm; cases hm
      | succ k =>
        rw [m102_l0] at hm
        refine wp_seq ?_
        refine wp_region_lit ?_
        refine s1 hE rfl (d_lss hE rfl rfl) fun a hE => ?_
        refine wpList_nil ?_
        refine wp_seq ?_
        by_cases c77 : y60 < (a0.length : Int)
        · rw [if_pos c77] at hm
          refine cT hE rfl (decide_eq_true c77) ?_
          refine wp_skip ?_
          refine wp_seq ?_
          refine wp_block ?_
          refine wp_seq ?_
          refine wp_region_lit ?_
          obtain ⟨x86, hx87, hm⟩ := bnd hm
          refine s1 hE rfl (d_indexS sl51 hE rfl rfl (Rd.st hr0 hI H) hx87) fun a hE => ?_
          refine s1 hE rfl (d_loadS1 sc3 hE rfl (Rd.st hr0 hI H) hx87 (fun _ e => e)) fun a hE => ?_
          refine s1 hE rfl (d_assign hE rfl) fun a hE => ?_
          refine wpList_nil ?_
          refine wp_seq ?_
          refine wp_region_lit ?_
          refine s1 hE rfl (d_move hE rfl) fun a hE => ?_
          refine s1 hE rfl (d_move hE rfl) fun a hE => ?_
          refine s1 hE rfl (d_neq hE rfl rfl) fun a hE => ?_
          refine wpList_nil ?_
          by_cases c89 : x86 = 0
          · rw [if_pos c89] at hm
            refine cF hE rfl (not_f (decide_eq_true c89)) ?_
            refine wp_skip ?_
            refine wp_region_lit ?_
            refine s1 hE rfl (d_add hE rfl rfl) fun a hE => ?_
            refine s1 hE rfl (d_move hE rfl) fun a hE => ?_
            refine wpList_nil ?_
            exact ⟨k, Nat.lt_succ_self k, IntKind.i64.wrap (y60 + 1), hm, hE.sub ⟨rfl, rfl, rfl, rfl, trivial⟩, H⟩
          · rw [if_neg c89] at hm
            refine cT hE rfl (not_t (decide_eq_false c89)) ?_
            refine wp_seq ?_
            refine wp_region_lit ?_
            refine s1 hE rfl (d_move hE rfl) fun a hE => ?_
            refine s1 hE rfl (d_assign hE rfl) fun a hE => ?_
            refine wpList_nil ?_
            refine wp_ret ?_
            cases hm
            have hm := hq75
            simp only [Out.on] at hm
            cases hm
            exact ret1 rfl hE rfl ⟨_, rfl, rfl, H⟩
        · rw [if_neg c77] at hm
          refine cF hE rfl (decide_eq_false c77) ?_
          refine wp_exit ?_
          cases hm
          exact ⟨_, rfl, hE.sub ⟨rfl, trivial⟩, H⟩
    · exact ⟨0, hj75, hE.sub ⟨rfl, rfl, rfl, rfl, trivial⟩, H⟩
  · rintro a w ⟨s75, rfl, hE, H⟩
    have hm := hq75
    simp only [Out.on] at hm
    refine wp_seq ?_
    refine wp_region_lit ?_
    refine s1 hE rfl (d_move hE rfl) fun a hE => ?_
    refine s1 hE rfl (d_assign hE rfl) fun a hE => ?_
    refine wpList_nil ?_
    refine wp_ret ?_
    cases hm
    exact ret1 rfl hE rfl ⟨_, rfl, rfl, H⟩
def m155 (k : Nat) (a0 : S_api_Arc) (a1 : S_api_Arc) : Option Int := Option.bind (m103 a0.From a1.From) fun x31 => Option.bind (m103 a0.To a1.To) fun x33 => Option.bind (m102 k ([x31, x33])) fun x36 => some x36
set_option maxRecDepth 20000 in
set_option maxHeartbeats 4000000 in
theorem f155_ok (k : Nat) (a0 : S_api_Arc) (a1 : S_api_Arc) {res : Int} (hm : m155 k a0 a1 = some res) {z w : World} {I : Hp} {r : List Asn}  (H : St z I w (r)) :
    Calls Try.prog 155 #[(.agg #[(.int .i64 a0.From), (.int .i64 a0.To), (.int .i64 a0.Cost)]), (.agg #[(.int .i64 a1.From), (.int .i64 a1.To), (.int .i64 a1.Cost)])] w (Rt fun v w' => v = (.int .i64 res) ∧ St z I w' (r)) := by
  have hI := Hp.le_refl I
  unfold m155 at hm
  refine enter (args := [(.agg #[(.int .i64 a0.From), (.int .i64 a0.To), (.int .i64 a0.Cost)]), (.agg #[(.int .i64 a1.From), (.int .i64 a1.To), (.int .i64 a1.Cost)])]) Try.func155 rfl Try.ntmps155 rfl fun a hE => ?_
  refine wp_seq ?_
  refine wp_region_lit ?_
  refine s2 hE rfl (d_box hE rfl H) fun a v w hR hE => ?_
  obtain ⟨q22, rfl, H⟩ := hR
  have H : St z I w (Bl q22 60 [(.int .i64 a0.From), (.int .i64 a0.To), (.int .i64 a0.Cost)] :: r) := H
  refine s2 hE rfl (d_box hE rfl H) fun a v w hR hE => ?_
  obtain ⟨q23, rfl, H⟩ := hR
  have H : St z I w (Bl q23 60 [(.int .i64 a1.From), (.int .i64 a1.To), (.int .i64 a1.Cost)] :: Bl q22 60 [(.int .i64 a0.From), (.int .i64 a0.To), (.int .i64 a0.Cost)] :: r) := H
  refine s1 hE rfl (d_assign hE rfl) fun a hE => ?_
  refine wpList_nil ?_
  refine wp_seq ?_
  obtain ⟨x31, hc32, hm⟩ := bnd hm
  obtain ⟨x33, hc34, hm⟩ := bnd hm
  obtain ⟨x36, hc37, hm⟩ := bnd hm
  refine Dr.region (γ := Value) (pre := [[], [0], [], [2], [0, 1, 2, 3], [], [5], [], [7], [0, 1, 2, 3, 4, 5, 6, 7, 8], [0, 1, 2, 3, 4, 5, 6, 7, 8, 9], [0, 1, 2, 3, 4, 5, 6, 7, 8, 9, 10], [0, 1, 2, 3, 4, 5, 6, 7, 8, 9, 10, 11]]) (val := [some (.pointer (some (ad q22 (0 + 0)))), some (.int .i64 a0.From), some (.pointer (some (ad q23 (0 + 0)))), some (.int .i64 a1.From), some (.int .i64 x31), some (.pointer (some (ad q22 (0 + 1)))), some (.int .i64 a0.To), some (.pointer (some (ad q23 (0 + 1)))), some (.int .i64 a1.To), some (.int .i64 x33), none, none, none]) (eff := [10, 11, 12]) (mask := [[], [10], [10, 11], [10, 11, 12]]) (keys := [[], [15], [16, 15], [4, 16, 15]]) (src := [[.base 2], [.op 0], [.base 3], [.op 2], [.op 1, .op 3], [.base 2], [.op 5], [.base 3], [.op 7], [.op 6, .op 8], [.op 4, .op 9], [], []]) (z := z) (ef := fun p g => ([[], [(15, g)], [(16, (.int .i64 x36)), (15, g)], [(4, (.int .i64 x36)), (16, (.int .i64 x36)), (15, g)]] : List (List (Nat × Value))).getD p []) (hi := fun _ _ => I) (rs := fun p g => ([Bl q23 60 [(.int .i64 a1.From), (.int .i64 a1.To), (.int .i64 a1.Cost)] :: Bl q22 60 [(.int .i64 a0.From), (.int .i64 a0.To), (.int .i64 a0.Cost)] :: r, OwnSl (cInt .i64) g ([x31, x33]) :: Bl q23 60 [(.int .i64 a1.From), (.int .i64 a1.To), (.int .i64 a1.Cost)] :: Bl q22 60 [(.int .i64 a0.From), (.int .i64 a0.To), (.int .i64 a0.Cost)] :: r, OwnSl (cInt .i64) g ([x31, x33]) :: Bl q23 60 [(.int .i64 a1.From), (.int .i64 a1.To), (.int .i64 a1.Cost)] :: Bl q22 60 [(.int .i64 a0.From), (.int .i64 a0.To), (.int .i64 a0.Cost)] :: r, OwnSl (cInt .i64) g ([x31, x33]) :: Bl q23 60 [(.int .i64 a1.From), (.int .i64 a1.To), (.int .i64 a1.Cost)] :: Bl q22 60 [(.int .i64 a0.From), (.int .i64 a0.To), (.int .i64 a0.Cost)] :: r] : List (List Asn)).getD p []) [(0, 0), (1, 0), (2, 0), (3, 0), (4, 0), (5, 0), (6, 0), (7, 0), (8, 0), (9, 0)] [(0, 10, 1), (1, 11, 2), (2, 12, 3)] [0, 1, 2, 3, 4, 5, 6, 7, 8, 9] 3 mo hE (undef) rfl H (by kernel_rfl) (by kernel_rfl) (fun p g => by rcases p with _ | _ | _ | _ | p <;> rfl) ?_ ?_ (by kernel_rfl) (by kernel_rfl) ?_
  · exact ⟨by intro a w g hE H; obtain ⟨v35, rfl⟩ : ∃ x, x = g := ⟨g, rfl⟩; exact Dr.is H rfl (Dr.run rfl (d_fieldAddr fld60_0 hE rfl)),
    by intro a w g hE H; obtain ⟨v35, rfl⟩ : ∃ x, x = g := ⟨g, rfl⟩; exact Dr.is H rfl (Dr.run rfl (d_load sc3 hE rfl H 1 rfl rfl)),
    by intro a w g hE H; obtain ⟨v35, rfl⟩ : ∃ x, x = g := ⟨g, rfl⟩; exact Dr.is H rfl (Dr.run rfl (d_fieldAddr fld60_0 hE rfl)),
    by intro a w g hE H; obtain ⟨v35, rfl⟩ : ∃ x, x = g := ⟨g, rfl⟩; exact Dr.is H rfl (Dr.run rfl (d_load sc3 hE rfl H 0 rfl rfl)),
    by intro a w g hE H; obtain ⟨v35, rfl⟩ : ∃ x, x = g := ⟨g, rfl⟩; exact (Dr.run rfl (d_call c103 hE rfl (f103_ok a0.From a1.From hc32  H))).mono fun v w' hR => by obtain ⟨rfl, H⟩ := hR; exact ⟨rfl, H⟩,
    by intro a w g hE H; obtain ⟨v35, rfl⟩ : ∃ x, x = g := ⟨g, rfl⟩; exact Dr.is H rfl (Dr.run rfl (d_fieldAddr fld60_1 hE rfl)),
    by intro a w g hE H; obtain ⟨v35, rfl⟩ : ∃ x, x = g := ⟨g, rfl⟩; exact Dr.is H rfl (Dr.run rfl (d_load sc3 hE rfl H 1 rfl rfl)),
    by intro a w g hE H; obtain ⟨v35, rfl⟩ : ∃ x, x = g := ⟨g, rfl⟩; exact Dr.is H rfl (Dr.run rfl (d_fieldAddr fld60_1 hE rfl)),
    by intro a w g hE H; obtain ⟨v35, rfl⟩ : ∃ x, x = g := ⟨g, rfl⟩; exact Dr.is H rfl (Dr.run rfl (d_load sc3 hE rfl H 0 rfl rfl)),
    by intro a w g hE H; obtain ⟨v35, rfl⟩ : ∃ x, x = g := ⟨g, rfl⟩; exact (Dr.run rfl (d_call c103 hE rfl (f103_ok a0.To a1.To hc34  H))).mono fun v w' hR => by obtain ⟨rfl, H⟩ := hR; exact ⟨rfl, H⟩,
    trivial⟩
  · exact ⟨by intro a w g hE hF H; obtain ⟨v35, rfl⟩ : ∃ x, x = g := ⟨g, rfl⟩; refine (Dr.run rfl (d_lit (c := (cInt .i64)) (xs := [x31, x33]) hE rfl (lit51_2 _ _) rfl rfl (rowsC (cs := [(.int .i64 x31)]) rfl (rowsC (cs := [(.int .i64 x33)]) rfl (rows0))) H)).mono fun v w hR => ?_; obtain ⟨v35, rfl⟩ : ∃ x, x = v := ⟨v, rfl⟩; have H : St z I w (OwnSl (cInt .i64) v35 ([x31, x33]) :: Bl q23 60 [(.int .i64 a1.From), (.int .i64 a1.To), (.int .i64 a1.Cost)] :: Bl q22 60 [(.int .i64 a0.From), (.int .i64 a0.To), (.int .i64 a0.Cost)] :: r) := hR; exact ⟨v35, H, rfl⟩,
    by intro a w g hE hF H; obtain ⟨v35, rfl⟩ : ∃ x, x = g := ⟨g, rfl⟩; have hE := Dr.env_both hE hF; refine (Dr.run rfl (d_call c102 hE rfl (f102_ok k ([x31, x33]) hc37 (Rd.own 0 rfl) H))).mono fun v w hR => ?_; obtain ⟨rfl, H⟩ := hR; exact ⟨v35, H, rfl⟩,
    by intro a w g hE hF H; obtain ⟨v35, rfl⟩ : ∃ x, x = g := ⟨g, rfl⟩; have hE := Dr.env_both hE hF; refine (Dr.run rfl (d_assign hE rfl)).mono fun v w' hR => ?_; obtain ⟨rfl, rfl⟩ := hR; exact ⟨v35, H, rfl⟩,
    trivial⟩
  · intro a w g hE H
    obtain ⟨v35, rfl⟩ : ∃ x, x = g := ⟨g, rfl⟩
    have H : St z I w (OwnSl (cInt .i64) v35 ([x31, x33]) :: Bl q23 60 [(.int .i64 a1.From), (.int .i64 a1.To), (.int .i64 a1.Cost)] :: Bl q22 60 [(.int .i64 a0.From), (.int .i64 a0.To), (.int .i64 a0.Cost)] :: r) := H
    refine wp_ret ?_
    cases hm
    have H := St.del H 0
    have H := St.del H 0
    have H := St.del H 0
    exact ret1 rfl hE rfl ⟨_, rfl, rfl, H⟩
def m98_l0 (a0 : List S_api_Arc) : Nat → Int → Option (Out Int Unit)
  | 0, _ => none
  | k + 1, y340 => if y340 < (a0.length : Int) then (Option.bind (rdx a0 y340) fun x472 => Option.bind (α := Bool) (Option.bind (m154 x472.From) fun x494 => if x494 = true then (Option.bind (m154 x472.To) fun x497 => if x497 = true then (if x472.From = x472.To then (some true) else (if x472.Cost < 1 then (some true) else (if 1073741824 < x472.Cost then (some true) else (if 0 < y340 then (Option.bind (rdx a0 (IntKind.i64.wrap (y340 - 1))) fun x504 => Option.bind (m155 k x504 x472) fun x506 => some (decide (0 ≤ x506))) else (some false))))) else (some true)) else (some true)) fun s493 => if s493 = true then (some (.ret 1)) else (m98_l0 a0 k (IntKind.i64.wrap (y340 + 1)))) else (some (.go ()))
def m98 (k : Nat) (a0 : List S_api_Arc) : Option Int := Option.bind (m98_l0 a0 k 0) fun s425 => s425.on (fun q_ => some q_) fun s425 => some 0
set_option maxRecDepth 20000 in
set_option maxHeartbeats 4000000 in
theorem f98_ok (k : Nat) {u0 : Value} (a0 : List S_api_Arc) {res : Int} (hm : m98 k a0 = some res) {z w : World} {I : Hp} {r : List Asn} (hr0 : Rd c_api_Arc z I r u0 a0) (H : St z I w (r)) :
    Calls Try.prog 98 #[u0] w (Rt fun v w' => v = (.int .i64 res) ∧ St z I w' (r)) := by
  have hI := Hp.le_refl I
  unfold m98 at hm
  refine enter (args := [u0]) Try.func98 rfl Try.ntmps98 rfl fun a hE => ?_
  refine wp_seq ?_
  refine wp_region_lit ?_
  refine s1 hE rfl (d_assign hE rfl) fun a hE => ?_
  refine wpList_nil ?_
  refine wp_seq ?_
  refine wp_seq ?_
  refine wp_region_lit ?_
  refine s1 hE rfl (d_move hE rfl) fun a hE => ?_
  refine s1 hE rfl (d_lenS Try.underlying55 hE rfl (Rd.st hr0 hI H)) fun a hE => ?_
  refine s1 hE rfl (d_move hE rfl) fun a hE => ?_
  refine wpList_nil ?_
  obtain ⟨s425, hj425, hq425⟩ := bnd hm
  refine cut2 (fun a w => ∃ s_ : Unit, s425 = .go s_ ∧ Env a 54 [] ∧ St z I w (r)) ?_ ?_
  · refine wp_block ?_
    refine loopI (fun k a w => ∃ y340 : Int, m98_l0 a0 k y340 = some s425 ∧ Env a 54 [(0, u0), (5, u0), (6, (.int .i64 (a0.length : Int))), (7, (.int .i64 y340))] ∧ St z I w (r)) ?_ k _ _ ?_
    · rintro k a w ⟨y340, hm, hE, H⟩
      cases k with
      | zero => rw [m98_l0] at hm; cases hm
      | succ k =>
        rw [m98_l0] at hm
        refine wp_seq ?_
        refine wp_region_lit ?_
        refine s1 hE rfl (d_lss hE rfl rfl) fun a hE => ?_
        refine wpList_nil ?_
        refine wp_seq ?_
        by_cases c427 : y340 < (a0.length : Int)
        · rw [if_pos c427] at hm
          refine cT hE rfl (decide_eq_true c427) ?_
          refine wp_skip ?_
          refine wp_seq ?_
          refine wp_block ?_
          refine wp_seq ?_
          refine wp_region_lit ?_
          refine s1 hE rfl (d_move hE rfl) fun a hE => ?_
          obtain ⟨x472, hx473, hm⟩ := bnd hm
          refine s1 hE rfl (d_indexS sl55 hE rfl rfl (Rd.st hr0 hI H) hx473) fun a hE => ?_
          refine s1 hE rfl (d_loadSA ag60 rfl hE rfl (Rd.st hr0 hI H) hx473 (fun _ e => e)) fun a hE => ?_
          refine s2 hE rfl (d_alloc al60 H) fun a v w hR hE => ?_
          obtain ⟨q474, rfl, H⟩ := hR
          refine s1 hE rfl (d_assign hE rfl) fun a hE => ?_
          refine s3 (d_store sz60 hE rfl rfl rfl (oneAll rfl) H rfl) fun v w hR => ?_
          have H : St z I w (Bl q474 60 [(.int .i64 x472.From), (.int .i64 x472.To), (.int .i64 x472.Cost)] :: r) := hR
          refine wpList_nil ?_
          refine wp_seq ?_
          obtain ⟨s493, hj493, hm⟩ := bnd hm
          refine cut2 (fun a w => Env a 54 [(0, u0), (5, u0), (6, (.int .i64 (a0.length : Int))), (7, (.int .i64 y340)), (52, (.bool s493))] ∧ St z I w (r)) ?_ ?_
          · have hm := hj493
            obtain ⟨x494, hc495, hm⟩ := bnd hm
            by_cases c496 : x494 = true
            · rw [if_pos c496] at hm
              obtain ⟨x497, hc498, hm⟩ := bnd hm
              by_cases c499 : x497 = true
              · rw [if_pos c499] at hm
                by_cases c500 : x472.From = x472.To
                · rw [if_pos c500] at hm
                  refine Dr.region (γ := Unit) (pre := [[], [0], [0, 1], [0, 1, 2], [0, 1, 2, 3], [0, 1, 2, 3, 4], [0, 1, 2, 3, 4, 5], [0, 1, 2, 3, 4, 5, 6], [0, 1, 2, 3, 4, 5, 6, 7], [0, 1, 2, 3, 4, 5, 6, 7, 8], [0, 1, 2, 3, 4, 5, 6, 7, 8, 9], [0, 1, 2, 3, 4, 5, 6, 7, 8, 9, 10], [0, 1, 2, 3, 4, 5, 6, 7, 8, 9, 10, 11], [0, 1, 2, 3, 4, 5, 6, 7, 8, 9, 10], [0, 1, 2, 3, 4, 5, 6, 7, 8, 9, 10, 13], [0, 1, 2, 3, 4, 5, 6, 7, 8, 9, 10, 11, 12, 13, 14], [0, 1, 2, 3, 4, 5, 6, 7, 8, 9, 10, 11, 12, 13, 14, 15], [0, 1, 2, 3, 4, 5, 6, 7, 8, 9, 10, 11, 12, 13, 14, 15, 16], [0, 1, 2, 3, 4, 5, 6, 7, 8, 9, 10, 11, 12, 13, 14, 15, 16, 17], [0, 1, 2, 3, 4, 5, 6, 7, 8, 9, 10, 11, 12, 13, 14, 15, 16, 17, 18], [0, 1, 2, 3, 4, 5, 6, 7, 8, 9, 10, 11, 12, 13, 14, 15, 16, 17, 18, 19], [0, 1, 2, 3, 4, 5, 6, 7, 8, 9, 10, 11, 12, 13, 14, 15, 16, 17, 18, 19, 20], [0, 1, 2, 3, 4, 5, 6, 7, 8, 9, 10, 11, 12, 13, 14, 15, 16, 17, 18, 19, 20, 21], [0, 1, 2, 3, 4, 5, 6, 7, 8, 9, 10, 11, 12, 13, 14, 15, 16, 17, 18, 19, 20, 21, 22], [0, 1, 2, 3, 4, 5, 6, 7, 8, 9, 10, 11, 12, 13, 14, 15, 16, 17, 18, 19, 20, 21, 22, 23], [0, 1, 2, 3, 4, 5, 6, 7, 8, 9, 10, 11, 12, 13, 14, 15, 16, 17, 18, 19, 20, 21, 22, 23, 24], [0, 1, 2, 3, 4, 5, 6, 7, 8, 9, 10, 11, 12, 13, 14, 15, 16, 17, 18, 19, 20, 21, 22, 23, 24, 25], [0, 1, 2, 3, 4, 5, 6, 7, 8, 9, 10, 11, 12, 13, 14, 15, 16, 17, 18, 19, 20, 21, 22, 23, 24, 25, 26], [0, 1, 2, 3, 4, 5, 6, 7, 8, 9, 10, 11, 12, 13, 14, 15, 16, 17, 18, 19, 20, 21, 22, 23, 24, 25, 26, 27], [0, 1, 2, 3, 4, 5, 6, 7, 8, 9, 10, 11, 12, 13, 14, 15, 16, 17, 18, 19, 20, 21, 22, 23, 24, 25, 26, 27, 28], [0, 1, 2, 3, 4, 5, 6, 7, 8, 9, 10, 11, 12, 13, 14, 15, 16, 17, 18, 19, 20, 21, 22, 23, 24, 25, 26, 27, 28, 29], [0, 1, 2, 3, 4, 5, 6, 7, 8, 9, 10, 11, 12, 13, 14, 15, 16, 17, 18, 19, 20, 21, 22, 23, 24, 25, 26, 27, 28, 29, 30], [0, 1, 2, 3, 4, 5, 6, 7, 8, 9, 10, 11, 12, 13, 14, 15, 16, 17, 18, 19, 20, 21, 22, 23, 24, 25, 26, 27, 28, 29, 30], [0, 1, 2, 3, 4, 5, 6, 7, 8, 9, 10, 11, 12, 13, 14, 15, 16, 17, 18, 19, 20, 21, 22, 23, 24, 25, 26, 27, 28, 29, 30, 32], [0, 1, 2, 3, 4, 5, 6, 7, 8, 9, 10, 11, 12, 13, 14, 15, 16, 17, 18, 19, 20, 21, 22, 23, 24, 25, 26, 27, 28, 29, 30, 31, 32, 33], [0, 1, 2, 3, 4, 5, 6, 7, 8, 9, 10, 11, 12, 13, 14, 15, 16, 17, 18, 19, 20, 21, 22, 23, 24, 25, 26, 27, 28, 29, 30, 31, 32, 33, 34], [0, 1, 2, 3, 4, 5, 6, 7, 8, 9, 10, 11, 12, 13, 14, 15, 16, 17, 18, 19, 20, 21, 22, 23, 24, 25, 26, 27, 28, 29, 30], [0, 1, 2, 3, 4, 5, 6, 7, 8, 9, 10, 11, 12, 13, 14, 15, 16, 17, 18, 19, 20, 21, 22, 23, 24, 25, 26, 27, 28, 29, 30, 31, 32, 33, 34, 35, 36], [0, 1, 2, 3, 4, 5, 6, 7, 8, 9, 10, 11, 12, 13, 14, 15, 16, 17, 18, 19, 20, 21, 22, 23, 24, 25, 26, 27, 28, 29, 30, 31, 32, 33, 34, 35, 36, 37], [0, 1, 2, 3, 4, 5, 6, 7, 8, 9, 10, 11, 12, 13, 14, 15, 16, 17, 18, 19, 20, 21, 22, 23, 24, 25, 26, 27, 28, 29, 30, 31, 32, 33, 34, 35, 36, 37, 38], [0, 1, 2, 3, 4, 5, 6, 7, 8, 9, 10, 11, 12, 13, 14, 15, 16, 17, 18, 19, 20, 21, 22, 23, 24, 25, 26, 27, 28, 29, 30, 31, 32, 33, 34, 35, 36, 37, 38, 39]]) (val := [some (.pointer (some (ad q474 (0 + 0)))), some (.int .i64 x472.From), some (.bool x494), some (.bool (!x494)), some (.bool (!x494)), some (.pointer (some (ad q474 (0 + 1)))), some (.int .i64 x472.To), some (.bool x497), some (.bool (!x497)), some (.bool (!x497)), some (.bool (!x497)), some (.pointer (some (ad q474 (0 + 0)))), some (.int .i64 x472.From), some (.pointer (some (ad q474 (0 + 1)))), some (.int .i64 x472.To), some (.bool (decide (x472.From = x472.To))), some (.bool (decide (x472.From = x472.To))), some (.bool (decide (x472.From = x472.To))), some undef, some undef, some undef, some (.bool true), some (.bool true), some undef, some undef, some undef, some (.bool true), some (.bool true), some undef, some undef, some undef, some undef, some undef, some undef, some undef, some undef, some undef, some undef, some undef, some undef, some (.bool true)]) (eff := []) (mask := [[]]) (keys := [[]]) (src := [[.base 4], [.op 0], [.op 1], [.op 2], [.op 3], [.base 4, .op 4], [.op 4, .op 5], [.op 4, .op 6], [.op 4, .op 7], [.op 4, .op 8], [.op 9], [.base 4, .op 10], [.op 10, .op 11], [.base 4, .op 10], [.op 10, .op 13], [.op 10, .op 12, .op 14], [.op 10, .op 15], [.op 16], [.base 4, .op 17], [.op 17, .op 18], [.op 17, .op 19], [.op 17, .op 20], [.op 21], [.base 4, .op 22], [.op 22, .op 23], [.op 22, .op 24], [.op 22, .op 25], [.op 26], [.base 3, .op 27], [.op 27, .op 28], [.op 27, .op 29], [.base 0, .op 30], [.base 3, .op 30], [.op 30, .op 32], [.op 30, .op 31, .op 33], [.op 30, .op 34], [.base 4, .op 30], [.op 30, .op 35, .op 36], [.op 30, .op 37], [.op 27, .op 30, .op 38], [.op 27, .op 39]]) (z := z) (ef := fun p g => ([[]] : List (List (Nat × Value))).getD p []) (hi := fun _ _ => I) (rs := fun p g => ([Bl q474 60 [(.int .i64 x472.From), (.int .i64 x472.To), (.int .i64 x472.Cost)] :: r] : List (List Asn)).getD p []) [(0, 0), (1, 0), (2, 0), (3, 0), (4, 0), (5, 0), (6, 0), (7, 0), (8, 0), (9, 0), (10, 0), (11, 0), (12, 0), (13, 0), (14, 0), (15, 0), (16, 0), (17, 0), (18, 0), (19, 0), (20, 0), (21, 0), (22, 0), (23, 0), (24, 0), (25, 0), (26, 0), (27, 0), (28, 0), (29, 0), (30, 0), (31, 0), (32, 0), (33, 0), (34, 0), (35, 0), (36, 0), (37, 0), (38, 0), (39, 0), (40, 0)] [] [0, 1, 2, 3, 4, 5, 6, 7, 8, 9, 10, 11, 12, 13, 14, 15, 16, 17, 18, 19, 20, 21, 22, 23, 24, 25, 26, 27, 28, 29, 30, 31, 32, 33, 34, 35, 36, 37, 38, 39, 40] 0 mo hE () rfl H (by kernel_rfl) (by kernel_rfl) (fun p g => by cases p <;> rfl) ?_ ?_ (by kernel_rfl) (by kernel_rfl) ?_
                  · exact ⟨by intro a w g hE H; exact Dr.is H rfl (Dr.run rfl (d_fieldAddr fld60_0 hE rfl)),
    by intro a w g hE H; exact Dr.is H rfl (Dr.run rfl (d_load sc3 hE rfl H 0 rfl rfl)),
    by intro a w g hE H; exact (Dr.run rfl (d_call c154 hE rfl (f154_ok x472.From hc495  H))).mono fun v w' hR => by obtain ⟨rfl, H⟩ := hR; exact ⟨rfl, H⟩,
    by intro a w g hE H; exact Dr.is H rfl (Dr.run rfl (d_not hE rfl)),
    by intro a w g hE H; exact Dr.is H rfl (Dr.run rfl (d_move hE rfl)),
    by intro a w g hE H; exact Dr.is H rfl (Dr.rG rfl hE rfl rfl (not_f c496) (d_fieldAddr fld60_1 hE rfl)),
    by intro a w g hE H; exact Dr.is H rfl (Dr.rG rfl hE rfl rfl (not_f c496) (d_load sc3 hE rfl H 0 rfl rfl)),
    by intro a w g hE H; exact (Dr.rG rfl hE rfl rfl (not_f c496) (d_call c154 hE rfl (f154_ok x472.To hc498  H))).mono fun v w' hR => by obtain ⟨rfl, H⟩ := hR; exact ⟨rfl, H⟩,
    by intro a w g hE H; exact Dr.is H rfl (Dr.rG rfl hE rfl rfl (not_f c496) (d_not hE rfl)),
    by intro a w g hE H; exact Dr.is H rfl (Dr.run rfl (d_pF hE rfl (not_f c496) rfl)),
    by intro a w g hE H; exact Dr.is H rfl (Dr.run rfl (d_move hE rfl)),
    by intro a w g hE H; exact Dr.is H rfl (Dr.rG rfl hE rfl rfl (not_f c499) (d_fieldAddr fld60_0 hE rfl)),
    by intro a w g hE H; exact Dr.is H rfl (Dr.rG rfl hE rfl rfl (not_f c499) (d_load sc3 hE rfl H 0 rfl rfl)),
    by intro a w g hE H; exact Dr.is H rfl (Dr.rG rfl hE rfl rfl (not_f c499) (d_fieldAddr fld60_1 hE rfl)),
    by intro a w g hE H; exact Dr.is H rfl (Dr.rG rfl hE rfl rfl (not_f c499) (d_load sc3 hE rfl H 0 rfl rfl)),
    by intro a w g hE H; exact Dr.is H rfl (Dr.rG rfl hE rfl rfl (not_f c499) (d_eql hE rfl rfl)),
    by intro a w g hE H; exact Dr.is H rfl (Dr.run rfl (d_pF hE rfl (not_f c499) rfl)),
    by intro a w g hE H; exact Dr.is H rfl (Dr.run rfl (d_move hE rfl)),
    by intro a w g hE H; exact Dr.is H rfl (Dr.pG rfl hE rfl rfl (decide_eq_true c500) ⟨rfl, rfl⟩),
    by intro a w g hE H; exact Dr.is H rfl (Dr.pG rfl hE rfl rfl (decide_eq_true c500) ⟨rfl, rfl⟩),
    by intro a w g hE H; exact Dr.is H rfl (Dr.pG rfl hE rfl rfl (decide_eq_true c500) ⟨rfl, rfl⟩),
    by intro a w g hE H; exact Dr.is H rfl (Dr.run rfl (d_pT hE rfl (decide_eq_true c500) rfl)),
    by intro a w g hE H; exact Dr.is H rfl (Dr.run rfl (d_move hE rfl)),
    by intro a w g hE H; exact Dr.is H rfl (Dr.pG rfl hE rfl rfl rfl ⟨rfl, rfl⟩),
    by intro a w g hE H; exact Dr.is H rfl (Dr.pG rfl hE rfl rfl rfl ⟨rfl, rfl⟩),
    by intro a w g hE H; exact Dr.is H rfl (Dr.pG rfl hE rfl rfl rfl ⟨rfl, rfl⟩),
    by intro a w g hE H; exact Dr.is H rfl (Dr.run rfl (d_pT hE rfl rfl rfl)),
    by intro a w g hE H; exact Dr.is H rfl (Dr.run rfl (d_move hE rfl)),
    by intro a w g hE H; exact Dr.is H rfl (Dr.pG rfl hE rfl rfl rfl ⟨rfl, rfl⟩),
    by intro a w g hE H; exact Dr.is H rfl (Dr.pG rfl hE rfl rfl rfl ⟨rfl, rfl⟩),
    by intro a w g hE H; exact Dr.is H rfl (Dr.pG rfl hE rfl rfl rfl ⟨rfl, rfl⟩),
    by intro a w g hE H; exact Dr.is H rfl (Dr.passU rfl hE rfl rfl ⟨rfl, rfl⟩),
    by intro a w g hE H; exact Dr.is H rfl (Dr.passU rfl hE rfl rfl ⟨rfl, rfl⟩),
    by intro a w g hE H; exact Dr.is H rfl (Dr.passU rfl hE rfl rfl ⟨rfl, rfl⟩),
    by intro a w g hE H; exact Dr.is H rfl (Dr.passU rfl hE rfl rfl ⟨rfl, rfl⟩),
    by intro a w g hE H; exact Dr.is H rfl (Dr.passU rfl hE rfl rfl ⟨rfl, rfl⟩),
    by intro a w g hE H; exact Dr.is H rfl (Dr.passU rfl hE rfl rfl ⟨rfl, rfl⟩),
    by intro a w g hE H; exact Dr.is H rfl (Dr.passU rfl hE rfl rfl ⟨rfl, rfl⟩),
    by intro a w g hE H; exact Dr.is H rfl (Dr.passU rfl hE rfl rfl ⟨rfl, rfl⟩),
    by intro a w g hE H; exact Dr.is H rfl (Dr.pG rfl hE rfl rfl rfl ⟨rfl, rfl⟩),
    by intro a w g hE H; exact Dr.is H rfl (Dr.run rfl (d_pT hE rfl rfl rfl)),
    trivial⟩
                  · trivial
                  · intro a w g hE H
                    have H : St z I w (Bl q474 60 [(.int .i64 x472.From), (.int .i64 x472.To), (.int .i64 x472.Cost)] :: r) := H
                    cases hm
                    have H := St.del H 0
                    exact ⟨hE.sub ⟨rfl, rfl, rfl, rfl, rfl, trivial⟩, H⟩
                · rw [if_neg c500] at hm
                  by_cases c501 : x472.Cost < 1
                  · rw [if_pos c501] at hm
                    refine Dr.region (γ := Unit) (pre := [[], [0], [0, 1], [0, 1, 2], [0, 1, 2, 3], [0, 1, 2, 3, 4], [0, 1, 2, 3, 4, 5], [0, 1, 2, 3, 4, 5, 6], [0, 1, 2, 3, 4, 5, 6, 7], [0, 1, 2, 3, 4, 5, 6, 7, 8], [0, 1, 2, 3, 4, 5, 6, 7, 8, 9], [0, 1, 2, 3, 4, 5, 6, 7, 8, 9, 10], [0, 1, 2, 3, 4, 5, 6, 7, 8, 9, 10, 11], [0, 1, 2, 3, 4, 5, 6, 7, 8, 9, 10], [0, 1, 2, 3, 4, 5, 6, 7, 8, 9, 10, 13], [0, 1, 2, 3, 4, 5, 6, 7, 8, 9, 10, 11, 12, 13, 14], [0, 1, 2, 3, 4, 5, 6, 7, 8, 9, 10, 11, 12, 13, 14, 15], [0, 1, 2, 3, 4, 5, 6, 7, 8, 9, 10, 11, 12, 13, 14, 15, 16], [0, 1, 2, 3, 4, 5, 6, 7, 8, 9, 10, 11, 12, 13, 14, 15, 16, 17], [0, 1, 2, 3, 4, 5, 6, 7, 8, 9, 10, 11, 12, 13, 14, 15, 16, 17, 18], [0, 1, 2, 3, 4, 5, 6, 7, 8, 9, 10, 11, 12, 13, 14, 15, 16, 17, 18, 19], [0, 1, 2, 3, 4, 5, 6, 7, 8, 9, 10, 11, 12, 13, 14, 15, 16, 17, 18, 19, 20], [0, 1, 2, 3, 4, 5, 6, 7, 8, 9, 10, 11, 12, 13, 14, 15, 16, 17, 18, 19, 20, 21], [0, 1, 2, 3, 4, 5, 6, 7, 8, 9, 10, 11, 12, 13, 14, 15, 16, 17, 18, 19, 20, 21, 22], [0, 1, 2, 3, 4, 5, 6, 7, 8, 9, 10, 11, 12, 13, 14, 15, 16, 17, 18, 19, 20, 21, 22, 23], [0, 1, 2, 3, 4, 5, 6, 7, 8, 9, 10, 11, 12, 13, 14, 15, 16, 17, 18, 19, 20, 21, 22, 23, 24], [0, 1, 2, 3, 4, 5, 6, 7, 8, 9, 10, 11, 12, 13, 14, 15, 16, 17, 18, 19, 20, 21, 22, 23, 24, 25], [0, 1, 2, 3, 4, 5, 6, 7, 8, 9, 10, 11, 12, 13, 14, 15, 16, 17, 18, 19, 20, 21, 22, 23, 24, 25, 26], [0, 1, 2, 3, 4, 5, 6, 7, 8, 9, 10, 11, 12, 13, 14, 15, 16, 17, 18, 19, 20, 21, 22, 23, 24, 25, 26, 27], [0, 1, 2, 3, 4, 5, 6, 7, 8, 9, 10, 11, 12, 13, 14, 15, 16, 17, 18, 19, 20, 21, 22, 23, 24, 25, 26, 27, 28], [0, 1, 2, 3, 4, 5, 6, 7, 8, 9, 10, 11, 12, 13, 14, 15, 16, 17, 18, 19, 20, 21, 22, 23, 24, 25, 26, 27, 28, 29], [0, 1, 2, 3, 4, 5, 6, 7, 8, 9, 10, 11, 12, 13, 14, 15, 16, 17, 18, 19, 20, 21, 22, 23, 24, 25, 26, 27, 28, 29, 30], [0, 1, 2, 3, 4, 5, 6, 7, 8, 9, 10, 11, 12, 13, 14, 15, 16, 17, 18, 19, 20, 21, 22, 23, 24, 25, 26, 27, 28, 29, 30], [0, 1, 2, 3, 4, 5, 6, 7, 8, 9, 10, 11, 12, 13, 14, 15, 16, 17, 18, 19, 20, 21, 22, 23, 24, 25, 26, 27, 28, 29, 30, 32], [0, 1, 2, 3, 4, 5, 6, 7, 8, 9, 10, 11, 12, 13, 14, 15, 16, 17, 18, 19, 20, 21, 22, 23, 24, 25, 26, 27, 28, 29, 30, 31, 32, 33], [0, 1, 2, 3, 4, 5, 6, 7, 8, 9, 10, 11, 12, 13, 14, 15, 16, 17, 18, 19, 20, 21, 22, 23, 24, 25, 26, 27, 28, 29, 30, 31, 32, 33, 34], [0, 1, 2, 3, 4, 5, 6, 7, 8, 9, 10, 11, 12, 13, 14, 15, 16, 17, 18, 19, 20, 21, 22, 23, 24, 25, 26, 27, 28, 29, 30], [0, 1, 2, 3, 4, 5, 6, 7, 8, 9, 10, 11, 12, 13, 14, 15, 16, 17, 18, 19, 20, 21, 22, 23, 24, 25, 26, 27, 28, 29, 30, 31, 32, 33, 34, 35, 36], [0, 1, 2, 3, 4, 5, 6, 7, 8, 9, 10, 11, 12, 13, 14, 15, 16, 17, 18, 19, 20, 21, 22, 23, 24, 25, 26, 27, 28, 29, 30, 31, 32, 33, 34, 35, 36, 37], [0, 1, 2, 3, 4, 5, 6, 7, 8, 9, 10, 11, 12, 13, 14, 15, 16, 17, 18, 19, 20, 21, 22, 23, 24, 25, 26, 27, 28, 29, 30, 31, 32, 33, 34, 35, 36, 37, 38], [0, 1, 2, 3, 4, 5, 6, 7, 8, 9, 10, 11, 12, 13, 14, 15, 16, 17, 18, 19, 20, 21, 22, 23, 24, 25, 26, 27, 28, 29, 30, 31, 32, 33, 34, 35, 36, 37, 38, 39]]) (val := [some (.pointer (some (ad q474 (0 + 0)))), some (.int .i64 x472.From), some (.bool x494), some (.bool (!x494)), some (.bool (!x494)), some (.pointer (some (ad q474 (0 + 1)))), some (.int .i64 x472.To), some (.bool x497), some (.bool (!x497)), some (.bool (!x497)), some (.bool (!x497)), some (.pointer (some (ad q474 (0 + 0)))), some (.int .i64 x472.From), some (.pointer (some (ad q474 (0 + 1)))), some (.int .i64 x472.To), some (.bool (decide (x472.From = x472.To))), some (.bool (decide (x472.From = x472.To))), some (.bool (decide (x472.From = x472.To))), some (.pointer (some (ad q474 (0 + 2)))), some (.int .i64 x472.Cost), some (.bool (decide (x472.Cost < 1))), some (.bool (decide (x472.Cost < 1))), some (.bool (decide (x472.Cost < 1))), some undef, some undef, some undef, some (.bool true), some (.bool true), some undef, some undef, some undef, some undef, some undef, some undef, some undef, some undef, some undef, some undef, some undef, some undef, some (.bool true)]) (eff := []) (mask := [[]]) (keys := [[]]) (src := [[.base 4], [.op 0], [.op 1], [.op 2], [.op 3], [.base 4, .op 4], [.op 4, .op 5], [.op 4, .op 6], [.op 4, .op 7], [.op 4, .op 8], [.op 9], [.base 4, .op 10], [.op 10, .op 11], [.base 4, .op 10], [.op 10, .op 13], [.op 10, .op 12, .op 14], [.op 10, .op 15], [.op 16], [.base 4, .op 17], [.op 17, .op 18], [.op 17, .op 19], [.op 17, .op 20], [.op 21], [.base 4, .op 22], [.op 22, .op 23], [.op 22, .op 24], [.op 22, .op 25], [.op 26], [.base 3, .op 27], [.op 27, .op 28], [.op 27, .op 29], [.base 0, .op 30], [.base 3, .op 30], [.op 30, .op 32], [.op 30, .op 31, .op 33], [.op 30, .op 34], [.base 4, .op 30], [.op 30, .op 35, .op 36], [.op 30, .op 37], [.op 27, .op 30, .op 38], [.op 27, .op 39]]) (z := z) (ef := fun p g => ([[]] : List (List (Nat × Value))).getD p []) (hi := fun _ _ => I) (rs := fun p g => ([Bl q474 60 [(.int .i64 x472.From), (.int .i64 x472.To), (.int .i64 x472.Cost)] :: r] : List (List Asn)).getD p []) [(0, 0), (1, 0), (2, 0), (3, 0), (4, 0), (5, 0), (6, 0), (7, 0), (8, 0), (9, 0), (10, 0), (11, 0), (12, 0), (13, 0), (14, 0), (15, 0), (16, 0), (17, 0), (18, 0), (19, 0), (20, 0), (21, 0), (22, 0), (23, 0), (24, 0), (25, 0), (26, 0), (27, 0), (28, 0), (29, 0), (30, 0), (31, 0), (32, 0), (33, 0), (34, 0), (35, 0), (36, 0), (37, 0), (38, 0), (39, 0), (40, 0)] [] [0, 1, 2, 3, 4, 5, 6, 7, 8, 9, 10, 11, 12, 13, 14, 15, 16, 17, 18, 19, 20, 21, 22, 23, 24, 25, 26, 27, 28, 29, 30, 31, 32, 33, 34, 35, 36, 37, 38, 39, 40] 0 mo hE () rfl H (by kernel_rfl) (by kernel_rfl) (fun p g => by cases p <;> rfl) ?_ ?_ (by kernel_rfl) (by kernel_rfl) ?_
                    · exact ⟨by intro a w g hE H; exact Dr.is H rfl (Dr.run rfl (d_fieldAddr fld60_0 hE rfl)),
    by intro a w g hE H; exact Dr.is H rfl (Dr.run rfl (d_load sc3 hE rfl H 0 rfl rfl)),
    by intro a w g hE H; exact (Dr.run rfl (d_call c154 hE rfl (f154_ok x472.From hc495  H))).mono fun v w' hR => by obtain ⟨rfl, H⟩ := hR; exact ⟨rfl, H⟩,
    by intro a w g hE H; exact Dr.is H rfl (Dr.run rfl (d_not hE rfl)),
    by intro a w g hE H; exact Dr.is H rfl (Dr.run rfl (d_move hE rfl)),
    by intro a w g hE H; exact Dr.is H rfl (Dr.rG rfl hE rfl rfl (not_f c496) (d_fieldAddr fld60_1 hE rfl)),
    by intro a w g hE H; exact Dr.is H rfl (Dr.rG rfl hE rfl rfl (not_f c496) (d_load sc3 hE rfl H 0 rfl rfl)),
    by intro a w g hE H; exact (Dr.rG rfl hE rfl rfl (not_f c496) (d_call c154 hE rfl (f154_ok x472.To hc498  H))).mono fun v w' hR => by obtain ⟨rfl, H⟩ := hR; exact ⟨rfl, H⟩,
    by intro a w g hE H; exact Dr.is H rfl (Dr.rG rfl hE rfl rfl (not_f c496) (d_not hE rfl)),
    by intro a w g hE H; exact Dr.is H rfl (Dr.run rfl (d_pF hE rfl (not_f c496) rfl)),
    by intro a w g hE H; exact Dr.is H rfl (Dr.run rfl (d_move hE rfl)),
    by intro a w g hE H; exact Dr.is H rfl (Dr.rG rfl hE rfl rfl (not_f c499) (d_fieldAddr fld60_0 hE rfl)),
    by intro a w g hE H; exact Dr.is H rfl (Dr.rG rfl hE rfl rfl (not_f c499) (d_load sc3 hE rfl H 0 rfl rfl)),
    by intro a w g hE H; exact Dr.is H rfl (Dr.rG rfl hE rfl rfl (not_f c499) (d_fieldAddr fld60_1 hE rfl)),
    by intro a w g hE H; exact Dr.is H rfl (Dr.rG rfl hE rfl rfl (not_f c499) (d_load sc3 hE rfl H 0 rfl rfl)),
    by intro a w g hE H; exact Dr.is H rfl (Dr.rG rfl hE rfl rfl (not_f c499) (d_eql hE rfl rfl)),
    by intro a w g hE H; exact Dr.is H rfl (Dr.run rfl (d_pF hE rfl (not_f c499) rfl)),
    by intro a w g hE H; exact Dr.is H rfl (Dr.run rfl (d_move hE rfl)),
    by intro a w g hE H; exact Dr.is H rfl (Dr.rG rfl hE rfl rfl (decide_eq_false c500) (d_fieldAddr fld60_2 hE rfl)),
    by intro a w g hE H; exact Dr.is H rfl (Dr.rG rfl hE rfl rfl (decide_eq_false c500) (d_load sc3 hE rfl H 0 rfl rfl)),
    by intro a w g hE H; exact Dr.is H rfl (Dr.rG rfl hE rfl rfl (decide_eq_false c500) (d_lss hE rfl rfl)),
    by intro a w g hE H; exact Dr.is H rfl (Dr.run rfl (d_pF hE rfl (decide_eq_false c500) rfl)),
    by intro a w g hE H; exact Dr.is H rfl (Dr.run rfl (d_move hE rfl)),
    by intro a w g hE H; exact Dr.is H rfl (Dr.pG rfl hE rfl rfl (decide_eq_true c501) ⟨rfl, rfl⟩),
    by intro a w g hE H; exact Dr.is H rfl (Dr.pG rfl hE rfl rfl (decide_eq_true c501) ⟨rfl, rfl⟩),
    by intro a w g hE H; exact Dr.is H rfl (Dr.pG rfl hE rfl rfl (decide_eq_true c501) ⟨rfl, rfl⟩),
    by intro a w g hE H; exact Dr.is H rfl (Dr.run rfl (d_pT hE rfl (decide_eq_true c501) rfl)),
    by intro a w g hE H; exact Dr.is H rfl (Dr.run rfl (d_move hE rfl)),
    by intro a w g hE H; exact Dr.is H rfl (Dr.pG rfl hE rfl rfl rfl ⟨rfl, rfl⟩),
    by intro a w g hE H; exact Dr.is H rfl (Dr.pG rfl hE rfl rfl rfl ⟨rfl, rfl⟩),
    by intro a w g hE H; exact Dr.is H rfl (Dr.pG rfl hE rfl rfl rfl ⟨rfl, rfl⟩),
    by intro a w g hE H; exact Dr.is H rfl (Dr.passU rfl hE rfl rfl ⟨rfl, rfl⟩),
    by intro a w g hE H; exact Dr.is H rfl (Dr.passU rfl hE rfl rfl ⟨rfl, rfl⟩),
    by intro a w g hE H; exact Dr.is H rfl (Dr.passU rfl hE rfl rfl ⟨rfl, rfl⟩),
    by intro a w g hE H; exact Dr.is H rfl (Dr.passU rfl hE rfl rfl ⟨rfl, rfl⟩),
    by intro a w g hE H; exact Dr.is H rfl (Dr.passU rfl hE rfl rfl ⟨rfl, rfl⟩),
    by intro a w g hE H; exact Dr.is H rfl (Dr.passU rfl hE rfl rfl ⟨rfl, rfl⟩),
    by intro a w g hE H; exact Dr.is H rfl (Dr.passU rfl hE rfl rfl ⟨rfl, rfl⟩),
    by intro a w g hE H; exact Dr.is H rfl (Dr.passU rfl hE rfl rfl ⟨rfl, rfl⟩),
    by intro a w g hE H; exact Dr.is H rfl (Dr.pG rfl hE rfl rfl rfl ⟨rfl, rfl⟩),
    by intro a w g hE H; exact Dr.is H rfl (Dr.run rfl (d_pT hE rfl rfl rfl)),
    trivial⟩
                    · trivial
                    · intro a w g hE H
                      have H : St z I w (Bl q474 60 [(.int .i64 x472.From), (.int .i64 x472.To), (.int .i64 x472.Cost)] :: r) := H
                      cases hm
                      have H := St.del H 0
                      exact ⟨hE.sub ⟨rfl, rfl, rfl, rfl, rfl, trivial⟩, H⟩
                  · rw [if_neg c501] at hm
                    by_cases c502 : 1073741824 < x472.Cost
                    · rw [if_pos c502] at hm
                      refine Dr.region (γ := Unit) (pre := [[], [0], [0, 1], [0, 1, 2], [0, 1, 2, 3], [0, 1, 2, 3, 4], [0, 1, 2, 3, 4, 5], [0, 1, 2, 3, 4, 5, 6], [0, 1, 2, 3, 4, 5, 6, 7], [0, 1, 2, 3, 4, 5, 6, 7, 8], [0, 1, 2, 3, 4, 5, 6, 7, 8, 9], [0, 1, 2, 3, 4, 5, 6, 7, 8, 9, 10], [0, 1, 2, 3, 4, 5, 6, 7, 8, 9, 10, 11], [0, 1, 2, 3, 4, 5, 6, 7, 8, 9, 10], [0, 1, 2, 3, 4, 5, 6, 7, 8, 9, 10, 13], [0, 1, 2, 3, 4, 5, 6, 7, 8, 9, 10, 11, 12, 13, 14], [0, 1, 2, 3, 4, 5, 6, 7, 8, 9, 10, 11, 12, 13, 14, 15], [0, 1, 2, 3, 4, 5, 6, 7, 8, 9, 10, 11, 12, 13, 14, 15, 16], [0, 1, 2, 3, 4, 5, 6, 7, 8, 9, 10, 11, 12, 13, 14, 15, 16, 17], [0, 1, 2, 3, 4, 5, 6, 7, 8, 9, 10, 11, 12, 13, 14, 15, 16, 17, 18], [0, 1, 2, 3, 4, 5, 6, 7, 8, 9, 10, 11, 12, 13, 14, 15, 16, 17, 18, 19], [0, 1, 2, 3, 4, 5, 6, 7, 8, 9, 10, 11, 12, 13, 14, 15, 16, 17, 18, 19, 20], [0, 1, 2, 3, 4, 5, 6, 7, 8, 9, 10, 11, 12, 13, 14, 15, 16, 17, 18, 19, 20, 21], [0, 1, 2, 3, 4, 5, 6, 7, 8, 9, 10, 11, 12, 13, 14, 15, 16, 17, 18, 19, 20, 21, 22], [0, 1, 2, 3, 4, 5, 6, 7, 8, 9, 10, 11, 12, 13, 14, 15, 16, 17, 18, 19, 20, 21, 22, 23], [0, 1, 2, 3, 4, 5, 6, 7, 8, 9, 10, 11, 12, 13, 14, 15, 16, 17, 18, 19, 20, 21, 22, 23, 24], [0, 1, 2, 3, 4, 5, 6, 7, 8, 9, 10, 11, 12, 13, 14, 15, 16, 17, 18, 19, 20, 21, 22, 23, 24, 25], [0, 1, 2, 3, 4, 5, 6, 7, 8, 9, 10, 11, 12, 13, 14, 15, 16, 17, 18, 19, 20, 21, 22, 23, 24, 25, 26], [0, 1, 2, 3, 4, 5, 6, 7, 8, 9, 10, 11, 12, 13, 14, 15, 16, 17, 18, 19, 20, 21, 22, 23, 24, 25, 26, 27], [0, 1, 2, 3, 4, 5, 6, 7, 8, 9, 10, 11, 12, 13, 14, 15, 16, 17, 18, 19, 20, 21, 22, 23, 24, 25, 26, 27, 28], [0, 1, 2, 3, 4, 5, 6, 7, 8, 9, 10, 11, 12, 13, 14, 15, 16, 17, 18, 19, 20, 21, 22, 23, 24, 25, 26, 27, 28, 29], [0, 1, 2, 3, 4, 5, 6, 7, 8, 9, 10, 11, 12, 13, 14, 15, 16, 17, 18, 19, 20, 21, 22, 23, 24, 25, 26, 27, 28, 29, 30], [0, 1, 2, 3, 4, 5, 6, 7, 8, 9, 10, 11, 12, 13, 14, 15, 16, 17, 18, 19, 20, 21, 22, 23, 24, 25, 26, 27, 28, 29, 30], [0, 1, 2, 3, 4, 5, 6, 7, 8, 9, 10, 11, 12, 13, 14, 15, 16, 17, 18, 19, 20, 21, 22, 23, 24, 25, 26, 27, 28, 29, 30, 32], [0, 1, 2, 3, 4, 5, 6, 7, 8, 9, 10, 11, 12, 13, 14, 15, 16, 17, 18, 19, 20, 21, 22, 23, 24, 25, 26, 27, 28, 29, 30, 31, 32, 33], [0, 1, 2, 3, 4, 5, 6, 7, 8, 9, 10, 11, 12, 13, 14, 15, 16, 17, 18, 19, 20, 21, 22, 23, 24, 25, 26, 27, 28, 29, 30, 31, 32, 33, 34], [0, 1, 2, 3, 4, 5, 6, 7, 8, 9, 10, 11, 12, 13, 14, 15, 16, 17, 18, 19, 20, 21, 22, 23, 24, 25, 26, 27, 28, 29, 30], [0, 1, 2, 3, 4, 5, 6, 7, 8, 9, 10, 11, 12, 13, 14, 15, 16, 17, 18, 19, 20, 21, 22, 23, 24, 25, 26, 27, 28, 29, 30, 31, 32, 33, 34, 35, 36], [0, 1, 2, 3, 4, 5, 6, 7, 8, 9, 10, 11, 12, 13, 14, 15, 16, 17, 18, 19, 20, 21, 22, 23, 24, 25, 26, 27, 28, 29, 30, 31, 32, 33, 34, 35, 36, 37], [0, 1, 2, 3, 4, 5, 6, 7, 8, 9, 10, 11, 12, 13, 14, 15, 16, 17, 18, 19, 20, 21, 22, 23, 24, 25, 26, 27, 28, 29, 30, 31, 32, 33, 34, 35, 36, 37, 38], [0, 1, 2, 3, 4, 5, 6, 7, 8, 9, 10, 11, 12, 13, 14, 15, 16, 17, 18, 19, 20, 21, 22, 23, 24, 25, 26, 27, 28, 29, 30, 31, 32, 33, 34, 35, 36, 37, 38, 39]]) (val := [some (.pointer (some (ad q474 (0 + 0)))), some (.int .i64 x472.From), some (.bool x494), some (.bool (!x494)), some (.bool (!x494)), some (.pointer (some (ad q474 (0 + 1)))), some (.int .i64 x472.To), some (.bool x497), some (.bool (!x497)), some (.bool (!x497)), some (.bool (!x497)), some (.pointer (some (ad q474 (0 + 0)))), some (.int .i64 x472.From), some (.pointer (some (ad q474 (0 + 1)))), some (.int .i64 x472.To), some (.bool (decide (x472.From = x472.To))), some (.bool (decide (x472.From = x472.To))), some (.bool (decide (x472.From = x472.To))), some (.pointer (some (ad q474 (0 + 2)))), some (.int .i64 x472.Cost), some (.bool (decide (x472.Cost < 1))), some (.bool (decide (x472.Cost < 1))), some (.bool (decide (x472.Cost < 1))), some (.pointer (some (ad q474 (0 + 2)))), some (.int .i64 x472.Cost), some (.bool (decide (1073741824 < x472.Cost))), some (.bool (decide (1073741824 < x472.Cost))), some (.bool (decide (1073741824 < x472.Cost))), some undef, some undef, some undef, some undef, some undef, some undef, some undef, some undef, some undef, some undef, some undef, some undef, some (.bool true)]) (eff := []) (mask := [[]]) (keys := [[]]) (src := [[.base 4], [.op 0], [.op 1], [.op 2], [.op 3], [.base 4, .op 4], [.op 4, .op 5], [.op 4, .op 6], [.op 4, .op 7], [.op 4, .op 8], [.op 9], [.base 4, .op 10], [.op 10, .op 11], [.base 4, .op 10], [.op 10, .op 13], [.op 10, .op 12, .op 14], [.op 10, .op 15], [.op 16], [.base 4, .op 17], [.op 17, .op 18], [.op 17, .op 19], [.op 17, .op 20], [.op 21], [.base 4, .op 22], [.op 22, .op 23], [.op 22, .op 24], [.op 22, .op 25], [.op 26], [.base 3, .op 27], [.op 27, .op 28], [.op 27, .op 29], [.base 0, .op 30], [.base 3, .op 30], [.op 30, .op 32], [.op 30, .op 31, .op 33], [.op 30, .op 34], [.base 4, .op 30], [.op 30, .op 35, .op 36], [.op 30, .op 37], [.op 27, .op 30, .op 38], [.op 27, .op 39]]) (z := z) (ef := fun p g => ([[]] : List (List (Nat × Value))).getD p []) (hi := fun _ _ => I) (rs := fun p g => ([Bl q474 60 [(.int .i64 x472.From), (.int .i64 x472.To), (.int .i64 x472.Cost)] :: r] : List (List Asn)).getD p []) [(0, 0), (1, 0), (2, 0), (3, 0), (4, 0), (5, 0), (6, 0), (7, 0), (8, 0), (9, 0), (10, 0), (11, 0), (12, 0), (13, 0), (14, 0), (15, 0), (16, 0), (17, 0), (18, 0), (19, 0), (20, 0), (21, 0), (22, 0), (23, 0), (24, 0), (25, 0), (26, 0), (27, 0), (28, 0), (29, 0), (30, 0), (31, 0), (32, 0), (33, 0), (34, 0), (35, 0), (36, 0), (37, 0), (38, 0), (39, 0), (40, 0)] [] [0, 1, 2, 3, 4, 5, 6, 7, 8, 9, 10, 11, 12, 13, 14, 15, 16, 17, 18, 19, 20, 21, 22, 23, 24, 25, 26, 27, 28, 29, 30, 31, 32, 33, 34, 35, 36, 37, 38, 39, 40] 0 mo hE () rfl H (by kernel_rfl) (by kernel_rfl) (fun p g => by cases p <;> rfl) ?_ ?_ (by kernel_rfl) (by kernel_rfl) ?_
                      · exact ⟨by intro a w g hE H; exact Dr.is H rfl (Dr.run rfl (d_fieldAddr fld60_0 hE rfl)),
    by intro a w g hE H; exact Dr.is H rfl (Dr.run rfl (d_load sc3 hE rfl H 0 rfl rfl)),
    by intro a w g hE H; exact (Dr.run rfl (d_call c154 hE rfl (f154_ok x472.From hc495  H))).mono fun v w' hR => by obtain ⟨rfl, H⟩ := hR; exact ⟨rfl, H⟩,
    by intro a w g hE H; exact Dr.is H rfl (Dr.run rfl (d_not hE rfl)),
    by intro a w g hE H; exact Dr.is H rfl (Dr.run rfl (d_move hE rfl)),
    by intro a w g hE H; exact Dr.is H rfl (Dr.rG rfl hE rfl rfl (not_f c496) (d_fieldAddr fld60_1 hE rfl)),
    by intro a w g hE H; exact Dr.is H rfl (Dr.rG rfl hE rfl rfl (not_f c496) (d_load sc3 hE rfl H 0 rfl rfl)),
    by intro a w g hE H; exact (Dr.rG rfl hE rfl rfl (not_f c496) (d_call c154 hE rfl (f154_ok x472.To hc498  H))).mono fun v w' hR => by obtain ⟨rfl, H⟩ := hR; exact ⟨rfl, H⟩,
    by intro a w g hE H; exact Dr.is H rfl (Dr.rG rfl hE rfl rfl (not_f c496) (d_not hE rfl)),
    by intro a w g hE H; exact Dr.is H rfl (Dr.run rfl (d_pF hE rfl (not_f c496) rfl)),
    by intro a w g hE H; exact Dr.is H rfl (Dr.run rfl (d_move hE rfl)),
    by intro a w g hE H; exact Dr.is H rfl (Dr.rG rfl hE rfl rfl (not_f c499) (d_fieldAddr fld60_0 hE rfl)),
    by intro a w g hE H; exact Dr.is H rfl (Dr.rG rfl hE rfl rfl (not_f c499) (d_load sc3 hE rfl H 0 rfl rfl)),
    by intro a w g hE H; exact Dr.is H rfl (Dr.rG rfl hE rfl rfl (not_f c499) (d_fieldAddr fld60_1 hE rfl)),
    by intro a w g hE H; exact Dr.is H rfl (Dr.rG rfl hE rfl rfl (not_f c499) (d_load sc3 hE rfl H 0 rfl rfl)),
    by intro a w g hE H; exact Dr.is H rfl (Dr.rG rfl hE rfl rfl (not_f c499) (d_eql hE rfl rfl)),
    by intro a w g hE H; exact Dr.is H rfl (Dr.run rfl (d_pF hE rfl (not_f c499) rfl)),
    by intro a w g hE H; exact Dr.is H rfl (Dr.run rfl (d_move hE rfl)),
    by intro a w g hE H; exact Dr.is H rfl (Dr.rG rfl hE rfl rfl (decide_eq_false c500) (d_fieldAddr fld60_2 hE rfl)),
    by intro a w g hE H; exact Dr.is H rfl (Dr.rG rfl hE rfl rfl (decide_eq_false c500) (d_load sc3 hE rfl H 0 rfl rfl)),
    by intro a w g hE H; exact Dr.is H rfl (Dr.rG rfl hE rfl rfl (decide_eq_false c500) (d_lss hE rfl rfl)),
    by intro a w g hE H; exact Dr.is H rfl (Dr.run rfl (d_pF hE rfl (decide_eq_false c500) rfl)),
    by intro a w g hE H; exact Dr.is H rfl (Dr.run rfl (d_move hE rfl)),
    by intro a w g hE H; exact Dr.is H rfl (Dr.rG rfl hE rfl rfl (decide_eq_false c501) (d_fieldAddr fld60_2 hE rfl)),
    by intro a w g hE H; exact Dr.is H rfl (Dr.rG rfl hE rfl rfl (decide_eq_false c501) (d_load sc3 hE rfl H 0 rfl rfl)),
    by intro a w g hE H; exact Dr.is H rfl (Dr.rG rfl hE rfl rfl (decide_eq_false c501) (d_gtr hE rfl rfl)),
    by intro a w g hE H; exact Dr.is H rfl (Dr.run rfl (d_pF hE rfl (decide_eq_false c501) rfl)),
    by intro a w g hE H; exact Dr.is H rfl (Dr.run rfl (d_move hE rfl)),
    by intro a w g hE H; exact Dr.is H rfl (Dr.pG rfl hE rfl rfl (decide_eq_true c502) ⟨rfl, rfl⟩),
    by intro a w g hE H; exact Dr.is H rfl (Dr.pG rfl hE rfl rfl (decide_eq_true c502) ⟨rfl, rfl⟩),
    by intro a w g hE H; exact Dr.is H rfl (Dr.pG rfl hE rfl rfl (decide_eq_true c502) ⟨rfl, rfl⟩),
    by intro a w g hE H; exact Dr.is H rfl (Dr.passU rfl hE rfl rfl ⟨rfl, rfl⟩),
    by intro a w g hE H; exact Dr.is H rfl (Dr.passU rfl hE rfl rfl ⟨rfl, rfl⟩),
    by intro a w g hE H; exact Dr.is H rfl (Dr.passU rfl hE rfl rfl ⟨rfl, rfl⟩),
    by intro a w g hE H; exact Dr.is H rfl (Dr.passU rfl hE rfl rfl ⟨rfl, rfl⟩),
    by intro a w g hE H; exact Dr.is H rfl (Dr.passU rfl hE rfl rfl ⟨rfl, rfl⟩),
    by intro a w g hE H; exact Dr.is H rfl (Dr.passU rfl hE rfl rfl ⟨rfl, rfl⟩),
    by intro a w g hE H; exact Dr.is H rfl (Dr.passU rfl hE rfl rfl ⟨rfl, rfl⟩),
    by intro a w g hE H; exact Dr.is H rfl (Dr.passU rfl hE rfl rfl ⟨rfl, rfl⟩),
    by intro a w g hE H; exact Dr.is H rfl (Dr.pG rfl hE rfl rfl (decide_eq_true c502) ⟨rfl, rfl⟩),
    by intro a w g hE H; exact Dr.is H rfl (Dr.run rfl (d_pT hE rfl (decide_eq_true c502) rfl)),
    trivial⟩
                      · trivial
                      · intro a w g hE H
                        have H : St z I w (Bl q474 60 [(.int .i64 x472.From), (.int .i64 x472.To), (.int .i64 x472.Cost)] :: r) := H
                        cases hm
                        have H := St.del H 0
                        exact ⟨hE.sub ⟨rfl, rfl, rfl, rfl, rfl, trivial⟩, H⟩
                    · rw [if_neg c502] at hm
                      by_cases c503 : 0 < y340
                      · rw [if_pos c503] at hm
                        obtain ⟨x504, hx505, hm⟩ := bnd hm
                        obtain ⟨x506, hc507, hm⟩ := bnd hm
                        refine Dr.region (γ := Unit) (pre := [[], [0], [0, 1], [0, 1, 2], [0, 1, 2, 3], [0, 1, 2, 3, 4], [0, 1, 2, 3, 4, 5], [0, 1, 2, 3, 4, 5, 6], [0, 1, 2, 3, 4, 5, 6, 7], [0, 1, 2, 3, 4, 5, 6, 7, 8], [0, 1, 2, 3, 4, 5, 6, 7, 8, 9], [0, 1, 2, 3, 4, 5, 6, 7, 8, 9, 10], [0, 1, 2, 3, 4, 5, 6, 7, 8, 9, 10, 11], [0, 1, 2, 3, 4, 5, 6, 7, 8, 9, 10], [0, 1, 2, 3, 4, 5, 6, 7, 8, 9, 10, 13], [0, 1, 2, 3, 4, 5, 6, 7, 8, 9, 10, 11, 12, 13, 14], [0, 1, 2, 3, 4, 5, 6, 7, 8, 9, 10, 11, 12, 13, 14, 15], [0, 1, 2, 3, 4, 5, 6, 7, 8, 9, 10, 11, 12, 13, 14, 15, 16], [0, 1, 2, 3, 4, 5, 6, 7, 8, 9, 10, 11, 12, 13, 14, 15, 16, 17], [0, 1, 2, 3, 4, 5, 6, 7, 8, 9, 10, 11, 12, 13, 14, 15, 16, 17, 18], [0, 1, 2, 3, 4, 5, 6, 7, 8, 9, 10, 11, 12, 13, 14, 15, 16, 17, 18, 19], [0, 1, 2, 3, 4, 5, 6, 7, 8, 9, 10, 11, 12, 13, 14, 15, 16, 17, 18, 19, 20], [0, 1, 2, 3, 4, 5, 6, 7, 8, 9, 10, 11, 12, 13, 14, 15, 16, 17, 18, 19, 20, 21], [0, 1, 2, 3, 4, 5, 6, 7, 8, 9, 10, 11, 12, 13, 14, 15, 16, 17, 18, 19, 20, 21, 22], [0, 1, 2, 3, 4, 5, 6, 7, 8, 9, 10, 11, 12, 13, 14, 15, 16, 17, 18, 19, 20, 21, 22, 23], [0, 1, 2, 3, 4, 5, 6, 7, 8, 9, 10, 11, 12, 13, 14, 15, 16, 17, 18, 19, 20, 21, 22, 23, 24], [0, 1, 2, 3, 4, 5, 6, 7, 8, 9, 10, 11, 12, 13, 14, 15, 16, 17, 18, 19, 20, 21, 22, 23, 24, 25], [0, 1, 2, 3, 4, 5, 6, 7, 8, 9, 10, 11, 12, 13, 14, 15, 16, 17, 18, 19, 20, 21, 22, 23, 24, 25, 26], [0, 1, 2, 3, 4, 5, 6, 7, 8, 9, 10, 11, 12, 13, 14, 15, 16, 17, 18, 19, 20, 21, 22, 23, 24, 25, 26, 27], [0, 1, 2, 3, 4, 5, 6, 7, 8, 9, 10, 11, 12, 13, 14, 15, 16, 17, 18, 19, 20, 21, 22, 23, 24, 25, 26, 27, 28], [0, 1, 2, 3, 4, 5, 6, 7, 8, 9, 10, 11, 12, 13, 14, 15, 16, 17, 18, 19, 20, 21, 22, 23, 24, 25, 26, 27, 28, 29], [0, 1, 2, 3, 4, 5, 6, 7, 8, 9, 10, 11, 12, 13, 14, 15, 16, 17, 18, 19, 20, 21, 22, 23, 24, 25, 26, 27, 28, 29, 30], [0, 1, 2, 3, 4, 5, 6, 7, 8, 9, 10, 11, 12, 13, 14, 15, 16, 17, 18, 19, 20, 21, 22, 23, 24, 25, 26, 27, 28, 29, 30], [0, 1, 2, 3, 4, 5, 6, 7, 8, 9, 10, 11, 12, 13, 14, 15, 16, 17, 18, 19, 20, 21, 22, 23, 24, 25, 26, 27, 28, 29, 30, 32], [0, 1, 2, 3, 4, 5, 6, 7, 8, 9, 10, 11, 12, 13, 14, 15, 16, 17, 18, 19, 20, 21, 22, 23, 24, 25, 26, 27, 28, 29, 30, 31, 32, 33], [0, 1, 2, 3, 4, 5, 6, 7, 8, 9, 10, 11, 12, 13, 14, 15, 16, 17, 18, 19, 20, 21, 22, 23, 24, 25, 26, 27, 28, 29, 30, 31, 32, 33, 34], [0, 1, 2, 3, 4, 5, 6, 7, 8, 9, 10, 11, 12, 13, 14, 15, 16, 17, 18, 19, 20, 21, 22, 23, 24, 25, 26, 27, 28, 29, 30], [0, 1, 2, 3, 4, 5, 6, 7, 8, 9, 10, 11, 12, 13, 14, 15, 16, 17, 18, 19, 20, 21, 22, 23, 24, 25, 26, 27, 28, 29, 30, 31, 32, 33, 34, 35, 36], [0, 1, 2, 3, 4, 5, 6, 7, 8, 9, 10, 11, 12, 13, 14, 15, 16, 17, 18, 19, 20, 21, 22, 23, 24, 25, 26, 27, 28, 29, 30, 31, 32, 33, 34, 35, 36, 37], [0, 1, 2, 3, 4, 5, 6, 7, 8, 9, 10, 11, 12, 13, 14, 15, 16, 17, 18, 19, 20, 21, 22, 23, 24, 25, 26, 27, 28, 29, 30, 31, 32, 33, 34, 35, 36, 37, 38], [0, 1, 2, 3, 4, 5, 6, 7, 8, 9, 10, 11, 12, 13, 14, 15, 16, 17, 18, 19, 20, 21, 22, 23, 24, 25, 26, 27, 28, 29, 30, 31, 32, 33, 34, 35, 36, 37, 38, 39]]) (val := [some (.pointer (some (ad q474 (0 + 0)))), some (.int .i64 x472.From), some (.bool x494), some (.bool (!x494)), some (.bool (!x494)), some (.pointer (some (ad q474 (0 + 1)))), some (.int .i64 x472.To), some (.bool x497), some (.bool (!x497)), some (.bool (!x497)), some (.bool (!x497)), some (.pointer (some (ad q474 (0 + 0)))), some (.int .i64 x472.From), some (.pointer (some (ad q474 (0 + 1)))), some (.int .i64 x472.To), some (.bool (decide (x472.From = x472.To))), some (.bool (decide (x472.From = x472.To))), some (.bool (decide (x472.From = x472.To))), some (.pointer (some (ad q474 (0 + 2)))), some (.int .i64 x472.Cost), some (.bool (decide (x472.Cost < 1))), some (.bool (decide (x472.Cost < 1))), some (.bool (decide (x472.Cost < 1))), some (.pointer (some (ad q474 (0 + 2)))), some (.int .i64 x472.Cost), some (.bool (decide (1073741824 < x472.Cost))), some (.bool (decide (1073741824 < x472.Cost))), some (.bool (decide (1073741824 < x472.Cost))), some (.int .i64 y340), some (.bool (decide (0 < y340))), some (.bool (decide (0 < y340))), some u0, some (.int .i64 y340), some (.int .i64 (IntKind.i64.wrap (y340 - 1))), some (.pointer (some (ad (sb u0) (so u0 + (IntKind.i64.wrap (y340 - 1)).toNat * c_api_Arc.n)))), some (.agg #[(.int .i64 x504.From), (.int .i64 x504.To), (.int .i64 x504.Cost)]), some (.agg #[(.int .i64 x472.From), (.int .i64 x472.To), (.int .i64 x472.Cost)]), some (.int .i64 x506), some (.bool (decide (0 ≤ x506))), some (.bool (decide (0 ≤ x506))), some (.bool (decide (0 ≤ x506)))]) (eff := []) (mask := [[]]) (keys := [[]]) (src := [[.base 4], [.op 0], [.op 1], [.op 2], [.op 3], [.base 4, .op 4], [.op 4, .op 5], [.op 4, .op 6], [.op 4, .op 7], [.op 4, .op 8], [.op 9], [.base 4, .op 10], [.op 10, .op 11], [.base 4, .op 10], [.op 10, .op 13], [.op 10, .op 12, .op 14], [.op 10, .op 15], [.op 16], [.base 4, .op 17], [.op 17, .op 18], [.op 17, .op 19], [.op 17, .op 20], [.op 21], [.base 4, .op 22], [.op 22, .op 23], [.op 22, .op 24], [.op 22, .op 25], [.op 26], [.base 3, .op 27], [.op 27, .op 28], [.op 27, .op 29], [.base 0, .op 30], [.base 3, .op 30], [.op 30, .op 32], [.op 30, .op 31, .op 33], [.op 30, .op 34], [.base 4, .op 30], [.op 30, .op 35, .op 36], [.op 30, .op 37], [.op 27, .op 30, .op 38], [.op 27, .op 39]]) (z := z) (ef := fun p g => ([[]] : List (List (Nat × Value))).getD p []) (hi := fun _ _ => I) (rs := fun p g => ([Bl q474 60 [(.int .i64 x472.From), (.int .i64 x472.To), (.int .i64 x472.Cost)] :: r] : List (List Asn)).getD p []) [(0, 0), (1, 0), (2, 0), (3, 0), (4, 0), (5, 0), (6, 0), (7, 0), (8, 0), (9, 0), (10, 0), (11, 0), (12, 0), (13, 0), (14, 0), (15, 0), (16, 0), (17, 0), (18, 0), (19, 0), (20, 0), (21, 0), (22, 0), (23, 0), (24, 0), (25, 0), (26, 0), (27, 0), (28, 0), (29, 0), (30, 0), (31, 0), (32, 0), (33, 0), (34, 0), (35, 0), (36, 0), (37, 0), (38, 0), (39, 0), (40, 0)] [] [0, 1, 2, 3, 4, 5, 6, 7, 8, 9, 10, 11, 12, 13, 14, 15, 16, 17, 18, 19, 20, 21, 22, 23, 24, 25, 26, 27, 28, 29, 30, 31, 32, 33, 34, 35, 36, 37, 38, 39, 40] 0 mo hE () rfl H (by kernel_rfl) (by kernel_rfl) (fun p g => by cases p <;> rfl) ?_ ?_ (by kernel_rfl) (by kernel_rfl) ?_
                        · exact ⟨by intro a w g hE H; exact Dr.is H rfl (Dr.run rfl (d_fieldAddr fld60_0 hE rfl)),
    by intro a w g hE H; exact Dr.is H rfl (Dr.run rfl (d_load sc3 hE rfl H 0 rfl rfl)),
    by intro a w g hE H; exact (Dr.run rfl (d_call c154 hE rfl (f154_ok x472.From hc495  H))).mono fun v w' hR => by obtain ⟨rfl, H⟩ := hR; exact ⟨rfl, H⟩,
    by intro a w g hE H; exact Dr.is H rfl (Dr.run rfl (d_not hE rfl)),
    by intro a w g hE H; exact Dr.is H rfl (Dr.run rfl (d_move hE rfl)),
    by intro a w g hE H; exact Dr.is H rfl (Dr.rG rfl hE rfl rfl (not_f c496) (d_fieldAddr fld60_1 hE rfl)),
    by intro a w g hE H; exact Dr.is H rfl (Dr.rG rfl hE rfl rfl (not_f c496) (d_load sc3 hE rfl H 0 rfl rfl)),
    by intro a w g hE H; exact (Dr.rG rfl hE rfl rfl (not_f c496) (d_call c154 hE rfl (f154_ok x472.To hc498  H))).mono fun v w' hR => by obtain ⟨rfl, H⟩ := hR; exact ⟨rfl, H⟩,
    by intro a w g hE H; exact Dr.is H rfl (Dr.rG rfl hE rfl rfl (not_f c496) (d_not hE rfl)),
    by intro a w g hE H; exact Dr.is H rfl (Dr.run rfl (d_pF hE rfl (not_f c496) rfl)),
    by intro a w g hE H; exact Dr.is H rfl (Dr.run rfl (d_move hE rfl)),
    by intro a w g hE H; exact Dr.is H rfl (Dr.rG rfl hE rfl rfl (not_f c499) (d_fieldAddr fld60_0 hE rfl)),
    by intro a w g hE H; exact Dr.is H rfl (Dr.rG rfl hE rfl rfl (not_f c499) (d_load sc3 hE rfl H 0 rfl rfl)),
    by intro a w g hE H; exact Dr.is H rfl (Dr.rG rfl hE rfl rfl (not_f c499) (d_fieldAddr fld60_1 hE rfl)),
    by intro a w g hE H; exact Dr.is H rfl (Dr.rG rfl hE rfl rfl (not_f c499) (d_load sc3 hE rfl H 0 rfl rfl)),
    by intro a w g hE H; exact Dr.is H rfl (Dr.rG rfl hE rfl rfl (not_f c499) (d_eql hE rfl rfl)),
    by intro a w g hE H; exact Dr.is H rfl (Dr.run rfl (d_pF hE rfl (not_f c499) rfl)),
    by intro a w g hE H; exact Dr.is H rfl (Dr.run rfl (d_move hE rfl)),
    by intro a w g hE H; exact Dr.is H rfl (Dr.rG rfl hE rfl rfl (decide_eq_false c500) (d_fieldAddr fld60_2 hE rfl)),
    by intro a w g hE H; exact Dr.is H rfl (Dr.rG rfl hE rfl rfl (decide_eq_false c500) (d_load sc3 hE rfl H 0 rfl rfl)),
    by intro a w g hE H; exact Dr.is H rfl (Dr.rG rfl hE rfl rfl (decide_eq_false c500) (d_lss hE rfl rfl)),
    by intro a w g hE H; exact Dr.is H rfl (Dr.run rfl (d_pF hE rfl (decide_eq_false c500) rfl)),
    by intro a w g hE H; exact Dr.is H rfl (Dr.run rfl (d_move hE rfl)),
    by intro a w g hE H; exact Dr.is H rfl (Dr.rG rfl hE rfl rfl (decide_eq_false c501) (d_fieldAddr fld60_2 hE rfl)),
    by intro a w g hE H; exact Dr.is H rfl (Dr.rG rfl hE rfl rfl (decide_eq_false c501) (d_load sc3 hE rfl H 0 rfl rfl)),
    by intro a w g hE H; exact Dr.is H rfl (Dr.rG rfl hE rfl rfl (decide_eq_false c501) (d_gtr hE rfl rfl)),
    by intro a w g hE H; exact Dr.is H rfl (Dr.run rfl (d_pF hE rfl (decide_eq_false c501) rfl)),
    by intro a w g hE H; exact Dr.is H rfl (Dr.run rfl (d_move hE rfl)),
    by intro a w g hE H; exact Dr.is H rfl (Dr.rG rfl hE rfl rfl (decide_eq_false c502) (d_move hE rfl)),
    by intro a w g hE H; exact Dr.is H rfl (Dr.rG rfl hE rfl rfl (decide_eq_false c502) (d_gtr hE rfl rfl)),
    by intro a w g hE H; exact Dr.is H rfl (Dr.rG rfl hE rfl rfl (decide_eq_false c502) (d_move hE rfl)),
    by intro a w g hE H; exact Dr.is H rfl (Dr.rG rfl hE rfl rfl (decide_eq_true c503) (d_move hE rfl)),
    by intro a w g hE H; exact Dr.is H rfl (Dr.rG rfl hE rfl rfl (decide_eq_true c503) (d_move hE rfl)),
    by intro a w g hE H; exact Dr.is H rfl (Dr.rG rfl hE rfl rfl (decide_eq_true c503) (d_sub hE rfl rfl)),
    by intro a w g hE H; exact Dr.is H rfl (Dr.rG rfl hE rfl rfl (decide_eq_true c503) (d_indexS sl55 hE rfl rfl (Rd.st hr0 hI (H).drop) hx505)),
    by intro a w g hE H; exact Dr.is H rfl (Dr.rG rfl hE rfl rfl (decide_eq_true c503) (d_loadSA ag60 rfl hE rfl (Rd.st hr0 hI (H).drop) hx505 (fun _ e => e))),
    by intro a w g hE H; exact Dr.is H rfl (Dr.rG rfl hE rfl rfl (decide_eq_true c503) (d_loadA ag60 hE rfl H 0 rfl rfl)),
    by intro a w g hE H; exact (Dr.rG rfl hE rfl rfl (decide_eq_true c503) (d_call c155 hE rfl (f155_ok k x504 x472 hc507  H))).mono fun v w' hR => by obtain ⟨rfl, H⟩ := hR; exact ⟨rfl, H⟩,
    by intro a w g hE H; exact Dr.is H rfl (Dr.rG rfl hE rfl rfl (decide_eq_true c503) (d_geq hE rfl rfl)),
    by intro a w g hE H; exact Dr.is H rfl (Dr.rG rfl hE rfl rfl (decide_eq_false c502) (d_pT hE rfl (decide_eq_true c503) rfl)),
    by intro a w g hE H; exact Dr.is H rfl (Dr.run rfl (d_pF hE rfl (decide_eq_false c502) rfl)),
    trivial⟩
                        · trivial
                        · intro a w g hE H
                          have H : St z I w (Bl q474 60 [(.int .i64 x472.From), (.int .i64 x472.To), (.int .i64 x472.Cost)] :: r) := H
                          cases hm
                          have H := St.del H 0
                          exact ⟨hE.sub ⟨rfl, rfl, rfl, rfl, rfl, trivial⟩, H⟩
                      · rw [if_neg c503] at hm
                        refine Dr.region (γ := Unit) (pre := [[], [0], [0, 1], [0, 1, 2], [0, 1, 2, 3], [0, 1, 2, 3, 4], [0, 1, 2, 3, 4, 5], [0, 1, 2, 3, 4, 5, 6], [0, 1, 2, 3, 4, 5, 6, 7], [0, 1, 2, 3, 4, 5, 6, 7, 8], [0, 1, 2, 3, 4, 5, 6, 7, 8, 9], [0, 1, 2, 3, 4, 5, 6, 7, 8, 9, 10], [0, 1, 2, 3, 4, 5, 6, 7, 8, 9, 10, 11], [0, 1, 2, 3, 4, 5, 6, 7, 8, 9, 10], [0, 1, 2, 3, 4, 5, 6, 7, 8, 9, 10, 13], [0, 1, 2, 3, 4, 5, 6, 7, 8, 9, 10, 11, 12, 13, 14], [0, 1, 2, 3, 4, 5, 6, 7, 8, 9, 10, 11, 12, 13, 14, 15], [0, 1, 2, 3, 4, 5, 6, 7, 8, 9, 10, 11, 12, 13, 14, 15, 16], [0, 1, 2, 3, 4, 5, 6, 7, 8, 9, 10, 11, 12, 13, 14, 15, 16, 17], [0, 1, 2, 3, 4, 5, 6, 7, 8, 9, 10, 11, 12, 13, 14, 15, 16, 17, 18], [0, 1, 2, 3, 4, 5, 6, 7, 8, 9, 10, 11, 12, 13, 14, 15, 16, 17, 18, 19], [0, 1, 2, 3, 4, 5, 6, 7, 8, 9, 10, 11, 12, 13, 14, 15, 16, 17, 18, 19, 20], [0, 1, 2, 3, 4, 5, 6, 7, 8, 9, 10, 11, 12, 13, 14, 15, 16, 17, 18, 19, 20, 21], [0, 1, 2, 3, 4, 5, 6, 7, 8, 9, 10, 11, 12, 13, 14, 15, 16, 17, 18, 19, 20, 21, 22], [0, 1, 2, 3, 4, 5, 6, 7, 8, 9, 10, 11, 12, 13, 14, 15, 16, 17, 18, 19, 20, 21, 22, 23], [0, 1, 2, 3, 4, 5, 6, 7, 8, 9, 10, 11, 12, 13, 14, 15, 16, 17, 18, 19, 20, 21, 22, 23, 24], [0, 1, 2, 3, 4, 5, 6, 7, 8, 9, 10, 11, 12, 13, 14, 15, 16, 17, 18, 19, 20, 21, 22, 23, 24, 25], [0, 1, 2, 3, 4, 5, 6, 7, 8, 9, 10, 11, 12, 13, 14, 15, 16, 17, 18, 19, 20, 21, 22, 23, 24, 25, 26], [0, 1, 2, 3, 4, 5, 6, 7, 8, 9, 10, 11, 12, 13, 14, 15, 16, 17, 18, 19, 20, 21, 22, 23, 24, 25, 26, 27], [0, 1, 2, 3, 4, 5, 6, 7, 8, 9, 10, 11, 12, 13, 14, 15, 16, 17, 18, 19, 20, 21, 22, 23, 24, 25, 26, 27, 28], [0, 1, 2, 3, 4, 5, 6, 7, 8, 9, 10, 11, 12, 13, 14, 15, 16, 17, 18, 19, 20, 21, 22, 23, 24, 25, 26, 27, 28, 29], [0, 1, 2, 3, 4, 5, 6, 7, 8, 9, 10, 11, 12, 13, 14, 15, 16, 17, 18, 19, 20, 21, 22, 23, 24, 25, 26, 27, 28, 29, 30], [0, 1, 2, 3, 4, 5, 6, 7, 8, 9, 10, 11, 12, 13, 14, 15, 16, 17, 18, 19, 20, 21, 22, 23, 24, 25, 26, 27, 28, 29, 30], [0, 1, 2, 3, 4, 5, 6, 7, 8, 9, 10, 11, 12, 13, 14, 15, 16, 17, 18, 19, 20, 21, 22, 23, 24, 25, 26, 27, 28, 29, 30, 32], [0, 1, 2, 3, 4, 5, 6, 7, 8, 9, 10, 11, 12, 13, 14, 15, 16, 17, 18, 19, 20, 21, 22, 23, 24, 25, 26, 27, 28, 29, 30, 31, 32, 33], [0, 1, 2, 3, 4, 5, 6, 7, 8, 9, 10, 11, 12, 13, 14, 15, 16, 17, 18, 19, 20, 21, 22, 23, 24, 25, 26, 27, 28, 29, 30, 31, 32, 33, 34], [0, 1, 2, 3, 4, 5, 6, 7, 8, 9, 10, 11, 12, 13, 14, 15, 16, 17, 18, 19, 20, 21, 22, 23, 24, 25, 26, 27, 28, 29, 30], [0, 1, 2, 3, 4, 5, 6, 7, 8, 9, 10, 11, 12, 13, 14, 15, 16, 17, 18, 19, 20, 21, 22, 23, 24, 25, 26, 27, 28, 29, 30, 31, 32, 33, 34, 35, 36], [0, 1, 2, 3, 4, 5, 6, 7, 8, 9, 10, 11, 12, 13, 14, 15, 16, 17, 18, 19, 20, 21, 22, 23, 24, 25, 26, 27, 28, 29, 30, 31, 32, 33, 34, 35, 36, 37], [0, 1, 2, 3, 4, 5, 6, 7, 8, 9, 10, 11, 12, 13, 14, 15, 16, 17, 18, 19, 20, 21, 22, 23, 24, 25, 26, 27, 28, 29, 30, 31, 32, 33, 34, 35, 36, 37, 38], [0, 1, 2, 3, 4, 5, 6, 7, 8, 9, 10, 11, 12, 13, 14, 15, 16, 17, 18, 19, 20, 21, 22, 23, 24, 25, 26, 27, 28, 29, 30, 31, 32, 33, 34, 35, 36, 37, 38, 39]]) (val := [some (.pointer (some (ad q474 (0 + 0)))), some (.int .i64 x472.From), some (.bool x494), some (.bool (!x494)), some (.bool (!x494)), some (.pointer (some (ad q474 (0 + 1)))), some (.int .i64 x472.To), some (.bool x497), some (.bool (!x497)), some (.bool (!x497)), some (.bool (!x497)), some (.pointer (some (ad q474 (0 + 0)))), some (.int .i64 x472.From), some (.pointer (some (ad q474 (0 + 1)))), some (.int .i64 x472.To), some (.bool (decide (x472.From = x472.To))), some (.bool (decide (x472.From = x472.To))), some (.bool (decide (x472.From = x472.To))), some (.pointer (some (ad q474 (0 + 2)))), some (.int .i64 x472.Cost), some (.bool (decide (x472.Cost < 1))), some (.bool (decide (x472.Cost < 1))), some (.bool (decide (x472.Cost < 1))), some (.pointer (some (ad q474 (0 + 2)))), some (.int .i64 x472.Cost), some (.bool (decide (1073741824 < x472.Cost))), some (.bool (decide (1073741824 < x472.Cost))), some (.bool (decide (1073741824 < x472.Cost))), some (.int .i64 y340), some (.bool (decide (0 < y340))), some (.bool (decide (0 < y340))), some undef, some undef, some undef, some undef, some undef, some undef, some undef, some undef, some (.bool false), some (.bool false)]) (eff := []) (mask := [[]]) (keys := [[]]) (src := [[.base 4], [.op 0], [.op 1], [.op 2], [.op 3], [.base 4, .op 4], [.op 4, .op 5], [.op 4, .op 6], [.op 4, .op 7], [.op 4, .op 8], [.op 9], [.base 4, .op 10], [.op 10, .op 11], [.base 4, .op 10], [.op 10, .op 13], [.op 10, .op 12, .op 14], [.op 10, .op 15], [.op 16], [.base 4, .op 17], [.op 17, .op 18], [.op 17, .op 19], [.op 17, .op 20], [.op 21], [.base 4, .op 22], [.op 22, .op 23], [.op 22, .op 24], [.op 22, .op 25], [.op 26], [.base 3, .op 27], [.op 27, .op 28], [.op 27, .op 29], [.base 0, .op 30], [.base 3, .op 30], [.op 30, .op 32], [.op 30, .op 31, .op 33], [.op 30, .op 34], [.base 4, .op 30], [.op 30, .op 35, .op 36], [.op 30, .op 37], [.op 27, .op 30, .op 38], [.op 27, .op 39]]) (z := z) (ef := fun p g => ([[]] : List (List (Nat × Value))).getD p []) (hi := fun _ _ => I) (rs := fun p g => ([Bl q474 60 [(.int .i64 x472.From), (.int .i64 x472.To), (.int .i64 x472.Cost)] :: r] : List (List Asn)).getD p []) [(0, 0), (1, 0), (2, 0), (3, 0), (4, 0), (5, 0), (6, 0), (7, 0), (8, 0), (9, 0), (10, 0), (11, 0), (12, 0), (13, 0), (14, 0), (15, 0), (16, 0), (17, 0), (18, 0), (19, 0), (20, 0), (21, 0), (22, 0), (23, 0), (24, 0), (25, 0), (26, 0), (27, 0), (28, 0), (29, 0), (30, 0), (31, 0), (32, 0), (33, 0), (34, 0), (35, 0), (36, 0), (37, 0), (38, 0), (39, 0), (40, 0)] [] [0, 1, 2, 3, 4, 5, 6, 7, 8, 9, 10, 11, 12, 13, 14, 15, 16, 17, 18, 19, 20, 21, 22, 23, 24, 25, 26, 27, 28, 29, 30, 31, 32, 33, 34, 35, 36, 37, 38, 39, 40] 0 mo hE () rfl H (by kernel_rfl) (by kernel_rfl) (fun p g => by cases p <;> rfl) ?_ ?_ (by kernel_rfl) (by kernel_rfl) ?_
                        · exact ⟨by intro a w g hE H; exact Dr.is H rfl (Dr.run rfl (d_fieldAddr fld60_0 hE rfl)),
    by intro a w g hE H; exact Dr.is H rfl (Dr.run rfl (d_load sc3 hE rfl H 0 rfl rfl)),
    by intro a w g hE H; exact (Dr.run rfl (d_call c154 hE rfl (f154_ok x472.From hc495  H))).mono fun v w' hR => by obtain ⟨rfl, H⟩ := hR; exact ⟨rfl, H⟩,
    by intro a w g hE H; exact Dr.is H rfl (Dr.run rfl (d_not hE rfl)),
    by intro a w g hE H; exact Dr.is H rfl (Dr.run rfl (d_move hE rfl)),
    by intro a w g hE H; exact Dr.is H rfl (Dr.rG rfl hE rfl rfl (not_f c496) (d_fieldAddr fld60_1 hE rfl)),
    by intro a w g hE H; exact Dr.is H rfl (Dr.rG rfl hE rfl rfl (not_f c496) (d_load sc3 hE rfl H 0 rfl rfl)),
    by intro a w g hE H; exact (Dr.rG rfl hE rfl rfl (not_f c496) (d_call c154 hE rfl (f154_ok x472.To hc498  H))).mono fun v w' hR => by obtain ⟨rfl, H⟩ := hR; exact ⟨rfl, H⟩,
    by intro a w g hE H; exact Dr.is H rfl (Dr.rG rfl hE rfl rfl (not_f c496) (d_not hE rfl)),
    by intro a w g hE H; exact Dr.is H rfl (Dr.run rfl (d_pF hE rfl (not_f c496) rfl)),
    by intro a w g hE H; exact Dr.is H rfl (Dr.run rfl (d_move hE rfl)),
    by intro a w g hE H; exact Dr.is H rfl (Dr.rG rfl hE rfl rfl (not_f c499) (d_fieldAddr fld60_0 hE rfl)),
    by intro a w g hE H; exact Dr.is H rfl (Dr.rG rfl hE rfl rfl (not_f c499) (d_load sc3 hE rfl H 0 rfl rfl)),
    by intro a w g hE H; exact Dr.is H rfl (Dr.rG rfl hE rfl rfl (not_f c499) (d_fieldAddr fld60_1 hE rfl)),
    by intro a w g hE H; exact Dr.is H rfl (Dr.rG rfl hE rfl rfl (not_f c499) (d_load sc3 hE rfl H 0 rfl rfl)),
    by intro a w g hE H; exact Dr.is H rfl (Dr.rG rfl hE rfl rfl (not_f c499) (d_eql hE rfl rfl)),
    by intro a w g hE H; exact Dr.is H rfl (Dr.run rfl (d_pF hE rfl (not_f c499) rfl)),
    by intro a w g hE H; exact Dr.is H rfl (Dr.run rfl (d_move hE rfl)),
    by intro a w g hE H; exact Dr.is H rfl (Dr.rG rfl hE rfl rfl (decide_eq_false c500) (d_fieldAddr fld60_2 hE rfl)),
    by intro a w g hE H; exact Dr.is H rfl (Dr.rG rfl hE rfl rfl (decide_eq_false c500) (d_load sc3 hE rfl H 0 rfl rfl)),
    by intro a w g hE H; exact Dr.is H rfl (Dr.rG rfl hE rfl rfl (decide_eq_false c500) (d_lss hE rfl rfl)),
    by intro a w g hE H; exact Dr.is H rfl (Dr.run rfl (d_pF hE rfl (decide_eq_false c500) rfl)),
    by intro a w g hE H; exact Dr.is H rfl (Dr.run rfl (d_move hE rfl)),
    by intro a w g hE H; exact Dr.is H rfl (Dr.rG rfl hE rfl rfl (decide_eq_false c501) (d_fieldAddr fld60_2 hE rfl)),
    by intro a w g hE H; exact Dr.is H rfl (Dr.rG rfl hE rfl rfl (decide_eq_false c501) (d_load sc3 hE rfl H 0 rfl rfl)),
    by intro a w g hE H; exact Dr.is H rfl (Dr.rG rfl hE rfl rfl (decide_eq_false c501) (d_gtr hE rfl rfl)),
    by intro a w g hE H; exact Dr.is H rfl (Dr.run rfl (d_pF hE rfl (decide_eq_false c501) rfl)),
    by intro a w g hE H; exact Dr.is H rfl (Dr.run rfl (d_move hE rfl)),
    by intro a w g hE H; exact Dr.is H rfl (Dr.rG rfl hE rfl rfl (decide_eq_false c502) (d_move hE rfl)),
    by intro a w g hE H; exact Dr.is H rfl (Dr.rG rfl hE rfl rfl (decide_eq_false c502) (d_gtr hE rfl rfl)),
    by intro a w g hE H; exact Dr.is H rfl (Dr.rG rfl hE rfl rfl (decide_eq_false c502) (d_move hE rfl)),
    by intro a w g hE H; exact Dr.is H rfl (Dr.pG rfl hE rfl rfl (decide_eq_false c503) ⟨rfl, rfl⟩),
    by intro a w g hE H; exact Dr.is H rfl (Dr.pG rfl hE rfl rfl (decide_eq_false c503) ⟨rfl, rfl⟩),
    by intro a w g hE H; exact Dr.is H rfl (Dr.pG rfl hE rfl rfl (decide_eq_false c503) ⟨rfl, rfl⟩),
    by intro a w g hE H; exact Dr.is H rfl (Dr.pG rfl hE rfl rfl (decide_eq_false c503) ⟨rfl, rfl⟩),
    by intro a w g hE H; exact Dr.is H rfl (Dr.pG rfl hE rfl rfl (decide_eq_false c503) ⟨rfl, rfl⟩),
    by intro a w g hE H; exact Dr.is H rfl (Dr.pG rfl hE rfl rfl (decide_eq_false c503) ⟨rfl, rfl⟩),
    by intro a w g hE H; exact Dr.is H rfl (Dr.pG rfl hE rfl rfl (decide_eq_false c503) ⟨rfl, rfl⟩),
    by intro a w g hE H; exact Dr.is H rfl (Dr.pG rfl hE rfl rfl (decide_eq_false c503) ⟨rfl, rfl⟩),
    by intro a w g hE H; exact Dr.is H rfl (Dr.rG rfl hE rfl rfl (decide_eq_false c502) (d_pF hE rfl (decide_eq_false c503) rfl)),
    by intro a w g hE H; exact Dr.is H rfl (Dr.run rfl (d_pF hE rfl (decide_eq_false c502) rfl)),
    trivial⟩
                        · trivial
                        · intro a w g hE H
                          have H : St z I w (Bl q474 60 [(.int .i64 x472.From), (.int .i64 x472.To), (.int .i64 x472.Cost)] :: r) := H
                          cases hm
                          have H := St.del H 0
                          exact ⟨hE.sub ⟨rfl, rfl, rfl, rfl, rfl, trivial⟩, H⟩
              · rw [if_neg c499] at hm
                refine Dr.region (γ := Unit) (pre := [[], [0], [0, 1], [0, 1, 2], [0, 1, 2, 3], [0, 1, 2, 3, 4], [0, 1, 2, 3, 4, 5], [0, 1, 2, 3, 4, 5, 6], [0, 1, 2, 3, 4, 5, 6, 7], [0, 1, 2, 3, 4, 5, 6, 7, 8], [0, 1, 2, 3, 4, 5, 6, 7, 8, 9], [0, 1, 2, 3, 4, 5, 6, 7, 8, 9, 10], [0, 1, 2, 3, 4, 5, 6, 7, 8, 9, 10, 11], [0, 1, 2, 3, 4, 5, 6, 7, 8, 9, 10], [0, 1, 2, 3, 4, 5, 6, 7, 8, 9, 10, 13], [0, 1, 2, 3, 4, 5, 6, 7, 8, 9, 10, 11, 12, 13, 14], [0, 1, 2, 3, 4, 5, 6, 7, 8, 9, 10, 11, 12, 13, 14, 15], [0, 1, 2, 3, 4, 5, 6, 7, 8, 9, 10, 11, 12, 13, 14, 15, 16], [0, 1, 2, 3, 4, 5, 6, 7, 8, 9, 10, 11, 12, 13, 14, 15, 16, 17], [0, 1, 2, 3, 4, 5, 6, 7, 8, 9, 10, 11, 12, 13, 14, 15, 16, 17, 18], [0, 1, 2, 3, 4, 5, 6, 7, 8, 9, 10, 11, 12, 13, 14, 15, 16, 17, 18, 19], [0, 1, 2, 3, 4, 5, 6, 7, 8, 9, 10, 11, 12, 13, 14, 15, 16, 17, 18, 19, 20], [0, 1, 2, 3, 4, 5, 6, 7, 8, 9, 10, 11, 12, 13, 14, 15, 16, 17, 18, 19, 20, 21], [0, 1, 2, 3, 4, 5, 6, 7, 8, 9, 10, 11, 12, 13, 14, 15, 16, 17, 18, 19, 20, 21, 22], [0, 1, 2, 3, 4, 5, 6, 7, 8, 9, 10, 11, 12, 13, 14, 15, 16, 17, 18, 19, 20, 21, 22, 23], [0, 1, 2, 3, 4, 5, 6, 7, 8, 9, 10, 11, 12, 13, 14, 15, 16, 17, 18, 19, 20, 21, 22, 23, 24], [0, 1, 2, 3, 4, 5, 6, 7, 8, 9, 10, 11, 12, 13, 14, 15, 16, 17, 18, 19, 20, 21, 22, 23, 24, 25], [0, 1, 2, 3, 4, 5, 6, 7, 8, 9, 10, 11, 12, 13, 14, 15, 16, 17, 18, 19, 20, 21, 22, 23, 24, 25, 26], [0, 1, 2, 3, 4, 5, 6, 7, 8, 9, 10, 11, 12, 13, 14, 15, 16, 17, 18, 19, 20, 21, 22, 23, 24, 25, 26, 27], [0, 1, 2, 3, 4, 5, 6, 7, 8, 9, 10, 11, 12, 13, 14, 15, 16, 17, 18, 19, 20, 21, 22, 23, 24, 25, 26, 27, 28], [0, 1, 2, 3, 4, 5, 6, 7, 8, 9, 10, 11, 12, 13, 14, 15, 16, 17, 18, 19, 20, 21, 22, 23, 24, 25, 26, 27, 28, 29], [0, 1, 2, 3, 4, 5, 6, 7, 8, 9, 10, 11, 12, 13, 14, 15, 16, 17, 18, 19, 20, 21, 22, 23, 24, 25, 26, 27, 28, 29, 30], [0, 1, 2, 3, 4, 5, 6, 7, 8, 9, 10, 11, 12, 13, 14, 15, 16, 17, 18, 19, 20, 21, 22, 23, 24, 25, 26, 27, 28, 29, 30], [0, 1, 2, 3, 4, 5, 6, 7, 8, 9, 10, 11, 12, 13, 14, 15, 16, 17, 18, 19, 20, 21, 22, 23, 24, 25, 26, 27, 28, 29, 30, 32], [0, 1, 2, 3, 4, 5, 6, 7, 8, 9, 10, 11, 12, 13, 14, 15, 16, 17, 18, 19, 20, 21, 22, 23, 24, 25, 26, 27, 28, 29, 30, 31, 32, 33], [0, 1, 2, 3, 4, 5, 6, 7, 8, 9, 10, 11, 12, 13, 14, 15, 16, 17, 18, 19, 20, 21, 22, 23, 24, 25, 26, 27, 28, 29, 30, 31, 32, 33, 34], [0, 1, 2, 3, 4, 5, 6, 7, 8, 9, 10, 11, 12, 13, 14, 15, 16, 17, 18, 19, 20, 21, 22, 23, 24, 25, 26, 27, 28, 29, 30], [0, 1, 2, 3, 4, 5, 6, 7, 8, 9, 10, 11, 12, 13, 14, 15, 16, 17, 18, 19, 20, 21, 22, 23, 24, 25, 26, 27, 28, 29, 30, 31, 32, 33, 34, 35, 36], [0, 1, 2, 3, 4, 5, 6, 7, 8, 9, 10, 11, 12, 13, 14, 15, 16, 17, 18, 19, 20, 21, 22, 23, 24, 25, 26, 27, 28, 29, 30, 31, 32, 33, 34, 35, 36, 37], [0, 1, 2, 3, 4, 5, 6, 7, 8, 9, 10, 11, 12, 13, 14, 15, 16, 17, 18, 19, 20, 21, 22, 23, 24, 25, 26, 27, 28, 29, 30, 31, 32, 33, 34, 35, 36, 37, 38], [0, 1, 2, 3, 4, 5, 6, 7, 8, 9, 10, 11, 12, 13, 14, 15, 16, 17, 18, 19, 20, 21, 22, 23, 24, 25, 26, 27, 28, 29, 30, 31, 32, 33, 34, 35, 36, 37, 38, 39]]) (val := [some (.pointer (some (ad q474 (0 + 0)))), some (.int .i64 x472.From), some (.bool x494), some (.bool (!x494)), some (.bool (!x494)), some (.pointer (some (ad q474 (0 + 1)))), some (.int .i64 x472.To), some (.bool x497), some (.bool (!x497)), some (.bool (!x497)), some (.bool (!x497)), some undef, some undef, some undef, some undef, some undef, some (.bool true), some (.bool true), some undef, some undef, some undef, some (.bool true), some (.bool true), some undef, some undef, some undef, some (.bool true), some (.bool true), some undef, some undef, some undef, some undef, some undef, some undef, some undef, some undef, some undef, some undef, some undef, some undef, some (.bool true)]) (eff := []) (mask := [[]]) (keys := [[]]) (src := [[.base 4], [.op 0], [.op 1], [.op 2], [.op 3], [.base 4, .op 4], [.op 4, .op 5], [.op 4, .op 6], [.op 4, .op 7], [.op 4, .op 8], [.op 9], [.base 4, .op 10], [.op 10, .op 11], [.base 4, .op 10], [.op 10, .op 13], [.op 10, .op 12, .op 14], [.op 10, .op 15], [.op 16], [.base 4, .op 17], [.op 17, .op 18], [.op 17, .op 19], [.op 17, .op 20], [.op 21], [.base 4, .op 22], [.op 22, .op 23], [.op 22, .op 24], [.op 22, .op 25], [.op 26], [.base 3, .op 27], [.op 27, .op 28], [.op 27, .op 29], [.base 0, .op 30], [.base 3, .op 30], [.op 30, .op 32], [.op 30, .op 31, .op 33], [.op 30, .op 34], [.base 4, .op 30], [.op 30, .op 35, .op 36], [.op 30, .op 37], [.op 27, .op 30, .op 38], [.op 27, .op 39]]) (z := z) (ef := fun p g => ([[]] : List (List (Nat × Value))).getD p []) (hi := fun _ _ => I) (rs := fun p g => ([Bl q474 60 [(.int .i64 x472.From), (.int .i64 x472.To), (.int .i64 x472.Cost)] :: r] : List (List Asn)).getD p []) [(0, 0), (1, 0), (2, 0), (3, 0), (4, 0), (5, 0), (6, 0), (7, 0), (8, 0), (9, 0), (10, 0), (11, 0), (12, 0), (13, 0), (14, 0), (15, 0), (16, 0), (17, 0), (18, 0), (19, 0), (20, 0), (21, 0), (22, 0), (23, 0), (24, 0), (25, 0), (26, 0), (27, 0), (28, 0), (29, 0), (30, 0), (31, 0), (32, 0), (33, 0), (34, 0), (35, 0), (36, 0), (37, 0), (38, 0), (39, 0), (40, 0)] [] [0, 1, 2, 3, 4, 5, 6, 7, 8, 9, 10, 11, 12, 13, 14, 15, 16, 17, 18, 19, 20, 21, 22, 23, 24, 25, 26, 27, 28, 29, 30, 31, 32, 33, 34, 35, 36, 37, 38, 39, 40] 0 mo hE () rfl H (by kernel_rfl) (by kernel_rfl) (fun p g => by cases p <;> rfl) ?_ ?_ (by kernel_rfl) (by kernel_rfl) ?_
                · exact ⟨by intro a w g hE H; exact Dr.is H rfl (Dr.run rfl (d_fieldAddr fld60_0 hE rfl)),
    by intro a w g hE H; exact Dr.is H rfl (Dr.run rfl (d_load sc3 hE rfl H 0 rfl rfl)),
    by intro a w g hE H; exact (Dr.run rfl (d_call c154 hE rfl (f154_ok x472.From hc495  H))).mono fun v w' hR => by obtain ⟨rfl, H⟩ := hR; exact ⟨rfl, H⟩,
    by intro a w g hE H; exact Dr.is H rfl (Dr.run rfl (d_not hE rfl)),
    by intro a w g hE H; exact Dr.is H rfl (Dr.run rfl (d_move hE rfl)),
    by intro a w g hE H; exact Dr.is H rfl (Dr.rG rfl hE rfl rfl (not_f c496) (d_fieldAddr fld60_1 hE rfl)),
    by intro a w g hE H; exact Dr.is H rfl (Dr.rG rfl hE rfl rfl (not_f c496) (d_load sc3 hE rfl H 0 rfl rfl)),
    by intro a w g hE H; exact (Dr.rG rfl hE rfl rfl (not_f c496) (d_call c154 hE rfl (f154_ok x472.To hc498  H))).mono fun v w' hR => by obtain ⟨rfl, H⟩ := hR; exact ⟨rfl, H⟩,
    by intro a w g hE H; exact Dr.is H rfl (Dr.rG rfl hE rfl rfl (not_f c496) (d_not hE rfl)),
    by intro a w g hE H; exact Dr.is H rfl (Dr.run rfl (d_pF hE rfl (not_f c496) rfl)),
    by intro a w g hE H; exact Dr.is H rfl (Dr.run rfl (d_move hE rfl)),
    by intro a w g hE H; exact Dr.is H rfl (Dr.pG rfl hE rfl rfl (not_t (b_f c499)) ⟨rfl, rfl⟩),
    by intro a w g hE H; exact Dr.is H rfl (Dr.pG rfl hE rfl rfl (not_t (b_f c499)) ⟨rfl, rfl⟩),
    by intro a w g hE H; exact Dr.is H rfl (Dr.pG rfl hE rfl rfl (not_t (b_f c499)) ⟨rfl, rfl⟩),
    by intro a w g hE H; exact Dr.is H rfl (Dr.pG rfl hE rfl rfl (not_t (b_f c499)) ⟨rfl, rfl⟩),
    by intro a w g hE H; exact Dr.is H rfl (Dr.pG rfl hE rfl rfl (not_t (b_f c499)) ⟨rfl, rfl⟩),
    by intro a w g hE H; exact Dr.is H rfl (Dr.run rfl (d_pT hE rfl (not_t (b_f c499)) rfl)),
    by intro a w g hE H; exact Dr.is H rfl (Dr.run rfl (d_move hE rfl)),
    by intro a w g hE H; exact Dr.is H rfl (Dr.pG rfl hE rfl rfl rfl ⟨rfl, rfl⟩),
    by intro a w g hE H; exact Dr.is H rfl (Dr.pG rfl hE rfl rfl rfl ⟨rfl, rfl⟩),
    by intro a w g hE H; exact Dr.is H rfl (Dr.pG rfl hE rfl rfl rfl ⟨rfl, rfl⟩),
    by intro a w g hE H; exact Dr.is H rfl (Dr.run rfl (d_pT hE rfl rfl rfl)),
    by intro a w g hE H; exact Dr.is H rfl (Dr.run rfl (d_move hE rfl)),
    by intro a w g hE H; exact Dr.is H rfl (Dr.pG rfl hE rfl rfl rfl ⟨rfl, rfl⟩),
    by intro a w g hE H; exact Dr.is H rfl (Dr.pG rfl hE rfl rfl rfl ⟨rfl, rfl⟩),
    by intro a w g hE H; exact Dr.is H rfl (Dr.pG rfl hE rfl rfl rfl ⟨rfl, rfl⟩),
    by intro a w g hE H; exact Dr.is H rfl (Dr.run rfl (d_pT hE rfl rfl rfl)),
    by intro a w g hE H; exact Dr.is H rfl (Dr.run rfl (d_move hE rfl)),
    by intro a w g hE H; exact Dr.is H rfl (Dr.pG rfl hE rfl rfl rfl ⟨rfl, rfl⟩),
    by intro a w g hE H; exact Dr.is H rfl (Dr.pG rfl hE rfl rfl rfl ⟨rfl, rfl⟩),
    by intro a w g hE H; exact Dr.is H rfl (Dr.pG rfl hE rfl rfl rfl ⟨rfl, rfl⟩),
    by intro a w g hE H; exact Dr.is H rfl (Dr.passU rfl hE rfl rfl ⟨rfl, rfl⟩),
    by intro a w g hE H; exact Dr.is H rfl (Dr.passU rfl hE rfl rfl ⟨rfl, rfl⟩),
    by intro a w g hE H; exact Dr.is H rfl (Dr.passU rfl hE rfl rfl ⟨rfl, rfl⟩),
    by intro a w g hE H; exact Dr.is H rfl (Dr.passU rfl hE rfl rfl ⟨rfl, rfl⟩),
    by intro a w g hE H; exact Dr.is H rfl (Dr.passU rfl hE rfl rfl ⟨rfl, rfl⟩),
    by intro a w g hE H; exact Dr.is H rfl (Dr.passU rfl hE rfl rfl ⟨rfl, rfl⟩),
    by intro a w g hE H; exact Dr.is H rfl (Dr.passU rfl hE rfl rfl ⟨rfl, rfl⟩),
    by intro a w g hE H; exact Dr.is H rfl (Dr.passU rfl hE rfl rfl ⟨rfl, rfl⟩),
    by intro a w g hE H; exact Dr.is H rfl (Dr.pG rfl hE rfl rfl rfl ⟨rfl, rfl⟩),
    by intro a w g hE H; exact Dr.is H rfl (Dr.run rfl (d_pT hE rfl rfl rfl)),
    trivial⟩
                · trivial
                · intro a w g hE H
                  have H : St z I w (Bl q474 60 [(.int .i64 x472.From), (.int .i64 x472.To), (.int .i64 x472.Cost)] :: r) := H
                  cases hm
                  have H := St.del H 0
                  exact ⟨hE.sub ⟨rfl, rfl, rfl, rfl, rfl, trivial⟩, H⟩
            · rw [if_neg c496] at hm
              refine Dr.region (γ := Unit) (pre := [[], [0], [0, 1], [0, 1, 2], [0, 1, 2, 3], [0, 1, 2, 3, 4], [0, 1, 2, 3, 4, 5], [0, 1, 2, 3, 4, 5, 6], [0, 1, 2, 3, 4, 5, 6, 7], [0, 1, 2, 3, 4, 5, 6, 7, 8], [0, 1, 2, 3, 4, 5, 6, 7, 8, 9], [0, 1, 2, 3, 4, 5, 6, 7, 8, 9, 10], [0, 1, 2, 3, 4, 5, 6, 7, 8, 9, 10, 11], [0, 1, 2, 3, 4, 5, 6, 7, 8, 9, 10], [0, 1, 2, 3, 4, 5, 6, 7, 8, 9, 10, 13], [0, 1, 2, 3, 4, 5, 6, 7, 8, 9, 10, 11, 12, 13, 14], [0, 1, 2, 3, 4, 5, 6, 7, 8, 9, 10, 11, 12, 13, 14, 15], [0, 1, 2, 3, 4, 5, 6, 7, 8, 9, 10, 11, 12, 13, 14, 15, 16], [0, 1, 2, 3, 4, 5, 6, 7, 8, 9, 10, 11, 12, 13, 14, 15, 16, 17], [0, 1, 2, 3, 4, 5, 6, 7, 8, 9, 10, 11, 12, 13, 14, 15, 16, 17, 18], [0, 1, 2, 3, 4, 5, 6, 7, 8, 9, 10, 11, 12, 13, 14, 15, 16, 17, 18, 19], [0, 1, 2, 3, 4, 5, 6, 7, 8, 9, 10, 11, 12, 13, 14, 15, 16, 17, 18, 19, 20], [0, 1, 2, 3, 4, 5, 6, 7, 8, 9, 10, 11, 12, 13, 14, 15, 16, 17, 18, 19, 20, 21], [0, 1, 2, 3, 4, 5, 6, 7, 8, 9, 10, 11, 12, 13, 14, 15, 16, 17, 18, 19, 20, 21, 22], [0, 1, 2, 3, 4, 5, 6, 7, 8, 9, 10, 11, 12, 13, 14, 15, 16, 17, 18, 19, 20, 21, 22, 23], [0, 1, 2, 3, 4, 5, 6, 7, 8, 9, 10, 11, 12, 13, 14, 15, 16, 17, 18, 19, 20, 21, 22, 23, 24], [0, 1, 2, 3, 4, 5, 6, 7, 8, 9, 10, 11, 12, 13, 14, 15, 16, 17, 18, 19, 20, 21, 22, 23, 24, 25], [0, 1, 2, 3, 4, 5, 6, 7, 8, 9, 10, 11, 12, 13, 14, 15, 16, 17, 18, 19, 20, 21, 22, 23, 24, 25, 26], [0, 1, 2, 3, 4, 5, 6, 7, 8, 9, 10, 11, 12, 13, 14, 15, 16, 17, 18, 19, 20, 21, 22, 23, 24, 25, 26, 27], [0, 1, 2, 3, 4, 5, 6, 7, 8, 9, 10, 11, 12, 13, 14, 15, 16, 17, 18, 19, 20, 21, 22, 23, 24, 25, 26, 27, 28], [0, 1, 2, 3, 4, 5, 6, 7, 8, 9, 10, 11, 12, 13, 14, 15, 16, 17, 18, 19, 20, 21, 22, 23, 24, 25, 26, 27, 28, 29], [0, 1, 2, 3, 4, 5, 6, 7, 8, 9, 10, 11, 12, 13, 14, 15, 16, 17, 18, 19, 20, 21, 22, 23, 24, 25, 26, 27, 28, 29, 30], [0, 1, 2, 3, 4, 5, 6, 7, 8, 9, 10, 11, 12, 13, 14, 15, 16, 17, 18, 19, 20, 21, 22, 23, 24, 25, 26, 27, 28, 29, 30], [0, 1, 2, 3, 4, 5, 6, 7, 8, 9, 10, 11, 12, 13, 14, 15, 16, 17, 18, 19, 20, 21, 22, 23, 24, 25, 26, 27, 28, 29, 30, 32], [0, 1, 2, 3, 4, 5, 6, 7, 8, 9, 10, 11, 12, 13, 14, 15, 16, 17, 18, 19, 20, 21, 22, 23, 24, 25, 26, 27, 28, 29, 30, 31, 32, 33], [0, 1, 2, 3, 4, 5, 6, 7, 8, 9, 10, 11, 12, 13, 14, 15, 16, 17, 18, 19, 20, 21, 22, 23, 24, 25, 26, 27, 28, 29, 30, 31, 32, 33, 34], [0, 1, 2, 3, 4, 5, 6, 7, 8, 9, 10, 11, 12, 13, 14, 15, 16, 17, 18, 19, 20, 21, 22, 23, 24, 25, 26, 27, 28, 29, 30], [0, 1, 2, 3, 4, 5, 6, 7, 8, 9, 10, 11, 12, 13, 14, 15, 16, 17, 18, 19, 20, 21, 22, 23, 24, 25, 26, 27, 28, 29, 30, 31, 32, 33, 34, 35, 36], [0, 1, 2, 3, 4, 5, 6, 7, 8, 9, 10, 11, 12, 13, 14, 15, 16, 17, 18, 19, 20, 21, 22, 23, 24, 25, 26, 27, 28, 29, 30, 31, 32, 33, 34, 35, 36, 37], [0, 1, 2, 3, 4, 5, 6, 7, 8, 9, 10, 11, 12, 13, 14, 15, 16, 17, 18, 19, 20, 21, 22, 23, 24, 25, 26, 27, 28, 29, 30, 31, 32, 33, 34, 35, 36, 37, 38], [0, 1, 2, 3, 4, 5, 6, 7, 8, 9, 10, 11, 12, 13, 14, 15, 16, 17, 18, 19, 20, 21, 22, 23, 24, 25, 26, 27, 28, 29, 30, 31, 32, 33, 34, 35, 36, 37, 38, 39]]) (val := [some (.pointer (some (ad q474 (0 + 0)))), some (.int .i64 x472.From), some (.bool x494), some (.bool (!x494)), some (.bool (!x494)), some undef, some undef, some undef, some undef, some (.bool true), some (.bool true), some undef, some undef, some undef, some undef, some undef, some (.bool true), some (.bool true), some undef, some undef, some undef, some (.bool true), some (.bool true), some undef, some undef, some undef, some (.bool true), some (.bool true), some undef, some undef, some undef, some undef, some undef, some undef, some undef, some undef, some undef, some undef, some undef, some undef, some (.bool true)]) (eff := []) (mask := [[]]) (keys := [[]]) (src := [[.base 4], [.op 0], [.op 1], [.op 2], [.op 3], [.base 4, .op 4], [.op 4, .op 5], [.op 4, .op 6], [.op 4, .op 7], [.op 4, .op 8], [.op 9], [.base 4, .op 10], [.op 10, .op 11], [.base 4, .op 10], [.op 10, .op 13], [.op 10, .op 12, .op 14], [.op 10, .op 15], [.op 16], [.base 4, .op 17], [.op 17, .op 18], [.op 17, .op 19], [.op 17, .op 20], [.op 21], [.base 4, .op 22], [.op 22, .op 23], [.op 22, .op 24], [.op 22, .op 25], [.op 26], [.base 3, .op 27], [.op 27, .op 28], [.op 27, .op 29], [.base 0, .op 30], [.base 3, .op 30], [.op 30, .op 32], [.op 30, .op 31, .op 33], [.op 30, .op 34], [.base 4, .op 30], [.op 30, .op 35, .op 36], [.op 30, .op 37], [.op 27, .op 30, .op 38], [.op 27, .op 39]]) (z := z) (ef := fun p g => ([[]] : List (List (Nat × Value))).getD p []) (hi := fun _ _ => I) (rs := fun p g => ([Bl q474 60 [(.int .i64 x472.From), (.int .i64 x472.To), (.int .i64 x472.Cost)] :: r] : List (List Asn)).getD p []) [(0, 0), (1, 0), (2, 0), (3, 0), (4, 0), (5, 0), (6, 0), (7, 0), (8, 0), (9, 0), (10, 0), (11, 0), (12, 0), (13, 0), (14, 0), (15, 0), (16, 0), (17, 0), (18, 0), (19, 0), (20, 0), (21, 0), (22, 0), (23, 0), (24, 0), (25, 0), (26, 0), (27, 0), (28, 0), (29, 0), (30, 0), (31, 0), (32, 0), (33, 0), (34, 0), (35, 0), (36, 0), (37, 0), (38, 0), (39, 0), (40, 0)] [] [0, 1, 2, 3, 4, 5, 6, 7, 8, 9, 10, 11, 12, 13, 14, 15, 16, 17, 18, 19, 20, 21, 22, 23, 24, 25, 26, 27, 28, 29, 30, 31, 32, 33, 34, 35, 36, 37, 38, 39, 40] 0 mo hE () rfl H (by kernel_rfl) (by kernel_rfl) (fun p g => by cases p <;> rfl) ?_ ?_ (by kernel_rfl) (by kernel_rfl) ?_
              · exact ⟨by intro a w g hE H; exact Dr.is H rfl (Dr.run rfl (d_fieldAddr fld60_0 hE rfl)),
    by intro a w g hE H; exact Dr.is H rfl (Dr.run rfl (d_load sc3 hE rfl H 0 rfl rfl)),
    by intro a w g hE H; exact (Dr.run rfl (d_call c154 hE rfl (f154_ok x472.From hc495  H))).mono fun v w' hR => by obtain ⟨rfl, H⟩ := hR; exact ⟨rfl, H⟩,
    by intro a w g hE H; exact Dr.is H rfl (Dr.run rfl (d_not hE rfl)),
    by intro a w g hE H; exact Dr.is H rfl (Dr.run rfl (d_move hE rfl)),
    by intro a w g hE H; exact Dr.is H rfl (Dr.pG rfl hE rfl rfl (not_t (b_f c496)) ⟨rfl, rfl⟩),
    by intro a w g hE H; exact Dr.is H rfl (Dr.pG rfl hE rfl rfl (not_t (b_f c496)) ⟨rfl, rfl⟩),
    by intro a w g hE H; exact Dr.is H rfl (Dr.pG rfl hE rfl rfl (not_t (b_f c496)) ⟨rfl, rfl⟩),
    by intro a w g hE H; exact Dr.is H rfl (Dr.pG rfl hE rfl rfl (not_t (b_f c496)) ⟨rfl, rfl⟩),
    by intro a w g hE H; exact Dr.is H rfl (Dr.run rfl (d_pT hE rfl (not_t (b_f c496)) rfl)),
    by intro a w g hE H; exact Dr.is H rfl (Dr.run rfl (d_move hE rfl)),
    by intro a w g hE H; exact Dr.is H rfl (Dr.pG rfl hE rfl rfl rfl ⟨rfl, rfl⟩),
    by intro a w g hE H; exact Dr.is H rfl (Dr.pG rfl hE rfl rfl rfl ⟨rfl, rfl⟩),
    by intro a w g hE H; exact Dr.is H rfl (Dr.pG rfl hE rfl rfl rfl ⟨rfl, rfl⟩),
    by intro a w g hE H; exact Dr.is H rfl (Dr.pG rfl hE rfl rfl rfl ⟨rfl, rfl⟩),
    by intro a w g hE H; exact Dr.is H rfl (Dr.pG rfl hE rfl rfl rfl ⟨rfl, rfl⟩),
    by intro a w g hE H; exact Dr.is H rfl (Dr.run rfl (d_pT hE rfl rfl rfl)),
    by intro a w g hE H; exact Dr.is H rfl (Dr.run rfl (d_move hE rfl)),
    by intro a w g hE H; exact Dr.is H rfl (Dr.pG rfl hE rfl rfl rfl ⟨rfl, rfl⟩),
    by intro a w g hE H; exact Dr.is H rfl (Dr.pG rfl hE rfl rfl rfl ⟨rfl, rfl⟩),
    by intro a w g hE H; exact Dr.is H rfl (Dr.pG rfl hE rfl rfl rfl ⟨rfl, rfl⟩),
    by intro a w g hE H; exact Dr.is H rfl (Dr.run rfl (d_pT hE rfl rfl rfl)),
    by intro a w g hE H; exact Dr.is H rfl (Dr.run rfl (d_move hE rfl)),
    by intro a w g hE H; exact Dr.is H rfl (Dr.pG rfl hE rfl rfl rfl ⟨rfl, rfl⟩),
    by intro a w g hE H; exact Dr.is H rfl (Dr.pG rfl hE rfl rfl rfl ⟨rfl, rfl⟩),
    by intro a w g hE H; exact Dr.is H rfl (Dr.pG rfl hE rfl rfl rfl ⟨rfl, rfl⟩),
    by intro a w g hE H; exact Dr.is H rfl (Dr.run rfl (d_pT hE rfl rfl rfl)),
    by intro a w g hE H; exact Dr.is H rfl (Dr.run rfl (d_move hE rfl)),
    by intro a w g hE H; exact Dr.is H rfl (Dr.pG rfl hE rfl rfl rfl ⟨rfl, rfl⟩),
    by intro a w g hE H; exact Dr.is H rfl (Dr.pG rfl hE rfl rfl rfl ⟨rfl, rfl⟩),
    by intro a w g hE H; exact Dr.is H rfl (Dr.pG rfl hE rfl rfl rfl ⟨rfl, rfl⟩),
    by intro a w g hE H; exact Dr.is H rfl (Dr.passU rfl hE rfl rfl ⟨rfl, rfl⟩),
    by intro a w g hE H; exact Dr.is H rfl (Dr.passU rfl hE rfl rfl ⟨rfl, rfl⟩),
    by intro a w g hE H; exact Dr.is H rfl (Dr.passU rfl hE rfl rfl ⟨rfl, rfl⟩),
    by intro a w g hE H; exact Dr.is H rfl (Dr.passU rfl hE rfl rfl ⟨rfl, rfl⟩),
    by intro a w g hE H; exact Dr.is H rfl (Dr.passU rfl hE rfl rfl ⟨rfl, rfl⟩),
    by intro a w g hE H; exact Dr.is H rfl (Dr.passU rfl hE rfl rfl ⟨rfl, rfl⟩),
    by intro a w g hE H; exact Dr.is H rfl (Dr.passU rfl hE rfl rfl ⟨rfl, rfl⟩),
    by intro a w g hE H; exact Dr.is H rfl (Dr.passU rfl hE rfl rfl ⟨rfl, rfl⟩),
    by intro a w g hE H; exact Dr.is H rfl (Dr.pG rfl hE rfl rfl rfl ⟨rfl, rfl⟩),
    by intro a w g hE H; exact Dr.is H rfl (Dr.run rfl (d_pT hE rfl rfl rfl)),
    trivial⟩
              · trivial
              · intro a w g hE H
                have H : St z I w (Bl q474 60 [(.int .i64 x472.From), (.int .i64 x472.To), (.int .i64 x472.Cost)] :: r) := H
                cases hm
                have H := St.del H 0
                exact ⟨hE.sub ⟨rfl, rfl, rfl, rfl, rfl, trivial⟩, H⟩
          · rintro a w ⟨hE, H⟩
            by_cases c509 : s493 = true
            · rw [if_pos c509] at hm
              refine cT hE rfl c509 ?_
              refine wp_seq ?_
              refine wp_region_lit ?_
              refine s1 hE rfl (d_assign hE rfl) fun a hE => ?_
              refine wpList_nil ?_
              refine wp_ret ?_
              cases hm
              have hm := hq425
              simp only [Out.on] at hm
              cases hm
              exact ret1 rfl hE rfl ⟨_, rfl, rfl, H⟩
            · rw [if_neg c509] at hm
              refine cF hE rfl (b_f c509) ?_
              refine wp_skip ?_
              refine wp_region_lit ?_
              refine s1 hE rfl (d_add hE rfl rfl) fun a hE => ?_
              refine s1 hE rfl (d_move hE rfl) fun a hE => ?_
              refine wpList_nil ?_
              exact ⟨k, Nat.lt_succ_self k, IntKind.i64.wrap (y340 + 1), hm, hE.sub ⟨rfl, rfl, rfl, rfl, trivial⟩, H⟩
        · rw [if_neg c427] at hm
          refine cF hE rfl (decide_eq_false c427) ?_
          refine wp_exit ?_
          cases hm
          exact ⟨_, rfl, hE.sub trivial, H⟩
    · exact ⟨0, hj425, hE.sub ⟨rfl, rfl, rfl, rfl, trivial⟩, H⟩
  · rintro a w ⟨s425, rfl, hE, H⟩
    have hm := hq425
    simp only [Out.on] at hm
    refine wp_seq ?_
    refine wp_region_lit ?_
    refine s1 hE rfl (d_assign hE rfl) fun a hE => ?_
    refine wpList_nil ?_
    refine wp_ret ?_
    cases hm
    exact ret1 rfl hE rfl ⟨_, rfl, rfl, H⟩
def m86_l0 (a0 : List S_api_Arc) : Nat → (List (Int × Bool)) → Int → Option (List (Int × Bool))
  | 0, _, _ => none
  | k + 1, m153, y154 => if y154 < (a0.length : Int) then (Option.bind (rdx a0 y154) fun x206 => Option.bind (some (mput m153 x206.From true)) fun m213 => Option.bind (some (mput m213 x206.To true)) fun m215 => m86_l0 a0 k m215 (IntKind.i64.wrap (y154 + 1))) else (some m153)
def m86 (k : Nat) (a0 : List S_api_Arc) : Option (List Int) := Option.bind (m98 k a0) fun x117 => if x117 = 0 then (Option.bind (m86_l0 a0 k [] 0) fun s186 => Option.bind (skeys s186) fun l222 => some l222) else (some [])
set_option maxRecDepth 20000 in
set_option maxHeartbeats 4000000 in
theorem f86_ok (k : Nat) {u0 : Value} (a0 : List S_api_Arc) {res : (List Int)} (hm : m86 k a0 = some res) {z w : World} {I : Hp} {r : List Asn} (hr0 : Rd c_api_Arc z I r u0 a0) (H : St z I w (r)) :
    Calls Try.prog 86 #[u0] w (Rt fun v w' => ∃ v113 : Value, v = v113 ∧ St z I w' (OwnSl (cInt .i64) v113 res :: r)) := by
  have hI := Hp.le_refl I
  unfold m86 at hm
  refine enter (args := [u0]) Try.func86 rfl Try.ntmps86 rfl fun a hE => ?_
  refine wp_seq ?_
  refine wp_region_lit ?_
  refine s1 hE rfl (d_assign hE rfl) fun a hE => ?_
  refine wpList_nil ?_
  refine wp_seq ?_
  refine wp_seq ?_
  refine wp_region_lit ?_
  refine s1 hE rfl (d_move hE rfl) fun a hE => ?_
  obtain ⟨x117, hc118, hm⟩ := bnd hm
  refine s2 hE rfl (d_call c98 hE rfl (f98_ok k a0 hc118 hr0 H)) fun a v w hR hE => ?_
  obtain ⟨rfl, H⟩ := hR
  refine s1 hE rfl (d_neq hE rfl rfl) fun a hE => ?_
  refine wpList_nil ?_
  by_cases c120 : x117 = 0
  · rw [if_pos c120] at hm
    refine cF hE rfl (not_f (decide_eq_true c120)) ?_
    refine wp_skip ?_
    refine wp_seq ?_
    refine wp_region_lit ?_
    refine s2 hE rfl (d_makeMap (c := cBool) (g := false) H) fun a v w hR hE => ?_
    obtain ⟨q122, rfl, H⟩ := hR
    refine s1 hE rfl (d_assign hE rfl) fun a hE => ?_
    refine wpList_nil ?_
    refine wp_seq ?_
    refine wp_seq ?_
    refine wp_region_lit ?_
    refine s1 hE rfl (d_move hE rfl) fun a hE => ?_
    refine s1 hE rfl (d_lenS Try.underlying55 hE rfl (Rd.st hr0 hI (H).drop)) fun a hE => ?_
    refine s1 hE rfl (d_move hE rfl) fun a hE => ?_
    refine wpList_nil ?_
    obtain ⟨s186, hj186, hm⟩ := bnd hm
    refine cut2 (fun a w => Env a 26 [(3, (.map (some q122)))] ∧ St z I w (MapR cBool false q122 s186 :: r)) ?_ ?_
    · refine wp_block ?_
      refine loopI (fun k a w => ∃ m153 : List (Int × Bool), ∃ y154 : Int, m86_l0 a0 k m153 y154 = some s186 ∧ Env a 26 [(3, (.map (some q122))), (10, u0), (11, (.int .i64 (a0.length : Int))), (12, (.int .i64 y154))] ∧ St z I w (MapR cBool false q122 m153 :: r)) ?_ k _ _ ?_
      · rintro k a w ⟨m153, y154, hm, hE, H⟩
        cases k with
        | zero => rw [m86_l0] at hm; cases hm
        | succ k =>
          rw [m86_l0] at hm
          refine wp_seq ?_
          refine wp_region_lit ?_
          refine s1 hE rfl (d_lss hE rfl rfl) fun a hE => ?_
          refine wpList_nil ?_
          refine wp_seq ?_
          by_cases c188 : y154 < (a0.length : Int)
          · rw [if_pos c188] at hm
            refine cT hE rfl (decide_eq_true c188) ?_
            refine wp_skip ?_
            refine wp_seq ?_
            refine wp_block ?_
            refine wp_seq ?_
            refine wp_region_lit ?_
            obtain ⟨x206, hx207, hm⟩ := bnd hm
            refine s1 hE rfl (d_indexS sl55 hE rfl rfl (Rd.st hr0 hI (H).drop) hx207) fun a hE => ?_
            refine s1 hE rfl (d_loadSA ag60 rfl hE rfl (Rd.st hr0 hI (H).drop) hx207 (fun _ e => e)) fun a hE => ?_
            refine s2 hE rfl (d_alloc al60 H) fun a v w hR hE => ?_
            obtain ⟨q208, rfl, H⟩ := hR
            refine s3 (d_store sz60 hE rfl rfl rfl (oneAll rfl) H rfl) fun v w hR => ?_
            have H : St z I w (Bl q208 60 [(.int .i64 x206.From), (.int .i64 x206.To), (.int .i64 x206.Cost)] :: MapR cBool false q122 m153 :: r) := hR
            refine wpList_nil ?_
            obtain ⟨m213, hl214, hm⟩ := bnd hm
            obtain ⟨m215, hl216, hm⟩ := bnd hm
            refine Dr.region (γ := Unit) (pre := [[], [], [1], [], [], [4], [0, 1, 2], [0, 1, 2, 3, 4, 5, 6]]) (val := [some (.map (some q122)), some (.pointer (some (ad q208 (0 + 0)))), some (.int .i64 x206.From), some (.map (some q122)), some (.pointer (some (ad q208 (0 + 1)))), some (.int .i64 x206.To), none, none]) (eff := [6, 7]) (mask := [[], [6], [6, 7]]) (keys := [[], [], []]) (src := [[.base 3], [.base 5], [.op 1], [.base 3], [.base 5], [.op 4], [.op 0, .op 2], [.op 3, .op 5]]) (z := z) (ef := fun p g => ([[], [], []] : List (List (Nat × Value))).getD p []) (hi := fun _ _ => I) (rs := fun p g => ([Bl q208 60 [(.int .i64 x206.From), (.int .i64 x206.To), (.int .i64 x206.Cost)] :: MapR cBool false q122 m153 :: r, MapR cBool false q122 m213 :: Bl q208 60 [(.int .i64 x206.From), (.int .i64 x206.To), (.int .i64 x206.Cost)] :: r, MapR cBool false q122 m215 :: Bl q208 60 [(.int .i64 x206.From), (.int .i64 x206.To), (.int .i64 x206.Cost)] :: r] : List (List Asn)).getD p []) [(0, 0), (1, 0), (2, 0), (3, 0), (4, 0), (5, 0), (3, 1), (4, 1), (5, 1)] [(0, 6, 1), (1, 7, 2)] [0, 1, 2, 3, 4, 5] 2 mo hE () rfl H (by kernel_rfl) (by kernel_rfl) (fun p g => by rcases p with _ | _ | _ | p <;> rfl) ?_ ?_ (by kernel_rfl) (by kernel_rfl) ?_
            · exact ⟨by intro a w g hE H; exact Dr.is H rfl (Dr.run rfl (d_move hE rfl)),
    by intro a w g hE H; exact Dr.is H rfl (Dr.run rfl (d_fieldAddr fld60_0 hE rfl)),
    by intro a w g hE H; exact Dr.is H rfl (Dr.run rfl (d_load sc3 hE rfl H 0 rfl rfl)),
    by intro a w g hE H; exact Dr.is H rfl (Dr.run rfl (d_move hE rfl)),
    by intro a w g hE H; exact Dr.is H rfl (Dr.run rfl (d_fieldAddr fld60_1 hE rfl)),
    by intro a w g hE H; exact Dr.is H rfl (Dr.run rfl (d_load sc3 hE rfl H 0 rfl rfl)),
    by intro a w g hE H; exact Dr.is H rfl (Dr.run rfl (d_move hE rfl)),
    by intro a w g hE H; exact Dr.is H rfl (Dr.run rfl (d_fieldAddr fld60_1 hE rfl)),
    by intro a w g hE H; exact Dr.is H rfl (Dr.run rfl (d_load sc3 hE rfl H 1 rfl rfl)),
    trivial⟩
            · exact ⟨by intro a w g hE hF H; have H := St.get H 1 rfl; refine (Dr.run rfl (b_mapUpdate (c := cBool) (g := false) (cs := [(.bool true)]) (xv := true) Try.underlying158 Try.underlying3 hE rfl rfl rfl rfl rfl hl214 H)).mono fun v w hR => ?_; have H : St z I w (MapR cBool false q122 m213 :: Bl q208 60 [(.int .i64 x206.From), (.int .i64 x206.To), (.int .i64 x206.Cost)] :: r) := hR; exact ⟨(), H, rfl⟩,
    by intro a w g hE hF H; refine (Dr.run rfl (b_mapUpdate (c := cBool) (g := false) (cs := [(.bool true)]) (xv := true) Try.underlying158 Try.underlying3 hE rfl rfl rfl rfl rfl hl216 H)).mono fun v w hR => ?_; have H : St z I w (MapR cBool false q122 m215 :: Bl q208 60 [(.int .i64 x206.From), (.int .i64 x206.To), (.int .i64 x206.Cost)] :: r) := hR; exact ⟨(), H, rfl⟩,
    trivial⟩
            · intro a w g hE H
              have H : St z I w (MapR cBool false q122 m215 :: Bl q208 60 [(.int .i64 x206.From), (.int .i64 x206.To), (.int .i64 x206.Cost)] :: r) := H
              refine wp_region_lit ?_
              refine s1 hE rfl (d_add hE rfl rfl) fun a hE => ?_
              refine s1 hE rfl (d_move hE rfl) fun a hE => ?_
              refine wpList_nil ?_
              have H := St.del H 1
              exact ⟨k, Nat.lt_succ_self k, m215, IntKind.i64.wrap (y154 + 1), hm, hE.sub ⟨rfl, rfl, rfl, rfl, trivial⟩, H⟩
          · rw [if_neg c188] at hm
            refine cF hE rfl (decide_eq_false c188) ?_
            refine wp_exit ?_
            cases hm
            exact ⟨hE.sub ⟨rfl, trivial⟩, H⟩
      · exact ⟨[], 0, hj186, hE.sub ⟨rfl, rfl, rfl, rfl, trivial⟩, H⟩
    · rintro a w ⟨hE, H⟩
      refine wp_seq ?_
      refine wp_region_lit ?_
      refine s1 hE rfl (d_move hE rfl) fun a hE => ?_
      refine s2 hE rfl (d_call c104 hE rfl (k104 H)) fun a v w hR hE => ?_
      obtain ⟨q221, rfl, H⟩ := hR
      obtain ⟨l222, hl223, hm⟩ := bnd hm
      refine s2 hE rfl (d_call c75 hE rfl (s75_158 hl223 H 0 rfl 1 rfl)) fun a v w hR hE => ?_
      obtain ⟨v224, rfl⟩ : ∃ x, x = v := ⟨v, rfl⟩
      have H : St z I w (OwnSl (cInt .i64) v224 l222 :: Bl q221 158 [(.map (some q122))] :: MapR cBool false q122 s186 :: r) := hR
      refine s1 hE rfl (d_assign hE rfl) fun a hE => ?_
      refine wpList_nil ?_
      refine wp_ret ?_
      cases hm
      have H := St.del H 1
      have H := St.del H 1
      exact ret1 rfl hE rfl ⟨_, rfl, v224, rfl, H⟩
  · rw [if_neg c120] at hm
    refine cT hE rfl (not_t (decide_eq_false c120)) ?_
    refine wp_seq ?_
    refine wp_region_lit ?_
    refine s1 hE rfl (d_assign hE rfl) fun a hE => ?_
    refine wpList_nil ?_
    refine wp_ret ?_
    cases hm
    have H := St.nil (c := (cInt .i64)) H none
    exact ret1 rfl hE rfl ⟨_, rfl, (.slice none 0 0), rfl, H⟩
def m149_l0 (a0 : List Int) (a1 : Int) : Nat → Int → Option (Out Int Unit)
  | 0, _ => none
  | k + 1, y60 => if y60 < (a0.length : Int) then (Option.bind (rdx a0 y60) fun x86 => if a1 = x86 then (some (.ret y60)) else (m149_l0 a0 a1 k (IntKind.i64.wrap (y60 + 1)))) else (some (.go ()))
def m149 (k : Nat) (a0 : List Int) (a1 : Int) : Option Int := Option.bind (m149_l0 a0 a1 k 0) fun s75 => s75.on (fun q_ => some q_) fun s75 => some (-1)
set_option maxRecDepth 20000 in
set_option maxHeartbeats 4000000 in
theorem f149_ok (k : Nat) {u0 : Value} (a0 : List Int) (a1 : Int) {res : Int} (hm : m149 k a0 a1 = some res) {z w : World} {I : Hp} {r : List Asn} (hr0 : Rd (cInt .i64) z I r u0 a0) (H : St z I w (r)) :
    Calls Try.prog 149 #[u0, (.int .i64 a1)] w (Rt fun v w' => v = (.int .i64 res) ∧ St z I w' (r)) := by
  have hI := Hp.le_refl I
  unfold m149 at hm
  refine enter (args := [u0, (.int .i64 a1)]) Try.func149 rfl Try.ntmps149 rfl fun a hE => ?_
  refine wp_seq ?_
  refine wp_region_lit ?_
  refine s1 hE rfl (d_assign hE rfl) fun a hE => ?_
  refine wpList_nil ?_
  refine wp_seq ?_
  refine wp_seq ?_
  refine wp_region_lit ?_
  refine s1 hE rfl (d_move hE rfl) fun a hE => ?_
  refine s1 hE rfl (d_lenS Try.underlying51 hE rfl (Rd.st hr0 hI H)) fun a hE => ?_
  refine s1 hE rfl (d_move hE rfl) fun a hE => ?_
  refine wpList_nil ?_
  obtain ⟨s75, hj75, hq75⟩ := bnd hm
  refine cut2 (fun a w => ∃ s_ : Unit, s75 = .go s_ ∧ Env a 19 [] ∧ St z I w (r)) ?_ ?_
  · refine wp_block ?_
    refine loopI (fun k a w => ∃ y60 : Int, m149_l0 a0 a1 k y60 = some s75 ∧ Env a 19 [(0, u0), (1, (.int .i64 a1)), (7, (.int .i64 (a0.length : Int))), (8, (.int .i64 y60))] ∧ St z I w (r)) ?_ k _ _ ?_
    · rintro k a w ⟨y60, hm, hE, H⟩
      cases k with
      | zero => rw [m149_l0] at hm; cases hm
      | succ k =>
        rw [m149_l0] at hm
        refine wp_seq ?_
        refine wp_region_lit ?_
        refine s1 hE rfl (d_lss hE rfl rfl) fun a hE => ?_
        refine wpList_nil ?_
        refine wp_seq ?_
        by_cases c77 : y60 < (a0.length : Int)
        · rw [if_pos c77] at hm
          refine cT hE rfl (decide_eq_true c77) ?_
          refine wp_skip ?_
          refine wp_seq ?_
          refine wp_block ?_
          refine wp_seq ?_
          refine wp_region_lit ?_
          refine s1 hE rfl (d_move hE rfl) fun a hE => ?_
          refine s1 hE rfl (d_assign hE rfl) fun a hE => ?_
          refine wpList_nil ?_
          refine wp_seq ?_
          refine wp_region_lit ?_
          refine s1 hE rfl (d_move hE rfl) fun a hE => ?_
          refine s1 hE rfl (d_move hE rfl) fun a hE => ?_
          refine s1 hE rfl (d_move hE rfl) fun a hE => ?_
          obtain ⟨x86, hx87, hm⟩ := bnd hm
          refine s1 hE rfl (d_indexS sl51 hE rfl rfl (Rd.st hr0 hI H) hx87) fun a hE => ?_
          refine s1 hE rfl (d_loadS1 sc3 hE rfl (Rd.st hr0 hI H) hx87 (fun _ e => e)) fun a hE => ?_
          refine s1 hE rfl (d_eql hE rfl rfl) fun a hE => ?_
          refine wpList_nil ?_
          by_cases c89 : a1 = x86
          · rw [if_pos c89] at hm
            refine cT hE rfl (decide_eq_true c89) ?_
            refine wp_seq ?_
            refine wp_region_lit ?_
            refine s1 hE rfl (d_move hE rfl) fun a hE => ?_
            refine s1 hE rfl (d_assign hE rfl) fun a hE => ?_
            refine wpList_nil ?_
            refine wp_ret ?_
            cases hm
            have hm := hq75
            simp only [Out.on] at hm
            cases hm
            exact ret1 rfl hE rfl ⟨_, rfl, rfl, H⟩
          · rw [if_neg c89] at hm
            refine cF hE rfl (decide_eq_false c89) ?_
            refine wp_skip ?_
            refine wp_region_lit ?_
            refine s1 hE rfl (d_add hE rfl rfl) fun a hE => ?_
            refine s1 hE rfl (d_move hE rfl) fun a hE => ?_
            refine wpList_nil ?_
            exact ⟨k, Nat.lt_succ_self k, IntKind.i64.wrap (y60 + 1), hm, hE.sub ⟨rfl, rfl, rfl, rfl, trivial⟩, H⟩
        · rw [if_neg c77] at hm
          refine cF hE rfl (decide_eq_false c77) ?_
          refine wp_exit ?_
          cases hm
          exact ⟨_, rfl, hE.sub trivial, H⟩
    · exact ⟨0, hj75, hE.sub ⟨rfl, rfl, rfl, rfl, trivial⟩, H⟩
  · rintro a w ⟨s75, rfl, hE, H⟩
    have hm := hq75
    simp only [Out.on] at hm
    refine wp_seq ?_
    refine wp_region_lit ?_
    refine s1 hE rfl (d_assign hE rfl) fun a hE => ?_
    refine wpList_nil ?_
    refine wp_ret ?_
    cases hm
    exact ret1 rfl hE rfl ⟨_, rfl, rfl, H⟩
def m91 (k : Nat) (a0 : List Int) (a1 : Int) : Option Bool := Option.bind (m149 k a0 a1) fun x8 => some (decide (0 ≤ x8))
set_option maxRecDepth 20000 in
set_option maxHeartbeats 4000000 in
theorem f91_ok (k : Nat) {u0 : Value} (a0 : List Int) (a1 : Int) {res : Bool} (hm : m91 k a0 a1 = some res) {z w : World} {I : Hp} {r : List Asn} (hr0 : Rd (cInt .i64) z I r u0 a0) (H : St z I w (r)) :
    Calls Try.prog 91 #[u0, (.int .i64 a1)] w (Rt fun v w' => v = (.bool res) ∧ St z I w' (r)) := by
  have hI := Hp.le_refl I
  unfold m91 at hm
  refine enter (args := [u0, (.int .i64 a1)]) Try.func91 rfl Try.ntmps91 rfl fun a hE => ?_
  refine wp_seq ?_
  refine wp_region_lit ?_
  refine s1 hE rfl (d_assign hE rfl) fun a hE => ?_
  refine wpList_nil ?_
  refine wp_seq ?_
  refine wp_region_lit ?_
  refine s1 hE rfl (d_move hE rfl) fun a hE => ?_
  refine s1 hE rfl (d_move hE rfl) fun a hE => ?_
  obtain ⟨x8, hc9, hm⟩ := bnd hm
  refine s2 hE rfl (d_call c149 hE rfl (f149_ok k a0 a1 hc9 hr0 H)) fun a v w hR hE => ?_
  obtain ⟨rfl, H⟩ := hR
  refine s1 hE rfl (d_geq hE rfl rfl) fun a hE => ?_
  refine s1 hE rfl (d_assign hE rfl) fun a hE => ?_
  refine wpList_nil ?_
  refine wp_ret ?_
  cases hm
  exact ret1 rfl hE rfl ⟨_, rfl, rfl, H⟩
def m30_l0 (a0 : List Int) (a1 : Int) : Nat → Int → Option (Out Bool Unit)
  | 0, _ => none
  | k + 1, y60 => if y60 < (a0.length : Int) then (Option.bind (rdx a0 y60) fun x86 => if x86 = a1 then (some (.ret true)) else (m30_l0 a0 a1 k (IntKind.i64.wrap (y60 + 1)))) else (some (.go ()))
def m30 (k : Nat) (a0 : List Int) (a1 : Int) : Option Bool := Option.bind (m30_l0 a0 a1 k 0) fun s75 => s75.on (fun q_ => some q_) fun s75 => some false
set_option maxRecDepth 20000 in
set_option maxHeartbeats 4000000 in
theorem f30_ok (k : Nat) {u0 : Value} (a0 : List Int) (a1 : Int) {res : Bool} (hm : m30 k a0 a1 = some res) {z w : World} {I : Hp} {r : List Asn} (hr0 : Rd (cInt .i64) z I r u0 a0) (H : St z I w (r)) :
    Calls Try.prog 30 #[u0, (.int .i64 a1)] w (Rt fun v w' => v = (.bool res) ∧ St z I w' (r)) := by
  have hI := Hp.le_refl I
  unfold m30 at hm
  refine enter (args := [u0, (.int .i64 a1)]) Try.func30 rfl Try.ntmps30 rfl fun a hE => ?_
  refine wp_seq ?_
  refine wp_region_lit ?_
  refine s1 hE rfl (d_assign hE rfl) fun a hE => ?_
  refine wpList_nil ?_
  refine wp_seq ?_
  refine wp_seq ?_
  refine wp_region_lit ?_
  refine s1 hE rfl (d_assign hE rfl) fun a hE => ?_
  refine wpList_nil ?_
  obtain ⟨s75, hj75, hq75⟩ := bnd hm
  refine cut2 (fun a w => ∃ s_ : Unit, s75 = .go s_ ∧ Env a 18 [] ∧ St z I w (r)) ?_ ?_
  · refine wp_block ?_
    refine loopI (fun k a w => ∃ y60 : Int, m30_l0 a0 a1 k y60 = some s75 ∧ Env a 18 [(0, u0), (1, (.int .i64 a1)), (5, (.int .i64 y60))] ∧ St z I w (r)) ?_ k _ _ ?_
    · rintro k a w ⟨y60, hm, hE, H⟩
      cases k with
      | zero => rw [m30_l0] at hm; cases hm
      | succ k =>
        rw [m30_l0] at hm
        refine wp_seq ?_
        refine wp_seq ?_
        refine wp_region_lit ?_
        refine s1 hE rfl (d_move hE rfl) fun a hE => ?_
        refine s1 hE rfl (d_move hE rfl) fun a hE => ?_
        refine s1 hE rfl (d_lenS Try.underlying51 hE rfl (Rd.st hr0 hI H)) fun a hE => ?_
        refine s1 hE rfl (d_lss hE rfl rfl) fun a hE => ?_
        refine wpList_nil ?_
        by_cases c77 : y60 < (a0.length : Int)
        · rw [if_pos c77] at hm
          refine cT hE rfl (decide_eq_true c77) ?_
          refine wp_skip ?_
          refine wp_seq ?_
          refine wp_block ?_
          refine wp_seq ?_
          refine wp_region_lit ?_
          refine s1 hE rfl (d_move hE rfl) fun a hE => ?_
          refine s1 hE rfl (d_move hE rfl) fun a hE => ?_
          obtain ⟨x86, hx87, hm⟩ := bnd hm
          refine s1 hE rfl (d_indexS sl51 hE rfl rfl (Rd.st hr0 hI H) hx87) fun a hE => ?_
          refine s1 hE rfl (d_loadS1 sc3 hE rfl (Rd.st hr0 hI H) hx87 (fun _ e => e)) fun a hE => ?_
          refine s1 hE rfl (d_move hE rfl) fun a hE => ?_
          refine s1 hE rfl (d_eql hE rfl rfl) fun a hE => ?_
          refine wpList_nil ?_
          by_cases c89 : x86 = a1
          · rw [if_pos c89] at hm
            refine cT hE rfl (decide_eq_true c89) ?_
            refine wp_seq ?_
            refine wp_region_lit ?_
            refine s1 hE rfl (d_assign hE rfl) fun a hE => ?_
            refine wpList_nil ?_
            refine wp_ret ?_
            cases hm
            have hm := hq75
            simp only [Out.on] at hm
            cases hm
            exact ret1 rfl hE rfl ⟨_, rfl, rfl, H⟩
          · rw [if_neg c89] at hm
            refine cF hE rfl (decide_eq_false c89) ?_
            refine wp_skip ?_
            refine wp_region_lit ?_
            refine s1 hE rfl (d_move hE rfl) fun a hE => ?_
            refine s1 hE rfl (d_add hE rfl rfl) fun a hE => ?_
            refine s1 hE rfl (d_assign hE rfl) fun a hE => ?_
            refine wpList_nil ?_
            exact ⟨k, Nat.lt_succ_self k, IntKind.i64.wrap (y60 + 1), hm, hE.sub ⟨rfl, rfl, rfl, trivial⟩, H⟩
        · rw [if_neg c77] at hm
          refine cF hE rfl (decide_eq_false c77) ?_
          refine wp_exit ?_
          cases hm
          exact ⟨_, rfl, hE.sub trivial, H⟩
    · exact ⟨0, hj75, hE.sub ⟨rfl, rfl, rfl, trivial⟩, H⟩
  · rintro a w ⟨s75, rfl, hE, H⟩
    have hm := hq75
    simp only [Out.on] at hm
    refine wp_seq ?_
    refine wp_region_lit ?_
    refine s1 hE rfl (d_assign hE rfl) fun a hE => ?_
    refine wpList_nil ?_
    refine wp_ret ?_
    cases hm
    exact ret1 rfl hE rfl ⟨_, rfl, rfl, H⟩
def m29_l0 (a0 : List S_api_Arc) : Nat → Int → Option (Out Bool Unit)
  | 0, _ => none
  | k + 1, y380 => if y380 < (a0.length : Int) then (Option.bind (rdx a0 y380) fun x527 => Option.bind (α := Bool) (if x527.From < 1 then (some true) else (if 64 < x527.From then (some true) else (if x527.To < 1 then (some true) else (if 64 < x527.To then (some true) else (if x527.From = x527.To then (some true) else (if x527.Cost < 1 then (some true) else (some (decide (1073741824 < x527.Cost))))))))) fun s537 => if s537 = true then (some (.ret false)) else (Option.bind (α := Bool) (if 0 < y380 then (Option.bind (rdx a0 (IntKind.i64.wrap (y380 - 1))) fun x560 => if x527.From < x560.From then (some true) else (Option.bind (rdx a0 (IntKind.i64.wrap (y380 - 1))) fun x563 => if x563.From = x527.From then (Option.bind (rdx a0 (IntKind.i64.wrap (y380 - 1))) fun x566 => some (decide (x527.To ≤ x566.To))) else (some false))) else (some false)) fun s558 => if s558 = true then (some (.ret false)) else (m29_l0 a0 k (IntKind.i64.wrap (y380 + 1))))) else (some (.go ()))
def m29 (k : Nat) (a0 : List S_api_Arc) : Option Bool := Option.bind (m29_l0 a0 k 0) fun s475 => s475.on (fun q_ => some q_) fun s475 => some true
set_option maxRecDepth 20000 in
set_option maxHeartbeats 4000000 in
theorem f29_ok (k : Nat) {u0 : Value} (a0 : List S_api_Arc) {res : Bool} (hm : m29 k a0 = some res) {z w : World} {I : Hp} {r : List Asn} (hr0 : Rd c_api_Arc z I r u0 a0) (H : St z I w (r)) :
    Calls Try.prog 29 #[u0] w (Rt fun v w' => v = (.bool res) ∧ St z I w' (r)) := by
  have hI := Hp.le_refl I
  unfold m29 at hm
  refine enter (args := [u0]) Try.func29 rfl Try.ntmps29 rfl fun a hE => ?_
  refine wp_seq ?_
  refine wp_region_lit ?_
  refine s1 hE rfl (d_assign hE rfl) fun a hE => ?_
  refine wpList_nil ?_
  refine wp_seq ?_
  refine wp_seq ?_
  refine wp_region_lit ?_
  refine s1 hE rfl (d_assign hE rfl) fun a hE => ?_
  refine wpList_nil ?_
  obtain ⟨s475, hj475, hq475⟩ := bnd hm
  refine cut2 (fun a w => ∃ s_ : Unit, s475 = .go s_ ∧ Env a 85 [] ∧ St z I w (r)) ?_ ?_
  · refine wp_block ?_
    refine loopI (fun k a w => ∃ y380 : Int, m29_l0 a0 k y380 = some s475 ∧ Env a 85 [(0, u0), (3, (.int .i64 y380))] ∧ St z I w (r)) ?_ k _ _ ?_
    · rintro k a w ⟨y380, hm, hE, H⟩
      cases k with
      | zero => rw [m29_l0] at hm; cases hm
      | succ k =>
        rw [m29_l0] at hm
        refine wp_seq ?_
        refine wp_seq ?_
        refine wp_region_lit ?_
        refine s1 hE rfl (d_move hE rfl) fun a hE => ?_
        refine s1 hE rfl (d_move hE rfl) fun a hE => ?_
        refine s1 hE rfl (d_lenS Try.underlying55 hE rfl (Rd.st hr0 hI H)) fun a hE => ?_
        refine s1 hE rfl (d_lss hE rfl rfl) fun a hE => ?_
        refine wpList_nil ?_
        by_cases c477 : y380 < (a0.length : Int)
        · rw [if_pos c477] at hm
          refine cT hE rfl (decide_eq_true c477) ?_
          refine wp_skip ?_
          refine wp_seq ?_
          refine wp_block ?_
          refine wp_seq ?_
          refine wp_region_lit ?_
          refine s1 hE rfl (d_move hE rfl) fun a hE => ?_
          refine s1 hE rfl (d_move hE rfl) fun a hE => ?_
          obtain ⟨x527, hx528, hm⟩ := bnd hm
          refine s1 hE rfl (d_indexS sl55 hE rfl rfl (Rd.st hr0 hI H) hx528) fun a hE => ?_
          refine s1 hE rfl (d_loadSA ag60 rfl hE rfl (Rd.st hr0 hI H) hx528 (fun _ e => e)) fun a hE => ?_
          refine s2 hE rfl (d_alloc al60 H) fun a v w hR hE => ?_
          obtain ⟨q529, rfl, H⟩ := hR
          refine s3 (d_store sz60 hE rfl rfl rfl (oneAll rfl) H rfl) fun v w hR => ?_
          have H : St z I w (Bl q529 60 [(.int .i64 x527.From), (.int .i64 x527.To), (.int .i64 x527.Cost)] :: r) := hR
          refine wpList_nil ?_
          refine wp_seq ?_
          refine wp_seq ?_
          obtain ⟨s537, hj537, hm⟩ := bnd hm
          refine cut2 (fun a w => Env a 85 [(0, u0), (3, (.int .i64 y380)), (4, (.pointer (some (ad q529 0)))), (49, (.bool s537))] ∧ St z I w (Bl q529 60 [(.int .i64 x527.From), (.int .i64 x527.To), (.int .i64 x527.Cost)] :: r)) ?_ ?_
          · have hm := hj537
            refine wp_region_lit ?_
            refine s1 hE rfl (d_fieldAddr fld60_0 hE rfl) fun a hE => ?_
            refine s1 hE rfl (d_load sc3 hE rfl H 0 rfl rfl) fun a hE => ?_
            refine s1 hE rfl (d_lss hE rfl rfl) fun a hE => ?_
            refine s1 hE rfl (d_move hE rfl) fun a hE => ?_
            by_cases c538 : x527.From < 1
            · rw [if_pos c538] at hm
              refine gP hE rfl rfl rfl (decide_eq_true c538) fun a hE => ?_
              refine gP hE rfl rfl rfl (decide_eq_true c538) fun a hE => ?_
              refine gP hE rfl rfl rfl (decide_eq_true c538) fun a hE => ?_
              refine s1 hE rfl (d_pT hE rfl (decide_eq_true c538) rfl) fun a hE => ?_
              refine s1 hE rfl (d_move hE rfl) fun a hE => ?_
              refine gP hE rfl rfl rfl rfl fun a hE => ?_
              refine gP hE rfl rfl rfl rfl fun a hE => ?_
              refine gP hE rfl rfl rfl rfl fun a hE => ?_
              refine s1 hE rfl (d_pT hE rfl rfl rfl) fun a hE => ?_
              refine s1 hE rfl (d_move hE rfl) fun a hE => ?_
              refine gP hE rfl rfl rfl rfl fun a hE => ?_
              refine gP hE rfl rfl rfl rfl fun a hE => ?_
              refine gP hE rfl rfl rfl rfl fun a hE => ?_
              refine s1 hE rfl (d_pT hE rfl rfl rfl) fun a hE => ?_
              refine s1 hE rfl (d_move hE rfl) fun a hE => ?_
              refine gP hE rfl rfl rfl rfl fun a hE => ?_
              refine gP hE rfl rfl rfl rfl fun a hE => ?_
              refine gP hE rfl rfl rfl rfl fun a hE => ?_
              refine gP hE rfl rfl rfl rfl fun a hE => ?_
              refine gP hE rfl rfl rfl rfl fun a hE => ?_
              refine s1 hE rfl (d_pT hE rfl rfl rfl) fun a hE => ?_
              refine s1 hE rfl (d_move hE rfl) fun a hE => ?_
              refine gP hE rfl rfl rfl rfl fun a hE => ?_
              refine gP hE rfl rfl rfl rfl fun a hE => ?_
              refine gP hE rfl rfl rfl rfl fun a hE => ?_
              refine s1 hE rfl (d_pT hE rfl rfl rfl) fun a hE => ?_
              refine s1 hE rfl (d_move hE rfl) fun a hE => ?_
              refine gP hE rfl rfl rfl rfl fun a hE => ?_
              refine gP hE rfl rfl rfl rfl fun a hE => ?_
              refine gP hE rfl rfl rfl rfl fun a hE => ?_
              refine s1 hE rfl (d_pT hE rfl rfl rfl) fun a hE => ?_
              refine wpList_nil ?_
              cases hm
              exact ⟨hE.sub ⟨rfl, rfl, rfl, rfl, trivial⟩, H⟩
            · rw [if_neg c538] at hm
              refine gR hE rfl rfl (decide_eq_false c538) ?_
              refine s1 hE rfl (d_fieldAddr fld60_0 hE rfl) fun a hE => ?_
              refine gR hE rfl rfl (decide_eq_false c538) ?_
              refine s1 hE rfl (d_load sc3 hE rfl H 0 rfl rfl) fun a hE => ?_
              refine gR hE rfl rfl (decide_eq_false c538) ?_
              refine s1 hE rfl (d_gtr hE rfl rfl) fun a hE => ?_
              refine s1 hE rfl (d_pF hE rfl (decide_eq_false c538) rfl) fun a hE => ?_
              refine s1 hE rfl (d_move hE rfl) fun a hE => ?_
              by_cases c539 : 64 < x527.From
              · rw [if_pos c539] at hm
                refine gP hE rfl rfl rfl (decide_eq_true c539) fun a hE => ?_
                refine gP hE rfl rfl rfl (decide_eq_true c539) fun a hE => ?_
                refine gP hE rfl rfl rfl (decide_eq_true c539) fun a hE => ?_
                refine s1 hE rfl (d_pT hE rfl (decide_eq_true c539) rfl) fun a hE => ?_
                refine s1 hE rfl (d_move hE rfl) fun a hE => ?_
                refine gP hE rfl rfl rfl rfl fun a hE => ?_
                refine gP hE rfl rfl rfl rfl fun a hE => ?_
                refine gP hE rfl rfl rfl rfl fun a hE => ?_
                refine s1 hE rfl (d_pT hE rfl rfl rfl) fun a hE => ?_
                refine s1 hE rfl (d_move hE rfl) fun a hE => ?_
                refine gP hE rfl rfl rfl rfl fun a hE => ?_
                refine gP hE rfl rfl rfl rfl fun a hE => ?_
                refine gP hE rfl rfl rfl rfl fun a hE => ?_
                refine gP hE rfl rfl rfl rfl fun a hE => ?_
                refine gP hE rfl rfl rfl rfl fun a hE => ?_
                refine s1 hE rfl (d_pT hE rfl rfl rfl) fun a hE => ?_
                refine s1 hE rfl (d_move hE rfl) fun a hE => ?_
                refine gP hE rfl rfl rfl rfl fun a hE => ?_
                refine gP hE rfl rfl rfl rfl fun a hE => ?_
                refine gP hE rfl rfl rfl rfl fun a hE => ?_
                refine s1 hE rfl (d_pT hE rfl rfl rfl) fun a hE => ?_
                refine s1 hE rfl (d_move hE rfl) fun a hE => ?_
                refine gP hE rfl rfl rfl rfl fun a hE => ?_
                refine gP hE rfl rfl rfl rfl fun a hE => ?_
                refine gP hE rfl rfl rfl rfl fun a hE => ?_
                refine s1 hE rfl (d_pT hE rfl rfl rfl) fun a hE => ?_
                refine wpList_nil ?_
                cases hm
                exact ⟨hE.sub ⟨rfl, rfl, rfl, rfl, trivial⟩, H⟩
              · rw [if_neg c539] at hm
                refine gR hE rfl rfl (decide_eq_false c539) ?_
                refine s1 hE rfl (d_fieldAddr fld60_1 hE rfl) fun a hE => ?_
                refine gR hE rfl rfl (decide_eq_false c539) ?_
                refine s1 hE rfl (d_load sc3 hE rfl H 0 rfl rfl) fun a hE => ?_
                refine gR hE rfl rfl (decide_eq_false c539) ?_
                refine s1 hE rfl (d_lss hE rfl rfl) fun a hE => ?_
                refine s1 hE rfl (d_pF hE rfl (decide_eq_false c539) rfl) fun a hE => ?_
                refine s1 hE rfl (d_move hE rfl) fun a hE => ?_
                by_cases c540 : x527.To < 1
                · rw [if_pos c540] at hm
                  refine gP hE rfl rfl rfl (decide_eq_true c540) fun a hE => ?_
                  refine gP hE rfl rfl rfl (decide_eq_true c540) fun a hE => ?_
                  refine gP hE rfl rfl rfl (decide_eq_true c540) fun a hE => ?_
                  refine s1 hE rfl (d_pT hE rfl (decide_eq_true c540) rfl) fun a hE => ?_
                  refine s1 hE rfl (d_move hE rfl) fun a hE => ?_
                  refine gP hE rfl rfl rfl rfl fun a hE => ?_
                  refine gP hE rfl rfl rfl rfl fun a hE => ?_
                  refine gP hE rfl rfl rfl rfl fun a hE => ?_
                  refine gP hE rfl rfl rfl rfl fun a hE => ?_
                  refine gP hE rfl rfl rfl rfl fun a hE => ?_
                  refine s1 hE rfl (d_pT hE rfl rfl rfl) fun a hE => ?_
                  refine s1 hE rfl (d_move hE rfl) fun a hE => ?_
                  refine gP hE rfl rfl rfl rfl fun a hE => ?_
                  refine gP hE rfl rfl rfl rfl fun a hE => ?_
                  refine gP hE rfl rfl rfl rfl fun a hE => ?_
                  refine s1 hE rfl (d_pT hE rfl rfl rfl) fun a hE => ?_
                  refine s1 hE rfl (d_move hE rfl) fun a hE => ?_
                  refine gP hE rfl rfl rfl rfl fun a hE => ?_
                  refine gP hE rfl rfl rfl rfl fun a hE => ?_
                  refine gP hE rfl rfl rfl rfl fun a hE => ?_
                  refine s1 hE rfl (d_pT hE rfl rfl rfl) fun a hE => ?_
                  refine wpList_nil ?_
                  cases hm
                  exact ⟨hE.sub ⟨rfl, rfl, rfl, rfl, trivial⟩, H⟩
                · rw [if_neg c540] at hm
                  refine gR hE rfl rfl (decide_eq_false c540) ?_
                  refine s1 hE rfl (d_fieldAddr fld60_1 hE rfl) fun a hE => ?_
                  refine gR hE rfl rfl (decide_eq_false c540) ?_
                  refine s1 hE rfl (d_load sc3 hE rfl H 0 rfl rfl) fun a hE => ?_
                  refine gR hE rfl rfl (decide_eq_false c540) ?_
                  refine s1 hE rfl (d_gtr hE rfl rfl) fun a hE => ?_
                  refine s1 hE rfl (d_pF hE rfl (decide_eq_false c540) rfl) fun a hE => ?_
                  refine s1 hE rfl (d_move hE rfl) fun a hE => ?_
                  by_cases c541 : 64 < x527.To
                  · rw [if_pos c541] at hm
                    refine gP hE rfl rfl rfl (decide_eq_true c541) fun a hE => ?_
                    refine gP hE rfl rfl rfl (decide_eq_true c541) fun a hE => ?_
                    refine gP hE rfl rfl rfl (decide_eq_true c541) fun a hE => ?_
                    refine gP hE rfl rfl rfl (decide_eq_true c541) fun a hE => ?_
                    refine gP hE rfl rfl rfl (decide_eq_true c541) fun a hE => ?_
                    refine s1 hE rfl (d_pT hE rfl (decide_eq_true c541) rfl) fun a hE => ?_
                    refine s1 hE rfl (d_move hE rfl) fun a hE => ?_
                    refine gP hE rfl rfl rfl rfl fun a hE => ?_
                    refine gP hE rfl rfl rfl rfl fun a hE => ?_
                    refine gP hE rfl rfl rfl rfl fun a hE => ?_
                    refine s1 hE rfl (d_pT hE rfl rfl rfl) fun a hE => ?_
                    refine s1 hE rfl (d_move hE rfl) fun a hE => ?_
                    refine gP hE rfl rfl rfl rfl fun a hE => ?_
                    refine gP hE rfl rfl rfl rfl fun a hE => ?_
                    refine gP hE rfl rfl rfl rfl fun a hE => ?_
                    refine s1 hE rfl (d_pT hE rfl rfl rfl) fun a hE => ?_
                    refine wpList_nil ?_
                    cases hm
                    exact ⟨hE.sub ⟨rfl, rfl, rfl, rfl, trivial⟩, H⟩
                  · rw [if_neg c541] at hm
                    refine gR hE rfl rfl (decide_eq_false c541) ?_
                    refine s1 hE rfl (d_fieldAddr fld60_0 hE rfl) fun a hE => ?_
                    refine gR hE rfl rfl (decide_eq_false c541) ?_
                    refine s1 hE rfl (d_load sc3 hE rfl H 0 rfl rfl) fun a hE => ?_
                    refine gR hE rfl rfl (decide_eq_false c541) ?_
                    refine s1 hE rfl (d_fieldAddr fld60_1 hE rfl) fun a hE => ?_
                    refine gR hE rfl rfl (decide_eq_false c541) ?_
                    refine s1 hE rfl (d_load sc3 hE rfl H 0 rfl rfl) fun a hE => ?_
                    refine gR hE rfl rfl (decide_eq_false c541) ?_
                    refine s1 hE rfl (d_eql hE rfl rfl) fun a hE => ?_
                    refine s1 hE rfl (d_pF hE rfl (decide_eq_false c541) rfl) fun a hE => ?_
                    refine s1 hE rfl (d_move hE rfl) fun a hE => ?_
                    by_cases c542 : x527.From = x527.To
                    · rw [if_pos c542] at hm
                      refine gP hE rfl rfl rfl (decide_eq_true c542) fun a hE => ?_
                      refine gP hE rfl rfl rfl (decide_eq_true c542) fun a hE => ?_
                      refine gP hE rfl rfl rfl (decide_eq_true c542) fun a hE => ?_
                      refine s1 hE rfl (d_pT hE rfl (decide_eq_true c542) rfl) fun a hE => ?_
                      refine s1 hE rfl (d_move hE rfl) fun a hE => ?_
                      refine gP hE rfl rfl rfl rfl fun a hE => ?_
                      refine gP hE rfl rfl rfl rfl fun a hE => ?_
                      refine gP hE rfl rfl rfl rfl fun a hE => ?_
                      refine s1 hE rfl (d_pT hE rfl rfl rfl) fun a hE => ?_
                      refine wpList_nil ?_
                      cases hm
                      exact ⟨hE.sub ⟨rfl, rfl, rfl, rfl, trivial⟩, H⟩
                    · rw [if_neg c542] at hm
                      refine gR hE rfl rfl (decide_eq_false c542) ?_
                      refine s1 hE rfl (d_fieldAddr fld60_2 hE rfl) fun a hE => ?_
                      refine gR hE rfl rfl (decide_eq_false c542) ?_
                      refine s1 hE rfl (d_load sc3 hE rfl H 0 rfl rfl) fun a hE => ?_
                      refine gR hE rfl rfl (decide_eq_false c542) ?_
                      refine s1 hE rfl (d_lss hE rfl rfl) fun a hE => ?_
                      refine s1 hE rfl (d_pF hE rfl (decide_eq_false c542) rfl) fun a hE => ?_
                      refine s1 hE rfl (d_move hE rfl) fun a hE => ?_
                      by_cases c543 : x527.Cost < 1
                      · rw [if_pos c543] at hm
                        refine gP hE rfl rfl rfl (decide_eq_true c543) fun a hE => ?_
                        refine gP hE rfl rfl rfl (decide_eq_true c543) fun a hE => ?_
                        refine gP hE rfl rfl rfl (decide_eq_true c543) fun a hE => ?_
                        refine s1 hE rfl (d_pT hE rfl (decide_eq_true c543) rfl) fun a hE => ?_
                        refine wpList_nil ?_
                        cases hm
                        exact ⟨hE.sub ⟨rfl, rfl, rfl, rfl, trivial⟩, H⟩
                      · rw [if_neg c543] at hm
                        refine gR hE rfl rfl (decide_eq_false c543) ?_
                        refine s1 hE rfl (d_fieldAddr fld60_2 hE rfl) fun a hE => ?_
                        refine gR hE rfl rfl (decide_eq_false c543) ?_
                        refine s1 hE rfl (d_load sc3 hE rfl H 0 rfl rfl) fun a hE => ?_
                        refine gR hE rfl rfl (decide_eq_false c543) ?_
                        refine s1 hE rfl (d_gtr hE rfl rfl) fun a hE => ?_
                        refine s1 hE rfl (d_pF hE rfl (decide_eq_false c543) rfl) fun a hE => ?_
                        refine wpList_nil ?_
                        cases hm
                        exact ⟨hE.sub ⟨rfl, rfl, rfl, rfl, trivial⟩, H⟩
          · rintro a w ⟨hE, H⟩
            by_cases c545 : s537 = true
            · rw [if_pos c545] at hm
              refine cT hE rfl c545 ?_
              refine wp_seq ?_
              refine wp_region_lit ?_
              refine s1 hE rfl (d_assign hE rfl) fun a hE => ?_
              refine wpList_nil ?_
              refine wp_ret ?_
              cases hm
              have hm := hq475
              simp only [Out.on] at hm
              cases hm
              have H := St.del H 0
              exact ret1 rfl hE rfl ⟨_, rfl, rfl, H⟩
            · rw [if_neg c545] at hm
              refine cF hE rfl (b_f c545) ?_
              refine wp_skip ?_
              refine wp_seq ?_
              obtain ⟨s558, hj558, hm⟩ := bnd hm
              refine cut2 (fun a w => Env a 85 [(0, u0), (3, (.int .i64 y380)), (84, (.bool s558))] ∧ St z I w (r)) ?_ ?_
              · have hm := hj558
                by_cases c559 : 0 < y380
                · rw [if_pos c559] at hm
                  obtain ⟨x560, hx561, hm⟩ := bnd hm
                  by_cases c562 : x527.From < x560.From
                  · rw [if_pos c562] at hm
                    refine Dr.region (γ := Unit) (pre := [[], [0], [0, 1], [0, 1, 2], [0, 1, 2], [0, 1, 2, 4], [0, 1, 2, 3, 4, 5], [0, 1, 2, 3, 4, 5, 6], [0, 1, 2, 3, 4, 5, 6, 7], [0, 1, 2], [0, 1, 2, 9], [0, 1, 2, 3, 4, 5, 6, 7, 8, 9, 10], [0, 1, 2, 3, 4, 5, 6, 7, 8, 9, 10, 11], [0, 1, 2, 3, 4, 5, 6, 7, 8, 9, 10, 11, 12], [0, 1, 2, 3, 4, 5, 6, 7, 8, 9, 10, 11, 12], [0, 1, 2, 3, 4, 5, 6, 7, 8, 9, 10, 11, 12, 14], [0, 1, 2, 3, 4, 5, 6, 7, 8, 9, 10, 11, 12, 13, 14, 15], [0, 1, 2, 3, 4, 5, 6, 7, 8, 9, 10, 11, 12, 13, 14, 15, 16], [0, 1, 2, 3, 4, 5, 6, 7, 8, 9, 10, 11, 12, 13, 14, 15, 16, 17], [0, 1, 2, 3, 4, 5, 6, 7, 8, 9, 10, 11, 12], [0, 1, 2, 3, 4, 5, 6, 7, 8, 9, 10, 11, 12, 19], [0, 1, 2, 3, 4, 5, 6, 7, 8, 9, 10, 11, 12, 13, 14, 15, 16, 17, 18, 19, 20], [0, 1, 2, 3, 4, 5, 6, 7, 8, 9, 10, 11, 12, 13, 14, 15, 16, 17, 18, 19, 20, 21], [0, 1, 2, 3, 4, 5, 6, 7, 8, 9, 10, 11, 12, 13, 14, 15, 16, 17, 18, 19, 20, 21, 22], [0, 1, 2, 3, 4, 5, 6, 7, 8, 9, 10, 11, 12, 13, 14, 15, 16, 17, 18, 19, 20, 21, 22], [0, 1, 2, 3, 4, 5, 6, 7, 8, 9, 10, 11, 12, 13, 14, 15, 16, 17, 18, 19, 20, 21, 22, 24], [0, 1, 2, 3, 4, 5, 6, 7, 8, 9, 10, 11, 12, 13, 14, 15, 16, 17, 18, 19, 20, 21, 22, 23, 24, 25], [0, 1, 2, 3, 4, 5, 6, 7, 8, 9, 10, 11, 12, 13, 14, 15, 16, 17, 18, 19, 20, 21, 22, 23, 24, 25, 26], [0, 1, 2, 3, 4, 5, 6, 7, 8, 9, 10, 11, 12, 13, 14, 15, 16, 17, 18, 19, 20, 21, 22, 23, 24, 25, 26, 27], [0, 1, 2, 3, 4, 5, 6, 7, 8, 9, 10, 11, 12, 13, 14, 15, 16, 17, 18, 19, 20, 21, 22], [0, 1, 2, 3, 4, 5, 6, 7, 8, 9, 10, 11, 12, 13, 14, 15, 16, 17, 18, 19, 20, 21, 22, 29], [0, 1, 2, 3, 4, 5, 6, 7, 8, 9, 10, 11, 12, 13, 14, 15, 16, 17, 18, 19, 20, 21, 22, 23, 24, 25, 26, 27, 28, 29, 30], [0, 1, 2, 3, 4, 5, 6, 7, 8, 9, 10, 11, 12, 13, 14, 15, 16, 17, 18, 19, 20, 21, 22, 23, 24, 25, 26, 27, 28, 29, 30, 31], [0, 1, 2, 3, 4, 5, 6, 7, 8, 9, 10, 11, 12, 13, 14, 15, 16, 17, 18, 19, 20, 21, 22, 23, 24, 25, 26, 27, 28, 29, 30, 31, 32], [0, 1, 2, 3, 4, 5, 6, 7, 8, 9, 10, 11, 12, 13, 14, 15, 16, 17, 18, 19, 20, 21, 22, 23, 24, 25, 26, 27, 28, 29, 30, 31, 32, 33]]) (val := [some (.int .i64 y380), some (.bool (decide (0 < y380))), some (.bool (decide (0 < y380))), some u0, some (.int .i64 y380), some (.int .i64 (IntKind.i64.wrap (y380 - 1))), some (.pointer (some (ad (sb u0) (so u0 + (IntKind.i64.wrap (y380 - 1)).toNat * c_api_Arc.n)))), some (.pointer (some (ad (sb u0) (so u0 + (IntKind.i64.wrap (y380 - 1)).toNat * c_api_Arc.n + 0)))), some (.int .i64 x560.From), some (.pointer (some (ad q529 (0 + 0)))), some (.int .i64 x527.From), some (.bool (decide (x527.From < x560.From))), some (.bool (decide (x527.From < x560.From))), some undef, some undef, some undef, some undef, some undef, some undef, some undef, some undef, some undef, some undef, some undef, some undef, some undef, some undef, some undef, some undef, some undef, some undef, some undef, some undef, some (.bool true), some (.bool true)]) (eff := []) (mask := [[]]) (keys := [[]]) (src := [[.base 3], [.op 0], [.op 1], [.base 0, .op 2], [.base 3, .op 2], [.op 2, .op 4], [.op 2, .op 3, .op 5], [.op 2, .op 6], [.op 2, .op 7], [.base 4, .op 2], [.op 2, .op 9], [.op 2, .op 8, .op 10], [.op 2, .op 11], [.base 0, .op 12], [.base 3, .op 12], [.op 12, .op 14], [.op 12, .op 13, .op 15], [.op 12, .op 16], [.op 12, .op 17], [.base 4, .op 12], [.op 12, .op 19], [.op 12, .op 18, .op 20], [.op 12, .op 21], [.base 0, .op 22], [.base 3, .op 22], [.op 22, .op 24], [.op 22, .op 23, .op 25], [.op 22, .op 26], [.op 22, .op 27], [.base 4, .op 22], [.op 22, .op 29], [.op 22, .op 28, .op 30], [.op 12, .op 22, .op 31], [.op 2, .op 12, .op 32], [.op 2, .op 33]]) (z := z) (ef := fun p g => ([[]] : List (List (Nat × Value))).getD p []) (hi := fun _ _ => I) (rs := fun p g => ([Bl q529 60 [(.int .i64 x527.From), (.int .i64 x527.To), (.int .i64 x527.Cost)] :: r] : List (List Asn)).getD p []) [(0, 0), (1, 0), (2, 0), (3, 0), (4, 0), (5, 0), (6, 0), (7, 0), (8, 0), (9, 0), (10, 0), (11, 0), (12, 0), (13, 0), (14, 0), (15, 0), (16, 0), (17, 0), (18, 0), (19, 0), (20, 0), (21, 0), (22, 0), (23, 0), (24, 0), (25, 0), (26, 0), (27, 0), (28, 0), (29, 0), (30, 0), (31, 0), (32, 0), (33, 0), (34, 0)] [] [0, 1, 2, 3, 4, 5, 6, 7, 8, 9, 10, 11, 12, 13, 14, 15, 16, 17, 18, 19, 20, 21, 22, 23, 24, 25, 26, 27, 28, 29, 30, 31, 32, 33, 34] 0 mo hE () rfl H (by kernel_rfl) (by kernel_rfl) (fun p g => by cases p <;> rfl) ?_ ?_ (by kernel_rfl) (by kernel_rfl) ?_
                    · exact ⟨by intro a w g hE H; exact Dr.is H rfl (Dr.run rfl (d_move hE rfl)),
    by intro a w g hE H; exact Dr.is H rfl (Dr.run rfl (d_gtr hE rfl rfl)),
    by intro a w g hE H; exact Dr.is H rfl (Dr.run rfl (d_move hE rfl)),
    by intro a w g hE H; exact Dr.is H rfl (Dr.rG rfl hE rfl rfl (decide_eq_true c559) (d_move hE rfl)),
    by intro a w g hE H; exact Dr.is H rfl (Dr.rG rfl hE rfl rfl (decide_eq_true c559) (d_move hE rfl)),
    by intro a w g hE H; exact Dr.is H rfl (Dr.rG rfl hE rfl rfl (decide_eq_true c559) (d_sub hE rfl rfl)),
    by intro a w g hE H; exact Dr.is H rfl (Dr.rG rfl hE rfl rfl (decide_eq_true c559) (d_indexS sl55 hE rfl rfl (Rd.st hr0 hI (H).drop) hx561)),
    by intro a w g hE H; exact Dr.is H rfl (Dr.rG rfl hE rfl rfl (decide_eq_true c559) (d_fieldAddr fld60_0 hE rfl)),
    by intro a w g hE H; exact Dr.is H rfl (Dr.rG rfl hE rfl rfl (decide_eq_true c559) (d_loadSf (j := 0) sc3 hE rfl (Rd.st hr0 hI (H).drop) hx561 (fun _ e => by rw [e]; rfl))),
    by intro a w g hE H; exact Dr.is H rfl (Dr.rG rfl hE rfl rfl (decide_eq_true c559) (d_fieldAddr fld60_0 hE rfl)),
    by intro a w g hE H; exact Dr.is H rfl (Dr.rG rfl hE rfl rfl (decide_eq_true c559) (d_load sc3 hE rfl H 0 rfl rfl)),
    by intro a w g hE H; exact Dr.is H rfl (Dr.rG rfl hE rfl rfl (decide_eq_true c559) (d_gtr hE rfl rfl)),
    by intro a w g hE H; exact Dr.is H rfl (Dr.rG rfl hE rfl rfl (decide_eq_true c559) (d_move hE rfl)),
    by intro a w g hE H; exact Dr.is H rfl (Dr.pG rfl hE rfl rfl (decide_eq_true c562) ⟨rfl, rfl⟩),
    by intro a w g hE H; exact Dr.is H rfl (Dr.pG rfl hE rfl rfl (decide_eq_true c562) ⟨rfl, rfl⟩),
    by intro a w g hE H; exact Dr.is H rfl (Dr.pG rfl hE rfl rfl (decide_eq_true c562) ⟨rfl, rfl⟩),
    by intro a w g hE H; exact Dr.is H rfl (Dr.pG rfl hE rfl rfl (decide_eq_true c562) ⟨rfl, rfl⟩),
    by intro a w g hE H; exact Dr.is H rfl (Dr.pG rfl hE rfl rfl (decide_eq_true c562) ⟨rfl, rfl⟩),
    by intro a w g hE H; exact Dr.is H rfl (Dr.pG rfl hE rfl rfl (decide_eq_true c562) ⟨rfl, rfl⟩),
    by intro a w g hE H; exact Dr.is H rfl (Dr.pG rfl hE rfl rfl (decide_eq_true c562) ⟨rfl, rfl⟩),
    by intro a w g hE H; exact Dr.is H rfl (Dr.pG rfl hE rfl rfl (decide_eq_true c562) ⟨rfl, rfl⟩),
    by intro a w g hE H; exact Dr.is H rfl (Dr.pG rfl hE rfl rfl (decide_eq_true c562) ⟨rfl, rfl⟩),
    by intro a w g hE H; exact Dr.is H rfl (Dr.pG rfl hE rfl rfl (decide_eq_true c562) ⟨rfl, rfl⟩),
    by intro a w g hE H; exact Dr.is H rfl (Dr.passU rfl hE rfl rfl ⟨rfl, rfl⟩),
    by intro a w g hE H; exact Dr.is H rfl (Dr.passU rfl hE rfl rfl ⟨rfl, rfl⟩),
    by intro a w g hE H; exact Dr.is H rfl (Dr.passU rfl hE rfl rfl ⟨rfl, rfl⟩),
    by intro a w g hE H; exact Dr.is H rfl (Dr.passU rfl hE rfl rfl ⟨rfl, rfl⟩),
    by intro a w g hE H; exact Dr.is H rfl (Dr.passU rfl hE rfl rfl ⟨rfl, rfl⟩),
    by intro a w g hE H; exact Dr.is H rfl (Dr.passU rfl hE rfl rfl ⟨rfl, rfl⟩),
    by intro a w g hE H; exact Dr.is H rfl (Dr.passU rfl hE rfl rfl ⟨rfl, rfl⟩),
    by intro a w g hE H; exact Dr.is H rfl (Dr.passU rfl hE rfl rfl ⟨rfl, rfl⟩),
    by intro a w g hE H; exact Dr.is H rfl (Dr.passU rfl hE rfl rfl ⟨rfl, rfl⟩),
    by intro a w g hE H; exact Dr.is H rfl (Dr.pG rfl hE rfl rfl (decide_eq_true c562) ⟨rfl, rfl⟩),
    by intro a w g hE H; exact Dr.is H rfl (Dr.rG rfl hE rfl rfl (decide_eq_true c559) (d_pT hE rfl (decide_eq_true c562) rfl)),
    by intro a w g hE H; exact Dr.is H rfl (Dr.run rfl (d_pT hE rfl (decide_eq_true c559) rfl)),
    trivial⟩
                    · trivial
                    · intro a w g hE H
                      have H : St z I w (Bl q529 60 [(.int .i64 x527.From), (.int .i64 x527.To), (.int .i64 x527.Cost)] :: r) := H
                      cases hm
                      have H := St.del H 0
                      exact ⟨hE.sub ⟨rfl, rfl, rfl, trivial⟩, H⟩
                  · rw [if_neg c562] at hm
                    obtain ⟨x563, hx564, hm⟩ := bnd hm
                    by_cases c565 : x563.From = x527.From
                    · rw [if_pos c565] at hm
                      obtain ⟨x566, hx567, hm⟩ := bnd hm
                      refine Dr.region (γ := Unit) (pre := [[], [0], [0, 1], [0, 1, 2], [0, 1, 2], [0, 1, 2, 4], [0, 1, 2, 3, 4, 5], [0, 1, 2, 3, 4, 5, 6], [0, 1, 2, 3, 4, 5, 6, 7], [0, 1, 2], [0, 1, 2, 9], [0, 1, 2, 3, 4, 5, 6, 7, 8, 9, 10], [0, 1, 2, 3, 4, 5, 6, 7, 8, 9, 10, 11], [0, 1, 2, 3, 4, 5, 6, 7, 8, 9, 10, 11, 12], [0, 1, 2, 3, 4, 5, 6, 7, 8, 9, 10, 11, 12], [0, 1, 2, 3, 4, 5, 6, 7, 8, 9, 10, 11, 12, 14], [0, 1, 2, 3, 4, 5, 6, 7, 8, 9, 10, 11, 12, 13, 14, 15], [0, 1, 2, 3, 4, 5, 6, 7, 8, 9, 10, 11, 12, 13, 14, 15, 16], [0, 1, 2, 3, 4, 5, 6, 7, 8, 9, 10, 11, 12, 13, 14, 15, 16, 17], [0, 1, 2, 3, 4, 5, 6, 7, 8, 9, 10, 11, 12], [0, 1, 2, 3, 4, 5, 6, 7, 8, 9, 10, 11, 12, 19], [0, 1, 2, 3, 4, 5, 6, 7, 8, 9, 10, 11, 12, 13, 14, 15, 16, 17, 18, 19, 20], [0, 1, 2, 3, 4, 5, 6, 7, 8, 9, 10, 11, 12, 13, 14, 15, 16, 17, 18, 19, 20, 21], [0, 1, 2, 3, 4, 5, 6, 7, 8, 9, 10, 11, 12, 13, 14, 15, 16, 17, 18, 19, 20, 21, 22], [0, 1, 2, 3, 4, 5, 6, 7, 8, 9, 10, 11, 12, 13, 14, 15, 16, 17, 18, 19, 20, 21, 22], [0, 1, 2, 3, 4, 5, 6, 7, 8, 9, 10, 11, 12, 13, 14, 15, 16, 17, 18, 19, 20, 21, 22, 24], [0, 1, 2, 3, 4, 5, 6, 7, 8, 9, 10, 11, 12, 13, 14, 15, 16, 17, 18, 19, 20, 21, 22, 23, 24, 25], [0, 1, 2, 3, 4, 5, 6, 7, 8, 9, 10, 11, 12, 13, 14, 15, 16, 17, 18, 19, 20, 21, 22, 23, 24, 25, 26], [0, 1, 2, 3, 4, 5, 6, 7, 8, 9, 10, 11, 12, 13, 14, 15, 16, 17, 18, 19, 20, 21, 22, 23, 24, 25, 26, 27], [0, 1, 2, 3, 4, 5, 6, 7, 8, 9, 10, 11, 12, 13, 14, 15, 16, 17, 18, 19, 20, 21, 22], [0, 1, 2, 3, 4, 5, 6, 7, 8, 9, 10, 11, 12, 13, 14, 15, 16, 17, 18, 19, 20, 21, 22, 29], [0, 1, 2, 3, 4, 5, 6, 7, 8, 9, 10, 11, 12, 13, 14, 15, 16, 17, 18, 19, 20, 21, 22, 23, 24, 25, 26, 27, 28, 29, 30], [0, 1, 2, 3, 4, 5, 6, 7, 8, 9, 10, 11, 12, 13, 14, 15, 16, 17, 18, 19, 20, 21, 22, 23, 24, 25, 26, 27, 28, 29, 30, 31], [0, 1, 2, 3, 4, 5, 6, 7, 8, 9, 10, 11, 12, 13, 14, 15, 16, 17, 18, 19, 20, 21, 22, 23, 24, 25, 26, 27, 28, 29, 30, 31, 32], [0, 1, 2, 3, 4, 5, 6, 7, 8, 9, 10, 11, 12, 13, 14, 15, 16, 17, 18, 19, 20, 21, 22, 23, 24, 25, 26, 27, 28, 29, 30, 31, 32, 33]]) (val := [some (.int .i64 y380), some (.bool (decide (0 < y380))), some (.bool (decide (0 < y380))), some u0, some (.int .i64 y380), some (.int .i64 (IntKind.i64.wrap (y380 - 1))), some (.pointer (some (ad (sb u0) (so u0 + (IntKind.i64.wrap (y380 - 1)).toNat * c_api_Arc.n)))), some (.pointer (some (ad (sb u0) (so u0 + (IntKind.i64.wrap (y380 - 1)).toNat * c_api_Arc.n + 0)))), some (.int .i64 x560.From), some (.pointer (some (ad q529 (0 + 0)))), some (.int .i64 x527.From), some (.bool (decide (x527.From < x560.From))), some (.bool (decide (x527.From < x560.From))), some u0, some (.int .i64 y380), some (.int .i64 (IntKind.i64.wrap (y380 - 1))), some (.pointer (some (ad (sb u0) (so u0 + (IntKind.i64.wrap (y380 - 1)).toNat * c_api_Arc.n)))), some (.pointer (some (ad (sb u0) (so u0 + (IntKind.i64.wrap (y380 - 1)).toNat * c_api_Arc.n + 0)))), some (.int .i64 x563.From), some (.pointer (some (ad q529 (0 + 0)))), some (.int .i64 x527.From), some (.bool (decide (x563.From = x527.From))), some (.bool (decide (x563.From = x527.From))), some u0, some (.int .i64 y380), some (.int .i64 (IntKind.i64.wrap (y380 - 1))), some (.pointer (some (ad (sb u0) (so u0 + (IntKind.i64.wrap (y380 - 1)).toNat * c_api_Arc.n)))), some (.pointer (some (ad (sb u0) (so u0 + (IntKind.i64.wrap (y380 - 1)).toNat * c_api_Arc.n + 1)))), some (.int .i64 x566.To), some (.pointer (some (ad q529 (0 + 1)))), some (.int .i64 x527.To), some (.bool (decide (x527.To ≤ x566.To))), some (.bool (decide (x527.To ≤ x566.To))), some (.bool (decide (x527.To ≤ x566.To))), some (.bool (decide (x527.To ≤ x566.To)))]) (eff := []) (mask := [[]]) (keys := [[]]) (src := [[.base 3], [.op 0], [.op 1], [.base 0, .op 2], [.base 3, .op 2], [.op 2, .op 4], [.op 2, .op 3, .op 5], [.op 2, .op 6], [.op 2, .op 7], [.base 4, .op 2], [.op 2, .op 9], [.op 2, .op 8, .op 10], [.op 2, .op 11], [.base 0, .op 12], [.base 3, .op 12], [.op 12, .op 14], [.op 12, .op 13, .op 15], [.op 12, .op 16], [.op 12, .op 17], [.base 4, .op 12], [.op 12, .op 19], [.op 12, .op 18, .op 20], [.op 12, .op 21], [.base 0, .op 22], [.base 3, .op 22], [.op 22, .op 24], [.op 22, .op 23, .op 25], [.op 22, .op 26], [.op 22, .op 27], [.base 4, .op 22], [.op 22, .op 29], [.op 22, .op 28, .op 30], [.op 12, .op 22, .op 31], [.op 2, .op 12, .op 32], [.op 2, .op 33]]) (z := z) (ef := fun p g => ([[]] : List (List (Nat × Value))).getD p []) (hi := fun _ _ => I) (rs := fun p g => ([Bl q529 60 [(.int .i64 x527.From), (.int .i64 x527.To), (.int .i64 x527.Cost)] :: r] : List (List Asn)).getD p []) [(0, 0), (1, 0), (2, 0), (3, 0), (4, 0), (5, 0), (6, 0), (7, 0), (8, 0), (9, 0), (10, 0), (11, 0), (12, 0), (13, 0), (14, 0), (15, 0), (16, 0), (17, 0), (18, 0), (19, 0), (20, 0), (21, 0), (22, 0), (23, 0), (24, 0), (25, 0), (26, 0), (27, 0), (28, 0), (29, 0), (30, 0), (31, 0), (32, 0), (33, 0), (34, 0)] [] [0, 1, 2, 3, 4, 5, 6, 7, 8, 9, 10, 11, 12, 13, 14, 15, 16, 17, 18, 19, 20, 21, 22, 23, 24, 25, 26, 27, 28, 29, 30, 31, 32, 33, 34] 0 mo hE () rfl H (by kernel_rfl) (by kernel_rfl) (fun p g => by cases p <;> rfl) ?_ ?_ (by kernel_rfl) (by kernel_rfl) ?_
                      · exact ⟨by intro a w g hE H; exact Dr.is H rfl (Dr.run rfl (d_move hE rfl)),
    by intro a w g hE H; exact Dr.is H rfl (Dr.run rfl (d_gtr hE rfl rfl)),
    by intro a w g hE H; exact Dr.is H rfl (Dr.run rfl (d_move hE rfl)),
    by intro a w g hE H; exact Dr.is H rfl (Dr.rG rfl hE rfl rfl (decide_eq_true c559) (d_move hE rfl)),
    by intro a w g hE H; exact Dr.is H rfl (Dr.rG rfl hE rfl rfl (decide_eq_true c559) (d_move hE rfl)),
    by intro a w g hE H; exact Dr.is H rfl (Dr.rG rfl hE rfl rfl (decide_eq_true c559) (d_sub hE rfl rfl)),
    by intro a w g hE H; exact Dr.is H rfl (Dr.rG rfl hE rfl rfl (decide_eq_true c559) (d_indexS sl55 hE rfl rfl (Rd.st hr0 hI (H).drop) hx561)),
    by intro a w g hE H; exact Dr.is H rfl (Dr.rG rfl hE rfl rfl (decide_eq_true c559) (d_fieldAddr fld60_0 hE rfl)),
    by intro a w g hE H; exact Dr.is H rfl (Dr.rG rfl hE rfl rfl (decide_eq_true c559) (d_loadSf (j := 0) sc3 hE rfl (Rd.st hr0 hI (H).drop) hx561 (fun _ e => by rw [e]; rfl))),
    by intro a w g hE H; exact Dr.is H rfl (Dr.rG rfl hE rfl rfl (decide_eq_true c559) (d_fieldAddr fld60_0 hE rfl)),
    by intro a w g hE H; exact Dr.is H rfl (Dr.rG rfl hE rfl rfl (decide_eq_true c559) (d_load sc3 hE rfl H 0 rfl rfl)),
    by intro a w g hE H; exact Dr.is H rfl (Dr.rG rfl hE rfl rfl (decide_eq_true c559) (d_gtr hE rfl rfl)),
    by intro a w g hE H; exact Dr.is H rfl (Dr.rG rfl hE rfl rfl (decide_eq_true c559) (d_move hE rfl)),
    by intro a w g hE H; exact Dr.is H rfl (Dr.rG rfl hE rfl rfl (decide_eq_false c562) (d_move hE rfl)),
    by intro a w g hE H; exact Dr.is H rfl (Dr.rG rfl hE rfl rfl (decide_eq_false c562) (d_move hE rfl)),
    by intro a w g hE H; exact Dr.is H rfl (Dr.rG rfl hE rfl rfl (decide_eq_false c562) (d_sub hE rfl rfl)),
    by intro a w g hE H; exact Dr.is H rfl (Dr.rG rfl hE rfl rfl (decide_eq_false c562) (d_indexS sl55 hE rfl rfl (Rd.st hr0 hI (H).drop) hx564)),
    by intro a w g hE H; exact Dr.is H rfl (Dr.rG rfl hE rfl rfl (decide_eq_false c562) (d_fieldAddr fld60_0 hE rfl)),
    by intro a w g hE H; exact Dr.is H rfl (Dr.rG rfl hE rfl rfl (decide_eq_false c562) (d_loadSf (j := 0) sc3 hE rfl (Rd.st hr0 hI (H).drop) hx564 (fun _ e => by rw [e]; rfl))),
    by intro a w g hE H; exact Dr.is H rfl (Dr.rG rfl hE rfl rfl (decide_eq_false c562) (d_fieldAddr fld60_0 hE rfl)),
    by intro a w g hE H; exact Dr.is H rfl (Dr.rG rfl hE rfl rfl (decide_eq_false c562) (d_load sc3 hE rfl H 0 rfl rfl)),
    by intro a w g hE H; exact Dr.is H rfl (Dr.rG rfl hE rfl rfl (decide_eq_false c562) (d_eql hE rfl rfl)),
    by intro a w g hE H; exact Dr.is H rfl (Dr.rG rfl hE rfl rfl (decide_eq_false c562) (d_move hE rfl)),
    by intro a w g hE H; exact Dr.is H rfl (Dr.rG rfl hE rfl rfl (decide_eq_true c565) (d_move hE rfl)),
    by intro a w g hE H; exact Dr.is H rfl (Dr.rG rfl hE rfl rfl (decide_eq_true c565) (d_move hE rfl)),
    by intro a w g hE H; exact Dr.is H rfl (Dr.rG rfl hE rfl rfl (decide_eq_true c565) (d_sub hE rfl rfl)),
    by intro a w g hE H; exact Dr.is H rfl (Dr.rG rfl hE rfl rfl (decide_eq_true c565) (d_indexS sl55 hE rfl rfl (Rd.st hr0 hI (H).drop) hx567)),
    by intro a w g hE H; exact Dr.is H rfl (Dr.rG rfl hE rfl rfl (decide_eq_true c565) (d_fieldAddr fld60_1 hE rfl)),
    by intro a w g hE H; exact Dr.is H rfl (Dr.rG rfl hE rfl rfl (decide_eq_true c565) (d_loadSf (j := 1) sc3 hE rfl (Rd.st hr0 hI (H).drop) hx567 (fun _ e => by rw [e]; rfl))),
    by intro a w g hE H; exact Dr.is H rfl (Dr.rG rfl hE rfl rfl (decide_eq_true c565) (d_fieldAddr fld60_1 hE rfl)),
    by intro a w g hE H; exact Dr.is H rfl (Dr.rG rfl hE rfl rfl (decide_eq_true c565) (d_load sc3 hE rfl H 0 rfl rfl)),
    by intro a w g hE H; exact Dr.is H rfl (Dr.rG rfl hE rfl rfl (decide_eq_true c565) (d_geq hE rfl rfl)),
    by intro a w g hE H; exact Dr.is H rfl (Dr.rG rfl hE rfl rfl (decide_eq_false c562) (d_pT hE rfl (decide_eq_true c565) rfl)),
    by intro a w g hE H; exact Dr.is H rfl (Dr.rG rfl hE rfl rfl (decide_eq_true c559) (d_pF hE rfl (decide_eq_false c562) rfl)),
    by intro a w g hE H; exact Dr.is H rfl (Dr.run rfl (d_pT hE rfl (decide_eq_true c559) rfl)),
    trivial⟩
                      · trivial
                      · intro a w g hE H
                        have H : St z I w (Bl q529 60 [(.int .i64 x527.From), (.int .i64 x527.To), (.int .i64 x527.Cost)] :: r) := H
                        cases hm
                        have H := St.del H 0
                        exact ⟨hE.sub ⟨rfl, rfl, rfl, trivial⟩, H⟩
                    · rw [if_neg c565] at hm
                      refine Dr.region (γ := Unit) (pre := [[], [0], [0, 1], [0, 1, 2], [0, 1, 2], [0, 1, 2, 4], [0, 1, 2, 3, 4, 5], [0, 1, 2, 3, 4, 5, 6], [0, 1, 2, 3, 4, 5, 6, 7], [0, 1, 2], [0, 1, 2, 9], [0, 1, 2, 3, 4, 5, 6, 7, 8, 9, 10], [0, 1, 2, 3, 4, 5, 6, 7, 8, 9, 10, 11], [0, 1, 2, 3, 4, 5, 6, 7, 8, 9, 10, 11, 12], [0, 1, 2, 3, 4, 5, 6, 7, 8, 9, 10, 11, 12], [0, 1, 2, 3, 4, 5, 6, 7, 8, 9, 10, 11, 12, 14], [0, 1, 2, 3, 4, 5, 6, 7, 8, 9, 10, 11, 12, 13, 14, 15], [0, 1, 2, 3, 4, 5, 6, 7, 8, 9, 10, 11, 12, 13, 14, 15, 16], [0, 1, 2, 3, 4, 5, 6, 7, 8, 9, 10, 11, 12, 13, 14, 15, 16, 17], [0, 1, 2, 3, 4, 5, 6, 7, 8, 9, 10, 11, 12], [0, 1, 2, 3, 4, 5, 6, 7, 8, 9, 10, 11, 12, 19], [0, 1, 2, 3, 4, 5, 6, 7, 8, 9, 10, 11, 12, 13, 14, 15, 16, 17, 18, 19, 20], [0, 1, 2, 3, 4, 5, 6, 7, 8, 9, 10, 11, 12, 13, 14, 15, 16, 17, 18, 19, 20, 21], [0, 1, 2, 3, 4, 5, 6, 7, 8, 9, 10, 11, 12, 13, 14, 15, 16, 17, 18, 19, 20, 21, 22], [0, 1, 2, 3, 4, 5, 6, 7, 8, 9, 10, 11, 12, 13, 14, 15, 16, 17, 18, 19, 20, 21, 22], [0, 1, 2, 3, 4, 5, 6, 7, 8, 9, 10, 11, 12, 13, 14, 15, 16, 17, 18, 19, 20, 21, 22, 24], [0, 1, 2, 3, 4, 5, 6, 7, 8, 9, 10, 11, 12, 13, 14, 15, 16, 17, 18, 19, 20, 21, 22, 23, 24, 25], [0, 1, 2, 3, 4, 5, 6, 7, 8, 9, 10, 11, 12, 13, 14, 15, 16, 17, 18, 19, 20, 21, 22, 23, 24, 25, 26], [0, 1, 2, 3, 4, 5, 6, 7, 8, 9, 10, 11, 12, 13, 14, 15, 16, 17, 18, 19, 20, 21, 22, 23, 24, 25, 26, 27], [0, 1, 2, 3, 4, 5, 6, 7, 8, 9, 10, 11, 12, 13, 14, 15, 16, 17, 18, 19, 20, 21, 22], [0, 1, 2, 3, 4, 5, 6, 7, 8, 9, 10, 11, 12, 13, 14, 15, 16, 17, 18, 19, 20, 21, 22, 29], [0, 1, 2, 3, 4, 5, 6, 7, 8, 9, 10, 11, 12, 13, 14, 15, 16, 17, 18, 19, 20, 21, 22, 23, 24, 25, 26, 27, 28, 29, 30], [0, 1, 2, 3, 4, 5, 6, 7, 8, 9, 10, 11, 12, 13, 14, 15, 16, 17, 18, 19, 20, 21, 22, 23, 24, 25, 26, 27, 28, 29, 30, 31], [0, 1, 2, 3, 4, 5, 6, 7, 8, 9, 10, 11, 12, 13, 14, 15, 16, 17, 18, 19, 20, 21, 22, 23, 24, 25, 26, 27, 28, 29, 30, 31, 32], [0, 1, 2, 3, 4, 5, 6, 7, 8, 9, 10, 11, 12, 13, 14, 15, 16, 17, 18, 19, 20, 21, 22, 23, 24, 25, 26, 27, 28, 29, 30, 31, 32, 33]]) (val := [some (.int .i64 y380), some (.bool (decide (0 < y380))), some (.bool (decide (0 < y380))), some u0, some (.int .i64 y380), some (.int .i64 (IntKind.i64.wrap (y380 - 1))), some (.pointer (some (ad (sb u0) (so u0 + (IntKind.i64.wrap (y380 - 1)).toNat * c_api_Arc.n)))), some (.pointer (some (ad (sb u0) (so u0 + (IntKind.i64.wrap (y380 - 1)).toNat * c_api_Arc.n + 0)))), some (.int .i64 x560.From), some (.pointer (some (ad q529 (0 + 0)))), some (.int .i64 x527.From), some (.bool (decide (x527.From < x560.From))), some (.bool (decide (x527.From < x560.From))), some u0, some (.int .i64 y380), some (.int .i64 (IntKind.i64.wrap (y380 - 1))), some (.pointer (some (ad (sb u0) (so u0 + (IntKind.i64.wrap (y380 - 1)).toNat * c_api_Arc.n)))), some (.pointer (some (ad (sb u0) (so u0 + (IntKind.i64.wrap (y380 - 1)).toNat * c_api_Arc.n + 0)))), some (.int .i64 x563.From), some (.pointer (some (ad q529 (0 + 0)))), some (.int .i64 x527.From), some (.bool (decide (x563.From = x527.From))), some (.bool (decide (x563.From = x527.From))), some undef, some undef, some undef, some undef, some undef, some undef, some undef, some undef, some undef, some (.bool false), some (.bool false), some (.bool false)]) (eff := []) (mask := [[]]) (keys := [[]]) (src := [[.base 3], [.op 0], [.op 1], [.base 0, .op 2], [.base 3, .op 2], [.op 2, .op 4], [.op 2, .op 3, .op 5], [.op 2, .op 6], [.op 2, .op 7], [.base 4, .op 2], [.op 2, .op 9], [.op 2, .op 8, .op 10], [.op 2, .op 11], [.base 0, .op 12], [.base 3, .op 12], [.op 12, .op 14], [.op 12, .op 13, .op 15], [.op 12, .op 16], [.op 12, .op 17], [.base 4, .op 12], [.op 12, .op 19], [.op 12, .op 18, .op 20], [.op 12, .op 21], [.base 0, .op 22], [.base 3, .op 22], [.op 22, .op 24], [.op 22, .op 23, .op 25], [.op 22, .op 26], [.op 22, .op 27], [.base 4, .op 22], [.op 22, .op 29], [.op 22, .op 28, .op 30], [.op 12, .op 22, .op 31], [.op 2, .op 12, .op 32], [.op 2, .op 33]]) (z := z) (ef := fun p g => ([[]] : List (List (Nat × Value))).getD p []) (hi := fun _ _ => I) (rs := fun p g => ([Bl q529 60 [(.int .i64 x527.From), (.int .i64 x527.To), (.int .i64 x527.Cost)] :: r] : List (List Asn)).getD p []) [(0, 0), (1, 0), (2, 0), (3, 0), (4, 0), (5, 0), (6, 0), (7, 0), (8, 0), (9, 0), (10, 0), (11, 0), (12, 0), (13, 0), (14, 0), (15, 0), (16, 0), (17, 0), (18, 0), (19, 0), (20, 0), (21, 0), (22, 0), (23, 0), (24, 0), (25, 0), (26, 0), (27, 0), (28, 0), (29, 0), (30, 0), (31, 0), (32, 0), (33, 0), (34, 0)] [] [0, 1, 2, 3, 4, 5, 6, 7, 8, 9, 10, 11, 12, 13, 14, 15, 16, 17, 18, 19, 20, 21, 22, 23, 24, 25, 26, 27, 28, 29, 30, 31, 32, 33, 34] 0 mo hE () rfl H (by kernel_rfl) (by kernel_rfl) (fun p g => by cases p <;> rfl) ?_ ?_ (by kernel_rfl) (by kernel_rfl) ?_
                      · exact ⟨by intro a w g hE H; exact Dr.is H rfl (Dr.run rfl (d_move hE rfl)),
    by intro a w g hE H; exact Dr.is H rfl (Dr.run rfl (d_gtr hE rfl rfl)),
    by intro a w g hE H; exact Dr.is H rfl (Dr.run rfl (d_move hE rfl)),
    by intro a w g hE H; exact Dr.is H rfl (Dr.rG rfl hE rfl rfl (decide_eq_true c559) (d_move hE rfl)),
    by intro a w g hE H; exact Dr.is H rfl (Dr.rG rfl hE rfl rfl (decide_eq_true c559) (d_move hE rfl)),
    by intro a w g hE H; exact Dr.is H rfl (Dr.rG rfl hE rfl rfl (decide_eq_true c559) (d_sub hE rfl rfl)),
    by intro a w g hE H; exact Dr.is H rfl (Dr.rG rfl hE rfl rfl (decide_eq_true c559) (d_indexS sl55 hE rfl rfl (Rd.st hr0 hI (H).drop) hx561)),
    by intro a w g hE H; exact Dr.is H rfl (Dr.rG rfl hE rfl rfl (decide_eq_true c559) (d_fieldAddr fld60_0 hE rfl)),
    by intro a w g hE H; exact Dr.is H rfl (Dr.rG rfl hE rfl rfl (decide_eq_true c559) (d_loadSf (j := 0) sc3 hE rfl (Rd.st hr0 hI (H).drop) hx561 (fun _ e => by rw [e]; rfl))),
    by intro a w g hE H; exact Dr.is H rfl (Dr.rG rfl hE rfl rfl (decide_eq_true c559) (d_fieldAddr fld60_0 hE rfl)),
    by intro a w g hE H; exact Dr.is H rfl (Dr.rG rfl hE rfl rfl (decide_eq_true c559) (d_load sc3 hE rfl H 0 rfl rfl)),
    by intro a w g hE H; exact Dr.is H rfl (Dr.rG rfl hE rfl rfl (decide_eq_true c559) (d_gtr hE rfl rfl)),
    by intro a w g hE H; exact Dr.is H rfl (Dr.rG rfl hE rfl rfl (decide_eq_true c559) (d_move hE rfl)),
    by intro a w g hE H; exact Dr.is H rfl (Dr.rG rfl hE rfl rfl (decide_eq_false c562) (d_move hE rfl)),
    by intro a w g hE H; exact Dr.is H rfl (Dr.rG rfl hE rfl rfl (decide_eq_false c562) (d_move hE rfl)),
    by intro a w g hE H; exact Dr.is H rfl (Dr.rG rfl hE rfl rfl (decide_eq_false c562) (d_sub hE rfl rfl)),
    by intro a w g hE H; exact Dr.is H rfl (Dr.rG rfl hE rfl rfl (decide_eq_false c562) (d_indexS sl55 hE rfl rfl (Rd.st hr0 hI (H).drop) hx564)),
    by intro a w g hE H; exact Dr.is H rfl (Dr.rG rfl hE rfl rfl (decide_eq_false c562) (d_fieldAddr fld60_0 hE rfl)),
    by intro a w g hE H; exact Dr.is H rfl (Dr.rG rfl hE rfl rfl (decide_eq_false c562) (d_loadSf (j := 0) sc3 hE rfl (Rd.st hr0 hI (H).drop) hx564 (fun _ e => by rw [e]; rfl))),
    by intro a w g hE H; exact Dr.is H rfl (Dr.rG rfl hE rfl rfl (decide_eq_false c562) (d_fieldAddr fld60_0 hE rfl)),
    by intro a w g hE H; exact Dr.is H rfl (Dr.rG rfl hE rfl rfl (decide_eq_false c562) (d_load sc3 hE rfl H 0 rfl rfl)),
    by intro a w g hE H; exact Dr.is H rfl (Dr.rG rfl hE rfl rfl (decide_eq_false c562) (d_eql hE rfl rfl)),
    by intro a w g hE H; exact Dr.is H rfl (Dr.rG rfl hE rfl rfl (decide_eq_false c562) (d_move hE rfl)),
    by intro a w g hE H; exact Dr.is H rfl (Dr.pG rfl hE rfl rfl (decide_eq_false c565) ⟨rfl, rfl⟩),
    by intro a w g hE H; exact Dr.is H rfl (Dr.pG rfl hE rfl rfl (decide_eq_false c565) ⟨rfl, rfl⟩),
    by intro a w g hE H; exact Dr.is H rfl (Dr.pG rfl hE rfl rfl (decide_eq_false c565) ⟨rfl, rfl⟩),
    by intro a w g hE H; exact Dr.is H rfl (Dr.pG rfl hE rfl rfl (decide_eq_false c565) ⟨rfl, rfl⟩),
    by intro a w g hE H; exact Dr.is H rfl (Dr.pG rfl hE rfl rfl (decide_eq_false c565) ⟨rfl, rfl⟩),
    by intro a w g hE H; exact Dr.is H rfl (Dr.pG rfl hE rfl rfl (decide_eq_false c565) ⟨rfl, rfl⟩),
    by intro a w g hE H; exact Dr.is H rfl (Dr.pG rfl hE rfl rfl (decide_eq_false c565) ⟨rfl, rfl⟩),
    by intro a w g hE H; exact Dr.is H rfl (Dr.pG rfl hE rfl rfl (decide_eq_false c565) ⟨rfl, rfl⟩),
    by intro a w g hE H; exact Dr.is H rfl (Dr.pG rfl hE rfl rfl (decide_eq_false c565) ⟨rfl, rfl⟩),
    by intro a w g hE H; exact Dr.is H rfl (Dr.rG rfl hE rfl rfl (decide_eq_false c562) (d_pF hE rfl (decide_eq_false c565) rfl)),
    by intro a w g hE H; exact Dr.is H rfl (Dr.rG rfl hE rfl rfl (decide_eq_true c559) (d_pF hE rfl (decide_eq_false c562) rfl)),
    by intro a w g hE H; exact Dr.is H rfl (Dr.run rfl (d_pT hE rfl (decide_eq_true c559) rfl)),
    trivial⟩
                      · trivial
                      · intro a w g hE H
                        have H : St z I w (Bl q529 60 [(.int .i64 x527.From), (.int .i64 x527.To), (.int .i64 x527.Cost)] :: r) := H
                        cases hm
                        have H := St.del H 0
                        exact ⟨hE.sub ⟨rfl, rfl, rfl, trivial⟩, H⟩
                · rw [if_neg c559] at hm
                  refine Dr.region (γ := Unit) (pre := [[], [0], [0, 1], [0, 1, 2], [0, 1, 2], [0, 1, 2, 4], [0, 1, 2, 3, 4, 5], [0, 1, 2, 3, 4, 5, 6], [0, 1, 2, 3, 4, 5, 6, 7], [0, 1, 2], [0, 1, 2, 9], [0, 1, 2, 3, 4, 5, 6, 7, 8, 9, 10], [0, 1, 2, 3, 4, 5, 6, 7, 8, 9, 10, 11], [0, 1, 2, 3, 4, 5, 6, 7, 8, 9, 10, 11, 12], [0, 1, 2, 3, 4, 5, 6, 7, 8, 9, 10, 11, 12], [0, 1, 2, 3, 4, 5, 6, 7, 8, 9, 10, 11, 12, 14], [0, 1, 2, 3, 4, 5, 6, 7, 8, 9, 10, 11, 12, 13, 14, 15], [0, 1, 2, 3, 4, 5, 6, 7, 8, 9, 10, 11, 12, 13, 14, 15, 16], [0, 1, 2, 3, 4, 5, 6, 7, 8, 9, 10, 11, 12, 13, 14, 15, 16, 17], [0, 1, 2, 3, 4, 5, 6, 7, 8, 9, 10, 11, 12], [0, 1, 2, 3, 4, 5, 6, 7, 8, 9, 10, 11, 12, 19], [0, 1, 2, 3, 4, 5, 6, 7, 8, 9, 10, 11, 12, 13, 14, 15, 16, 17, 18, 19, 20], [0, 1, 2, 3, 4, 5, 6, 7, 8, 9, 10, 11, 12, 13, 14, 15, 16, 17, 18, 19, 20, 21], [0, 1, 2, 3, 4, 5, 6, 7, 8, 9, 10, 11, 12, 13, 14, 15, 16, 17, 18, 19, 20, 21, 22], [0, 1, 2, 3, 4, 5, 6, 7, 8, 9, 10, 11, 12, 13, 14, 15, 16, 17, 18, 19, 20, 21, 22], [0, 1, 2, 3, 4, 5, 6, 7, 8, 9, 10, 11, 12, 13, 14, 15, 16, 17, 18, 19, 20, 21, 22, 24], [0, 1, 2, 3, 4, 5, 6, 7, 8, 9, 10, 11, 12, 13, 14, 15, 16, 17, 18, 19, 20, 21, 22, 23, 24, 25], [0, 1, 2, 3, 4, 5, 6, 7, 8, 9, 10, 11, 12, 13, 14, 15, 16, 17, 18, 19, 20, 21, 22, 23, 24, 25, 26], [0, 1, 2, 3, 4, 5, 6, 7, 8, 9, 10, 11, 12, 13, 14, 15, 16, 17, 18, 19, 20, 21, 22, 23, 24, 25, 26, 27], [0, 1, 2, 3, 4, 5, 6, 7, 8, 9, 10, 11, 12, 13, 14, 15, 16, 17, 18, 19, 20, 21, 22], [0, 1, 2, 3, 4, 5, 6, 7, 8, 9, 10, 11, 12, 13, 14, 15, 16, 17, 18, 19, 20, 21, 22, 29], [0, 1, 2, 3, 4, 5, 6, 7, 8, 9, 10, 11, 12, 13, 14, 15, 16, 17, 18, 19, 20, 21, 22, 23, 24, 25, 26, 27, 28, 29, 30], [0, 1, 2, 3, 4, 5, 6, 7, 8, 9, 10, 11, 12, 13, 14, 15, 16, 17, 18, 19, 20, 21, 22, 23, 24, 25, 26, 27, 28, 29, 30, 31], [0, 1, 2, 3, 4, 5, 6, 7, 8, 9, 10, 11, 12, 13, 14, 15, 16, 17, 18, 19, 20, 21, 22, 23, 24, 25, 26, 27, 28, 29, 30, 31, 32], [0, 1, 2, 3, 4, 5, 6, 7, 8, 9, 10, 11, 12, 13, 14, 15, 16, 17, 18, 19, 20, 21, 22, 23, 24, 25, 26, 27, 28, 29, 30, 31, 32, 33]]) (val := [some (.int .i64 y380), some (.bool (decide (0 < y380))), some (.bool (decide (0 < y380))), some undef, some undef, some undef, some undef, some undef, some undef, some undef, some undef, some undef, some undef, some undef, some undef, some undef, some undef, some undef, some undef, some undef, some undef, some undef, some undef, some undef, some undef, some undef, some undef, some undef, some undef, some undef, some undef, some undef, some undef, some undef, some (.bool false)]) (eff := []) (mask := [[]]) (keys := [[]]) (src := [[.base 3], [.op 0], [.op 1], [.base 0, .op 2], [.base 3, .op 2], [.op 2, .op 4], [.op 2, .op 3, .op 5], [.op 2, .op 6], [.op 2, .op 7], [.base 4, .op 2], [.op 2, .op 9], [.op 2, .op 8, .op 10], [.op 2, .op 11], [.base 0, .op 12], [.base 3, .op 12], [.op 12, .op 14], [.op 12, .op 13, .op 15], [.op 12, .op 16], [.op 12, .op 17], [.base 4, .op 12], [.op 12, .op 19], [.op 12, .op 18, .op 20], [.op 12, .op 21], [.base 0, .op 22], [.base 3, .op 22], [.op 22, .op 24], [.op 22, .op 23, .op 25], [.op 22, .op 26], [.op 22, .op 27], [.base 4, .op 22], [.op 22, .op 29], [.op 22, .op 28, .op 30], [.op 12, .op 22, .op 31], [.op 2, .op 12, .op 32], [.op 2, .op 33]]) (z := z) (ef := fun p g => ([[]] : List (List (Nat × Value))).getD p []) (hi := fun _ _ => I) (rs := fun p g => ([Bl q529 60 [(.int .i64 x527.From), (.int .i64 x527.To), (.int .i64 x527.Cost)] :: r] : List (List Asn)).getD p []) [(0, 0), (1, 0), (2, 0), (3, 0), (4, 0), (5, 0), (6, 0), (7, 0), (8, 0), (9, 0), (10, 0), (11, 0), (12, 0), (13, 0), (14, 0), (15, 0), (16, 0), (17, 0), (18, 0), (19, 0), (20, 0), (21, 0), (22, 0), (23, 0), (24, 0), (25, 0), (26, 0), (27, 0), (28, 0), (29, 0), (30, 0), (31, 0), (32, 0), (33, 0), (34, 0)] [] [0, 1, 2, 3, 4, 5, 6, 7, 8, 9, 10, 11, 12, 13, 14, 15, 16, 17, 18, 19, 20, 21, 22, 23, 24, 25, 26, 27, 28, 29, 30, 31, 32, 33, 34] 0 mo hE () rfl H (by kernel_rfl) (by kernel_rfl) (fun p g => by cases p <;> rfl) ?_ ?_ (by kernel_rfl) (by kernel_rfl) ?_
                  · exact ⟨by intro a w g hE H; exact Dr.is H rfl (Dr.run rfl (d_move hE rfl)),
    by intro a w g hE H; exact Dr.is H rfl (Dr.run rfl (d_gtr hE rfl rfl)),
    by intro a w g hE H; exact Dr.is H rfl (Dr.run rfl (d_move hE rfl)),
    by intro a w g hE H; exact Dr.is H rfl (Dr.pG rfl hE rfl rfl (decide_eq_false c559) ⟨rfl, rfl⟩),
    by intro a w g hE H; exact Dr.is H rfl (Dr.pG rfl hE rfl rfl (decide_eq_false c559) ⟨rfl, rfl⟩),
    by intro a w g hE H; exact Dr.is H rfl (Dr.pG rfl hE rfl rfl (decide_eq_false c559) ⟨rfl, rfl⟩),
    by intro a w g hE H; exact Dr.is H rfl (Dr.pG rfl hE rfl rfl (decide_eq_false c559) ⟨rfl, rfl⟩),
    by intro a w g hE H; exact Dr.is H rfl (Dr.pG rfl hE rfl rfl (decide_eq_false c559) ⟨rfl, rfl⟩),
    by intro a w g hE H; exact Dr.is H rfl (Dr.pG rfl hE rfl rfl (decide_eq_false c559) ⟨rfl, rfl⟩),
    by intro a w g hE H; exact Dr.is H rfl (Dr.pG rfl hE rfl rfl (decide_eq_false c559) ⟨rfl, rfl⟩),
    by intro a w g hE H; exact Dr.is H rfl (Dr.pG rfl hE rfl rfl (decide_eq_false c559) ⟨rfl, rfl⟩),
    by intro a w g hE H; exact Dr.is H rfl (Dr.pG rfl hE rfl rfl (decide_eq_false c559) ⟨rfl, rfl⟩),
    by intro a w g hE H; exact Dr.is H rfl (Dr.pG rfl hE rfl rfl (decide_eq_false c559) ⟨rfl, rfl⟩),
    by intro a w g hE H; exact Dr.is H rfl (Dr.passU rfl hE rfl rfl ⟨rfl, rfl⟩),
    by intro a w g hE H; exact Dr.is H rfl (Dr.passU rfl hE rfl rfl ⟨rfl, rfl⟩),
    by intro a w g hE H; exact Dr.is H rfl (Dr.passU rfl hE rfl rfl ⟨rfl, rfl⟩),
    by intro a w g hE H; exact Dr.is H rfl (Dr.passU rfl hE rfl rfl ⟨rfl, rfl⟩),
    by intro a w g hE H; exact Dr.is H rfl (Dr.passU rfl hE rfl rfl ⟨rfl, rfl⟩),
    by intro a w g hE H; exact Dr.is H rfl (Dr.passU rfl hE rfl rfl ⟨rfl, rfl⟩),
    by intro a w g hE H; exact Dr.is H rfl (Dr.passU rfl hE rfl rfl ⟨rfl, rfl⟩),
    by intro a w g hE H; exact Dr.is H rfl (Dr.passU rfl hE rfl rfl ⟨rfl, rfl⟩),
    by intro a w g hE H; exact Dr.is H rfl (Dr.passU rfl hE rfl rfl ⟨rfl, rfl⟩),
    by intro a w g hE H; exact Dr.is H rfl (Dr.passU rfl hE rfl rfl ⟨rfl, rfl⟩),
    by intro a w g hE H; exact Dr.is H rfl (Dr.passU rfl hE rfl rfl ⟨rfl, rfl⟩),
    by intro a w g hE H; exact Dr.is H rfl (Dr.passU rfl hE rfl rfl ⟨rfl, rfl⟩),
    by intro a w g hE H; exact Dr.is H rfl (Dr.passU rfl hE rfl rfl ⟨rfl, rfl⟩),
    by intro a w g hE H; exact Dr.is H rfl (Dr.passU rfl hE rfl rfl ⟨rfl, rfl⟩),
    by intro a w g hE H; exact Dr.is H rfl (Dr.passU rfl hE rfl rfl ⟨rfl, rfl⟩),
    by intro a w g hE H; exact Dr.is H rfl (Dr.passU rfl hE rfl rfl ⟨rfl, rfl⟩),
    by intro a w g hE H; exact Dr.is H rfl (Dr.passU rfl hE rfl rfl ⟨rfl, rfl⟩),
    by intro a w g hE H; exact Dr.is H rfl (Dr.passU rfl hE rfl rfl ⟨rfl, rfl⟩),
    by intro a w g hE H; exact Dr.is H rfl (Dr.passU rfl hE rfl rfl ⟨rfl, rfl⟩),
    by intro a w g hE H; exact Dr.is H rfl (Dr.passU rfl hE rfl rfl ⟨rfl, rfl⟩),
    by intro a w g hE H; exact Dr.is H rfl (Dr.pG rfl hE rfl rfl (decide_eq_false c559) ⟨rfl, rfl⟩),
    by intro a w g hE H; exact Dr.is H rfl (Dr.run rfl (d_pF hE rfl (decide_eq_false c559) rfl)),
    trivial⟩
                  · trivial
                  · intro a w g hE H
                    have H : St z I w (Bl q529 60 [(.int .i64 x527.From), (.int .i64 x527.To), (.int .i64 x527.Cost)] :: r) := H
                    cases hm
                    have H := St.del H 0
                    exact ⟨hE.sub ⟨rfl, rfl, rfl, trivial⟩, H⟩
              · rintro a w ⟨hE, H⟩
                by_cases c569 : s558 = true
                · rw [if_pos c569] at hm
                  refine cT hE rfl c569 ?_
                  refine wp_seq ?_
                  refine wp_region_lit ?_
                  refine s1 hE rfl (d_assign hE rfl) fun a hE => ?_
                  refine wpList_nil ?_
                  refine wp_ret ?_
                  cases hm
                  have hm := hq475
                  simp only [Out.on] at hm
                  cases hm
                  exact ret1 rfl hE rfl ⟨_, rfl, rfl, H⟩
                · rw [if_neg c569] at hm
                  refine cF hE rfl (b_f c569) ?_
                  refine wp_skip ?_
                  refine wp_region_lit ?_
                  refine s1 hE rfl (d_move hE rfl) fun a hE => ?_
                  refine s1 hE rfl (d_add hE rfl rfl) fun a hE => ?_
                  refine s1 hE rfl (d_assign hE rfl) fun a hE => ?_
                  refine wpList_nil ?_
                  exact ⟨k, Nat.lt_succ_self k, IntKind.i64.wrap (y380 + 1), hm, hE.sub ⟨rfl, rfl, trivial⟩, H⟩
        · rw [if_neg c477] at hm
          refine cF hE rfl (decide_eq_false c477) ?_
          refine wp_exit ?_
          cases hm
          exact ⟨_, rfl, hE.sub trivial, H⟩
    · exact ⟨0, hj475, hE.sub ⟨rfl, rfl, trivial⟩, H⟩
  · rintro a w ⟨s475, rfl, hE, H⟩
    have hm := hq475
    simp only [Out.on] at hm
    refine wp_seq ?_
    refine wp_region_lit ?_
    refine s1 hE rfl (d_assign hE rfl) fun a hE => ?_
    refine wpList_nil ?_
    refine wp_ret ?_
    cases hm
    exact ret1 rfl hE rfl ⟨_, rfl, rfl, H⟩
def m36_l1 (a0 : List S_api_Arc) (y911 : Int) : Nat → Bool → Int → Option Bool
  | 0, _, _ => none
  | k + 1, b1278, y1279 => if y1279 < (a0.length : Int) then (Option.bind (α := Bool) (if b1278 = true then (some true) else (Option.bind (rdx a0 y1279) fun x1337 => if x1337.From = y911 then (some true) else (Option.bind (rdx a0 y1279) fun x1340 => some (decide (x1340.To = y911))))) fun s1335 => m36_l1 a0 y911 k s1335 (IntKind.i64.wrap (y1279 + 1))) else (some b1278)
def m36_l0 (a0 : List S_api_Arc) : Nat → (List Int) → Int → Option (List Int)
  | 0, _, _ => none
  | k + 1, l910, y911 => if y911 ≤ 64 then (Option.bind (m36_l1 a0 y911 k false 0) fun s1311 => Option.bind (α := (List Int)) (if s1311 = true then (Option.bind (appd 17592186044416 l910 ([y911])) fun l1360 => some l1360) else (some l910)) fun s1353 => m36_l0 a0 k s1353 (IntKind.i64.wrap (y911 + 1))) else (some l910)
def m36 (k : Nat) (a0 : List S_api_Arc) : Option (List Int) := Option.bind (m36_l0 a0 k [] 1) fun s1138 => some s1138
set_option maxRecDepth 20000 in
set_option maxHeartbeats 4000000 in
theorem f36_ok (k : Nat) {u0 : Value} (a0 : List S_api_Arc) {res : (List Int)} (hm : m36 k a0 = some res) {z w : World} {I : Hp} {r : List Asn} (hr0 : Rd c_api_Arc z I r u0 a0) (H : St z I w (r)) :
    Calls Try.prog 36 #[u0] w (Rt fun v w' => ∃ v681 : Value, v = v681 ∧ St z I w' (OwnSl (cInt .i64) v681 res :: r)) := by
  have hI := Hp.le_refl I
  unfold m36 at hm
  refine enter (args := [u0]) Try.func36 rfl Try.ntmps36 rfl fun a hE => ?_
  refine wp_seq ?_
  refine wp_region_lit ?_
  refine s1 hE rfl (d_assign hE rfl) fun a hE => ?_
  refine wpList_nil ?_
  refine wp_seq ?_
  refine wp_region_lit ?_
  refine s2 hE rfl (d_lit (c := (cInt .i64)) (xs := []) hE rfl (lit51_0) rfl rfl (rows0) H) fun a v w hR hE => ?_
  obtain ⟨v684, rfl⟩ : ∃ x, x = v := ⟨v, rfl⟩
  have H : St z I w (OwnSl (cInt .i64) v684 [] :: r) := hR
  refine s1 hE rfl (d_assign hE rfl) fun a hE => ?_
  refine wpList_nil ?_
  refine wp_seq ?_
  refine wp_seq ?_
  refine wp_region_lit ?_
  refine s1 hE rfl (d_assign hE rfl) fun a hE => ?_
  refine wpList_nil ?_
  obtain ⟨s1138, hj1138, hm⟩ := bnd hm
  refine cut2 (fun a w => ∃ v1136 : Value, Env a 43 [(3, v1136)] ∧ St z I w (OwnSl (cInt .i64) v1136 s1138 :: r)) ?_ ?_
  · refine wp_block ?_
    refine loopI (fun k a w => ∃ l910 : List Int, ∃ y911 : Int, m36_l0 a0 k l910 y911 = some s1138 ∧ ∃ v909 : Value, Env a 43 [(0, u0), (3, v909), (4, (.int .i64 y911))] ∧ St z I w (OwnSl (cInt .i64) v909 l910 :: r)) ?_ k _ _ ?_
    · rintro k a w ⟨l910, y911, hm, v909, hE, H⟩
      cases k with
      | zero => rw [m36_l0] at hm; cases hm
      | succ k =>
        rw [m36_l0] at hm
        refine wp_seq ?_
        refine wp_seq ?_
        refine wp_region_lit ?_
        refine s1 hE rfl (d_move hE rfl) fun a hE => ?_
        refine s1 hE rfl (d_leq hE rfl rfl) fun a hE => ?_
        refine wpList_nil ?_
        by_cases c1140 : y911 ≤ 64
        · rw [if_pos c1140] at hm
          refine cT hE rfl (decide_eq_true c1140) ?_
          refine wp_skip ?_
          refine wp_seq ?_
          refine wp_block ?_
          refine wp_seq ?_
          refine wp_region_lit ?_
          refine s1 hE rfl (d_assign hE rfl) fun a hE => ?_
          refine wpList_nil ?_
          refine wp_seq ?_
          refine wp_seq ?_
          refine wp_region_lit ?_
          refine s1 hE rfl (d_assign hE rfl) fun a hE => ?_
          refine wpList_nil ?_
          obtain ⟨s1311, hj1311, hm⟩ := bnd hm
          refine cut2 (fun a w => Env a 43 [(0, u0), (3, v909), (4, (.int .i64 y911)), (5, (.bool s1311))] ∧ St z I w (OwnSl (cInt .i64) v909 l910 :: r)) ?_ ?_
          · refine wp_block ?_
            refine loopI (fun k a w => ∃ b1278 : Bool, ∃ y1279 : Int, m36_l1 a0 y911 k b1278 y1279 = some s1311 ∧ Env a 43 [(0, u0), (3, v909), (4, (.int .i64 y911)), (5, (.bool b1278)), (6, (.int .i64 y1279))] ∧ St z I w (OwnSl (cInt .i64) v909 l910 :: r)) ?_ k _ _ ?_
            · rintro k a w ⟨b1278, y1279, hm, hE, H⟩
              cases k with
              | zero => rw [m36_l1] at hm; cases hm
              | succ k =>
                rw [m36_l1] at hm
                refine wp_seq ?_
                refine wp_seq ?_
                refine wp_region_lit ?_
                refine s1 hE rfl (d_move hE rfl) fun a hE => ?_
                refine s1 hE rfl (d_move hE rfl) fun a hE => ?_
                refine s1 hE rfl (d_lenS Try.underlying55 hE rfl (Rd.st hr0 hI (H).drop)) fun a hE => ?_
                refine s1 hE rfl (d_lss hE rfl rfl) fun a hE => ?_
                refine wpList_nil ?_
                by_cases c1313 : y1279 < (a0.length : Int)
                · rw [if_pos c1313] at hm
                  refine cT hE rfl (decide_eq_true c1313) ?_
                  refine wp_skip ?_
                  refine wp_seq ?_
                  refine wp_block ?_
                  obtain ⟨s1335, hj1335, hm⟩ := bnd hm
                  refine cut2 (fun a w => Env a 43 [(0, u0), (3, v909), (4, (.int .i64 y911)), (5, (.bool s1335)), (6, (.int .i64 y1279))] ∧ St z I w (OwnSl (cInt .i64) v909 l910 :: r)) ?_ ?_
                  · have hm := hj1335
                    refine wp_region_lit ?_
                    refine s1 hE rfl (d_move hE rfl) fun a hE => ?_
                    refine s1 hE rfl (d_move hE rfl) fun a hE => ?_
                    by_cases c1336 : b1278 = true
                    · rw [if_pos c1336] at hm
                      refine gP hE rfl rfl rfl c1336 fun a hE => ?_
                      refine gP hE rfl rfl rfl c1336 fun a hE => ?_
                      refine gP hE rfl rfl rfl c1336 fun a hE => ?_
                      refine gP hE rfl rfl rfl c1336 fun a hE => ?_
                      refine gP hE rfl rfl rfl c1336 fun a hE => ?_
                      refine gP hE rfl rfl rfl c1336 fun a hE => ?_
                      refine gP hE rfl rfl rfl c1336 fun a hE => ?_
                      refine s1 hE rfl (d_pT hE rfl c1336 rfl) fun a hE => ?_
                      refine s1 hE rfl (d_move hE rfl) fun a hE => ?_
                      refine gP hE rfl rfl rfl rfl fun a hE => ?_
                      refine gP hE rfl rfl rfl rfl fun a hE => ?_
                      refine gP hE rfl rfl rfl rfl fun a hE => ?_
                      refine gP hE rfl rfl rfl rfl fun a hE => ?_
                      refine gP hE rfl rfl rfl rfl fun a hE => ?_
                      refine gP hE rfl rfl rfl rfl fun a hE => ?_
                      refine gP hE rfl rfl rfl rfl fun a hE => ?_
                      refine s1 hE rfl (d_pT hE rfl rfl rfl) fun a hE => ?_
                      refine s1 hE rfl (d_assign hE rfl) fun a hE => ?_
                      refine wpList_nil ?_
                      cases hm
                      exact ⟨hE.sub ⟨rfl, rfl, rfl, rfl, rfl, trivial⟩, H⟩
                    · rw [if_neg c1336] at hm
                      refine gR hE rfl rfl (b_f c1336) ?_
                      refine s1 hE rfl (d_move hE rfl) fun a hE => ?_
                      refine gR hE rfl rfl (b_f c1336) ?_
                      refine s1 hE rfl (d_move hE rfl) fun a hE => ?_
                      refine gR hE rfl rfl (b_f c1336) ?_
                      obtain ⟨x1337, hx1338, hm⟩ := bnd hm
                      refine s1 hE rfl (d_indexS sl55 hE rfl rfl (Rd.st hr0 hI (H).drop) hx1338) fun a hE => ?_
                      refine gR hE rfl rfl (b_f c1336) ?_
                      refine s1 hE rfl (d_fieldAddr fld60_0 hE rfl) fun a hE => ?_
                      refine gR hE rfl rfl (b_f c1336) ?_
                      refine s1 hE rfl (d_loadSf (j := 0) sc3 hE rfl (Rd.st hr0 hI (H).drop) hx1338 (fun _ e => by rw [e]; rfl)) fun a hE => ?_
                      refine gR hE rfl rfl (b_f c1336) ?_
                      refine s1 hE rfl (d_move hE rfl) fun a hE => ?_
                      refine gR hE rfl rfl (b_f c1336) ?_
                      refine s1 hE rfl (d_eql hE rfl rfl) fun a hE => ?_
                      refine s1 hE rfl (d_pF hE rfl (b_f c1336) rfl) fun a hE => ?_
                      refine s1 hE rfl (d_move hE rfl) fun a hE => ?_
                      by_cases c1339 : x1337.From = y911
                      · rw [if_pos c1339] at hm
                        refine gP hE rfl rfl rfl (decide_eq_true c1339) fun a hE => ?_
                        refine gP hE rfl rfl rfl (decide_eq_true c1339) fun a hE => ?_
                        refine gP hE rfl rfl rfl (decide_eq_true c1339) fun a hE => ?_
                        refine gP hE rfl rfl rfl (decide_eq_true c1339) fun a hE => ?_
                        refine gP hE rfl rfl rfl (decide_eq_true c1339) fun a hE => ?_
                        refine gP hE rfl rfl rfl (decide_eq_true c1339) fun a hE => ?_
                        refine gP hE rfl rfl rfl (decide_eq_true c1339) fun a hE => ?_
                        refine s1 hE rfl (d_pT hE rfl (decide_eq_true c1339) rfl) fun a hE => ?_
                        refine s1 hE rfl (d_assign hE rfl) fun a hE => ?_
                        refine wpList_nil ?_
                        cases hm
                        exact ⟨hE.sub ⟨rfl, rfl, rfl, rfl, rfl, trivial⟩, H⟩
                      · rw [if_neg c1339] at hm
                        refine gR hE rfl rfl (decide_eq_false c1339) ?_
                        refine s1 hE rfl (d_move hE rfl) fun a hE => ?_
                        refine gR hE rfl rfl (decide_eq_false c1339) ?_
                        refine s1 hE rfl (d_move hE rfl) fun a hE => ?_
                        refine gR hE rfl rfl (decide_eq_false c1339) ?_
                        obtain ⟨x1340, hx1341, hm⟩ := bnd hm
                        refine s1 hE rfl (d_indexS sl55 hE rfl rfl (Rd.st hr0 hI (H).drop) hx1341) fun a hE => ?_
                        refine gR hE rfl rfl (decide_eq_false c1339) ?_
                        refine s1 hE rfl (d_fieldAddr fld60_1 hE rfl) fun a hE => ?_
                        refine gR hE rfl rfl (decide_eq_false c1339) ?_
                        refine s1 hE rfl (d_loadSf (j := 1) sc3 hE rfl (Rd.st hr0 hI (H).drop) hx1341 (fun _ e => by rw [e]; rfl)) fun a hE => ?_
                        refine gR hE rfl rfl (decide_eq_false c1339) ?_
                        refine s1 hE rfl (d_move hE rfl) fun a hE => ?_
                        refine gR hE rfl rfl (decide_eq_false c1339) ?_
                        refine s1 hE rfl (d_eql hE rfl rfl) fun a hE => ?_
                        refine s1 hE rfl (d_pF hE rfl (decide_eq_false c1339) rfl) fun a hE => ?_
                        refine s1 hE rfl (d_assign hE rfl) fun a hE => ?_
                        refine wpList_nil ?_
                        cases hm
                        exact ⟨hE.sub ⟨rfl, rfl, rfl, rfl, rfl, trivial⟩, H⟩
                  · rintro a w ⟨hE, H⟩
                    refine wp_region_lit ?_
                    refine s1 hE rfl (d_move hE rfl) fun a hE => ?_
                    refine s1 hE rfl (d_add hE rfl rfl) fun a hE => ?_
                    refine s1 hE rfl (d_assign hE rfl) fun a hE => ?_
                    refine wpList_nil ?_
                    exact ⟨k, Nat.lt_succ_self k, s1335, IntKind.i64.wrap (y1279 + 1), hm, hE.sub ⟨rfl, rfl, rfl, rfl, rfl, trivial⟩, H⟩
                · rw [if_neg c1313] at hm
                  refine cF hE rfl (decide_eq_false c1313) ?_
                  refine wp_exit ?_
                  cases hm
                  exact ⟨hE.sub ⟨rfl, rfl, rfl, rfl, trivial⟩, H⟩
            · exact ⟨false, 0, hj1311, hE.sub ⟨rfl, rfl, rfl, rfl, rfl, trivial⟩, H⟩
          · rintro a w ⟨hE, H⟩
            refine wp_seq ?_
            refine wp_region_lit ?_
            refine s1 hE rfl (d_move hE rfl) fun a hE => ?_
            refine wpList_nil ?_
            obtain ⟨s1353, hj1353, hm⟩ := bnd hm
            refine cut2 (fun a w => ∃ v1351 : Value, Env a 43 [(0, u0), (3, v1351), (4, (.int .i64 y911))] ∧ St z I w (OwnSl (cInt .i64) v1351 s1353 :: r)) ?_ ?_
            · have hm := hj1353
              by_cases c1354 : s1311 = true
              · rw [if_pos c1354] at hm
                refine cT hE rfl c1354 ?_
                refine wp_region_lit ?_
                refine s1 hE rfl (d_move hE rfl) fun a hE => ?_
                refine s1 hE rfl (d_move hE rfl) fun a hE => ?_
                refine s2 hE rfl (d_lit (c := (cInt .i64)) (xs := [y911]) hE rfl (lit51_1 _) rfl rfl (rowsC (cs := [(.int .i64 y911)]) rfl (rows0)) H) fun a v w hR hE => ?_
                obtain ⟨v1359, rfl⟩ : ∃ x, x = v := ⟨v, rfl⟩
                have H : St z I w (OwnSl (cInt .i64) v1359 ([y911]) :: OwnSl (cInt .i64) v909 l910 :: r) := hR
                obtain ⟨l1360, ha1361, hm⟩ := bnd hm
                have H := St.get H 1 rfl
                have H : St z I w (OwnSl (cInt .i64) v909 l910 :: OwnSl (cInt .i64) v1359 ([y911]) :: r) := H
                refine s2 hE rfl (d_appendO (lim := 17592186044416) el51 (by decide) (by decide) hE rfl rfl H ha1361) fun a v w hR hE => ?_
                obtain ⟨v1362, rfl⟩ : ∃ x, x = v := ⟨v, rfl⟩
                have H : St z I w (OwnSl (cInt .i64) v1362 l1360 :: r) := hR
                refine s1 hE rfl (d_assign hE rfl) fun a hE => ?_
                refine wpList_nil ?_
                cases hm
                exact ⟨v1362, hE.sub ⟨rfl, rfl, rfl, trivial⟩, H⟩
              · rw [if_neg c1354] at hm
                refine cF hE rfl (b_f c1354) ?_
                refine wp_skip ?_
                cases hm
                exact ⟨v909, hE.sub ⟨rfl, rfl, rfl, trivial⟩, H⟩
            · rintro a w ⟨v1351, hE, H⟩
              refine wp_region_lit ?_
              refine s1 hE rfl (d_move hE rfl) fun a hE => ?_
              refine s1 hE rfl (d_add hE rfl rfl) fun a hE => ?_
              refine s1 hE rfl (d_assign hE rfl) fun a hE => ?_
              refine wpList_nil ?_
              exact ⟨k, Nat.lt_succ_self k, s1353, IntKind.i64.wrap (y911 + 1), hm, v1351, hE.sub ⟨rfl, rfl, rfl, trivial⟩, H⟩
        · rw [if_neg c1140] at hm
          refine cF hE rfl (decide_eq_false c1140) ?_
          refine wp_exit ?_
          cases hm
          exact ⟨v909, hE.sub ⟨rfl, trivial⟩, H⟩
    · exact ⟨[], 1, hj1138, v684, hE.sub ⟨rfl, rfl, rfl, trivial⟩, H⟩
  · rintro a w ⟨v1136, hE, H⟩
    refine wp_seq ?_
    refine wp_region_lit ?_
    refine s1 hE rfl (d_move hE rfl) fun a hE => ?_
    refine s1 hE rfl (d_assign hE rfl) fun a hE => ?_
    refine wpList_nil ?_
    refine wp_ret ?_
    cases hm
    exact ret1 rfl hE rfl ⟨_, rfl, v1136, rfl, H⟩
def m37_l0 (a0 : List Int) (a1 : List Int) : Nat → Int → Option (Out Bool Unit)
  | 0, _ => none
  | k + 1, y96 => if y96 < (a0.length : Int) then (Option.bind (rdx a0 y96) fun x136 => Option.bind (rdx a1 y96) fun x138 => if x136 = x138 then (m37_l0 a0 a1 k (IntKind.i64.wrap (y96 + 1))) else (some (.ret false))) else (some (.go ()))
def m37 (k : Nat) (a0 : List Int) (a1 : List Int) : Option Bool := if (a0.length : Int) = (a1.length : Int) then (Option.bind (m37_l0 a0 a1 k 0) fun s119 => s119.on (fun q_ => some q_) fun s119 => some true) else (some false)
set_option maxRecDepth 20000 in
set_option maxHeartbeats 4000000 in
theorem f37_ok (k : Nat) {u0 : Value} (a0 : List Int) {u1 : Value} (a1 : List Int) {res : Bool} (hm : m37 k a0 a1 = some res) {z w : World} {I : Hp} {r : List Asn} (hr0 : Rd (cInt .i64) z I r u0 a0) (hr1 : Rd (cInt .i64) z I r u1 a1) (H : St z I w (r)) :
    Calls Try.prog 37 #[u0, u1] w (Rt fun v w' => v = (.bool res) ∧ St z I w' (r)) := by
  have hI := Hp.le_refl I
  unfold m37 at hm
  refine enter (args := [u0, u1]) Try.func37 rfl Try.ntmps37 rfl fun a hE => ?_
  refine wp_seq ?_
  refine wp_region_lit ?_
  refine s1 hE rfl (d_assign hE rfl) fun a hE => ?_
  refine wpList_nil ?_
  refine wp_seq ?_
  refine wp_seq ?_
  refine wp_region_lit ?_
  refine s1 hE rfl (d_move hE rfl) fun a hE => ?_
  refine s1 hE rfl (d_lenS Try.underlying51 hE rfl (Rd.st hr0 hI H)) fun a hE => ?_
  refine s1 hE rfl (d_move hE rfl) fun a hE => ?_
  refine s1 hE rfl (d_lenS Try.underlying51 hE rfl (Rd.st hr1 hI H)) fun a hE => ?_
  refine s1 hE rfl (d_neq hE rfl rfl) fun a hE => ?_
  refine wpList_nil ?_
  by_cases c73 : (a0.length : Int) = (a1.length : Int)
  · rw [if_pos c73] at hm
    refine cF hE rfl (not_f (decide_eq_true c73)) ?_
    refine wp_skip ?_
    refine wp_seq ?_
    refine wp_seq ?_
    refine wp_region_lit ?_
    refine s1 hE rfl (d_assign hE rfl) fun a hE => ?_
    refine wpList_nil ?_
    obtain ⟨s119, hj119, hq119⟩ := bnd hm
    refine cut2 (fun a w => ∃ s_ : Unit, s119 = .go s_ ∧ Env a 26 [] ∧ St z I w (r)) ?_ ?_
    · refine wp_block ?_
      refine loopI (fun k a w => ∃ y96 : Int, m37_l0 a0 a1 k y96 = some s119 ∧ Env a 26 [(0, u0), (1, u1), (5, (.int .i64 y96))] ∧ St z I w (r)) ?_ k _ _ ?_
      · rintro k a w ⟨y96, hm, hE, H⟩
        cases k with
        | zero => rw [m37_l0] at hm; cases hm
        | succ k =>
          rw [m37_l0] at hm
          refine wp_seq ?_
          refine wp_seq ?_
          refine wp_region_lit ?_
          refine s1 hE rfl (d_move hE rfl) fun a hE => ?_
          refine s1 hE rfl (d_move hE rfl) fun a hE => ?_
          refine s1 hE rfl (d_lenS Try.underlying51 hE rfl (Rd.st hr0 hI H)) fun a hE => ?_
          refine s1 hE rfl (d_lss hE rfl rfl) fun a hE => ?_
          refine wpList_nil ?_
          by_cases c121 : y96 < (a0.length : Int)
          · rw [if_pos c121] at hm
            refine cT hE rfl (decide_eq_true c121) ?_
            refine wp_skip ?_
            refine wp_seq ?_
            refine wp_block ?_
            refine wp_seq ?_
            obtain ⟨x136, hx137, hm⟩ := bnd hm
            obtain ⟨x138, hx139, hm⟩ := bnd hm
            refine Dr.region (γ := Unit) (pre := [[], [], [0, 1], [0, 1, 2], [], [], [4, 5], [4, 5, 6], [0, 1, 2, 3, 4, 5, 6, 7]]) (val := [some u0, some (.int .i64 y96), some (.pointer (some (ad (sb u0) (so u0 + (y96).toNat * (cInt .i64).n)))), some (.int .i64 x136), some u1, some (.int .i64 y96), some (.pointer (some (ad (sb u1) (so u1 + (y96).toNat * (cInt .i64).n)))), some (.int .i64 x138), some (.bool (!(decide (x136 = x138))))]) (eff := []) (mask := [[]]) (keys := [[]]) (src := [[.base 0], [.base 5], [.op 0, .op 1], [.op 2], [.base 1], [.base 5], [.op 4, .op 5], [.op 6], [.op 3, .op 7]]) (z := z) (ef := fun p g => ([[]] : List (List (Nat × Value))).getD p []) (hi := fun _ _ => I) (rs := fun p g => ([r] : List (List Asn)).getD p []) [(0, 0), (1, 0), (2, 0), (3, 0), (4, 0), (5, 0), (6, 0), (7, 0), (8, 0)] [] [0, 1, 2, 3, 4, 5, 6, 7, 8] 0 mo hE () rfl H (by kernel_rfl) (by kernel_rfl) (fun p g => by cases p <;> rfl) ?_ ?_ (by kernel_rfl) (by kernel_rfl) ?_
            · exact ⟨by intro a w g hE H; exact Dr.is H rfl (Dr.run rfl (d_move hE rfl)),
    by intro a w g hE H; exact Dr.is H rfl (Dr.run rfl (d_move hE rfl)),
    by intro a w g hE H; exact Dr.is H rfl (Dr.run rfl (d_indexS sl51 hE rfl rfl (Rd.st hr0 hI H) hx137)),
    by intro a w g hE H; exact Dr.is H rfl (Dr.run rfl (d_loadS1 sc3 hE rfl (Rd.st hr0 hI H) hx137 (fun _ e => e))),
    by intro a w g hE H; exact Dr.is H rfl (Dr.run rfl (d_move hE rfl)),
    by intro a w g hE H; exact Dr.is H rfl (Dr.run rfl (d_move hE rfl)),
    by intro a w g hE H; exact Dr.is H rfl (Dr.run rfl (d_indexS sl51 hE rfl rfl (Rd.st hr1 hI H) hx139)),
    by intro a w g hE H; exact Dr.is H rfl (Dr.run rfl (d_loadS1 sc3 hE rfl (Rd.st hr1 hI H) hx139 (fun _ e => e))),
    by intro a w g hE H; exact Dr.is H rfl (Dr.run rfl (d_neq hE rfl rfl)),
    trivial⟩
            · trivial
            · intro a w g hE H
              have H : St z I w (r) := H
              by_cases c141 : x136 = x138
              · rw [if_pos c141] at hm
                refine cF hE rfl (not_f (decide_eq_true c141)) ?_
                refine wp_skip ?_
                refine wp_region_lit ?_
                refine s1 hE rfl (d_move hE rfl) fun a hE => ?_
                refine s1 hE rfl (d_add hE rfl rfl) fun a hE => ?_
                refine s1 hE rfl (d_assign hE rfl) fun a hE => ?_
                refine wpList_nil ?_
                exact ⟨k, Nat.lt_succ_self k, IntKind.i64.wrap (y96 + 1), hm, hE.sub ⟨rfl, rfl, rfl, trivial⟩, H⟩
              · rw [if_neg c141] at hm
                refine cT hE rfl (not_t (decide_eq_false c141)) ?_
                refine wp_seq ?_
                refine wp_region_lit ?_
                refine s1 hE rfl (d_assign hE rfl) fun a hE => ?_
                refine wpList_nil ?_
                refine wp_ret ?_
                cases hm
                have hm := hq119
                simp only [Out.on] at hm
                cases hm
                exact ret1 rfl hE rfl ⟨_, rfl, rfl, H⟩
          · rw [if_neg c121] at hm
            refine cF hE rfl (decide_eq_false c121) ?_
            refine wp_exit ?_
            cases hm
            exact ⟨_, rfl, hE.sub trivial, H⟩
      · exact ⟨0, hj119, hE.sub ⟨rfl, rfl, rfl, trivial⟩, H⟩
    · rintro a w ⟨s119, rfl, hE, H⟩
      have hm := hq119
      simp only [Out.on] at hm
      refine wp_seq ?_
      refine wp_region_lit ?_
      refine s1 hE rfl (d_assign hE rfl) fun a hE => ?_
      refine wpList_nil ?_
      refine wp_ret ?_
      cases hm
      exact ret1 rfl hE rfl ⟨_, rfl, rfl, H⟩
  · rw [if_neg c73] at hm
    refine cT hE rfl (not_t (decide_eq_false c73)) ?_
    refine wp_seq ?_
    refine wp_region_lit ?_
    refine s1 hE rfl (d_assign hE rfl) fun a hE => ?_
    refine wpList_nil ?_
    refine wp_ret ?_
    cases hm
    exact ret1 rfl hE rfl ⟨_, rfl, rfl, H⟩
def m146  : Option Int := some 18446744073709551615
set_option maxRecDepth 20000 in
set_option maxHeartbeats 4000000 in
theorem f146_ok  {res : Int} (hm : m146 = some res) {z w : World} {I : Hp} {r : List Asn}  (H : St z I w (r)) :
    Calls Try.prog 146 #[] w (Rt fun v w' => v = (.int .u64 res) ∧ St z I w' (r)) := by
  have hI := Hp.le_refl I
  unfold m146 at hm
  refine enter (args := []) Try.func146 rfl Try.ntmps146 rfl fun a hE => ?_
  refine wp_seq ?_
  refine wp_region_lit ?_
  refine s1 hE rfl (d_assign hE rfl) fun a hE => ?_
  refine wpList_nil ?_
  refine wp_seq ?_
  refine wp_region_lit ?_
  refine s1 hE rfl (d_assign hE rfl) fun a hE => ?_
  refine wpList_nil ?_
  refine wp_ret ?_
  cases hm
  exact ret1 rfl hE rfl ⟨_, rfl, rfl, H⟩
end Go.Proofs.Ytbielnhpfbhkgaa
