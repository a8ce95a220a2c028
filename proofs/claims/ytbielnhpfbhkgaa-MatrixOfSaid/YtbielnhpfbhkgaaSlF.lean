/- Regions that draw, of which an operation is passed over by what another one gave that reads memory. -/
import Derived.Test.YtbielnhpfbhkgaaSlE
set_option linter.unusedVariables false
set_option linter.unusedSimpArgs false
namespace Go.Proofs.Ytbielnhpfbhkgaa
open Go
namespace Dr
section
variable {γ : Type} {P : Program} {ops : Array Oper} {pre : List (List Nat)} {val : List (Option Value)} {eff : List Nat} {mask : List (List Nat)} {l0 : List (Nat × Value)} {keys : List (List Nat)}
  {src : List (List Src)} {z : World} {N : Nat} {ef : Nat → γ → List (Nat × Value)} {hi : Nat → γ → Hp} {rs : Nat → γ → List Asn}
/-- What is owed for an operation that always gives the same, of what those gave that turn memory. -/
def ObP2 (P : Program) (ops : Array Oper) (val : List (Option Value)) (l0 : List (Nat × Value)) (src : List (List Src)) (z : World) (N : Nat) (ef : Nat → γ → List (Nat × Value)) (hi : Nat → γ → Hp) (rs : Nat → γ → List Asn) (i p : Nat) : Prop :=
  ∀ (a : Act) (w : World) (g : γ), Env a N (envAt ops val l0 (src.getD i [])) → Env a N (ef p g) → St z (hi p g) w (rs p g) →
    DoesG P ops i a w fun v w' => valAt val i = some v ∧ St z (hi p g) w' (rs p g)
theorem region2 {id : Nat} {Q : Exit → Act → World → Prop} {a : Act} {w : World} (U : List (Nat × Nat)) (T : List (Nat × Nat × Nat)) (out : List Nat) (pF : Nat)
    (hm : P.follows .mixedOrders = true) (hE : Env a N l0) (g0 : γ) (e0 : ef 0 g0 = []) (H : St z (hi 0 g0) w (rs 0 g0))
    (cD : (chkD ops && chkDirs ops && chkPre ops pre && chkPure ops pre eff mask U && chkEff pre eff mask T && chkKeys ops eff mask keys && chkVal ops val eff && chkSrc ops pre src && Nat.blt 0 mask.length &&
      (maskAt mask 0).isEmpty && ((List.range mask.length).all fun p => (maskAt mask p).all fun e => eff.contains e) && eff.all fun i => Nat.blt i ops.size) = true)
    (cN : ((List.range ops.size).all fun i => match dst ops i with | some t => Nat.blt t N | none => true) = true)
    (hK : ∀ p g, (ef p g).map (·.1) = keysAt keys p)
    (oP : AllP (ObP2 P ops val l0 src z N ef hi rs) U) (oE : AllE (ObE P ops val l0 src z N ef hi rs) T)
    (cF : ((List.range mask.length).all fun p => p == pF || !eff.all fun i => (maskAt mask p).contains i) = true)
    (cO : chkOuts ops val l0 out (keysAt keys pF) = true)
    (k : ∀ a w g, Env a N (outs ops val out ++ (ef pF g ++ l0)) → St z (hi pF g) w (rs pF g) → Q .normal a w) : (Code.region id ops true).wp P Q a w := by
  simp only [Bool.and_eq_true] at cD
  obtain ⟨⟨⟨⟨⟨⟨⟨⟨⟨⟨⟨cD, cDirs⟩, cPre⟩, cPure⟩, cEff⟩, cKeys⟩, cVal⟩, cSrc⟩, cM⟩, m0⟩, cMask⟩, cLt⟩ := cD
  have m0 : maskAt mask 0 = [] := List.isEmpty_iff.1 m0
  have hlt : ∀ i ∈ eff, i < ops.size := fun i hi => by simpa [Nat.blt_eq] using List.all_eq_true.1 cLt i hi
  have hD : ∀ {i t}, dst ops i = some t → i < ops.size := by
    intro i t h
    unfold dst at h
    rcases Nat.lt_or_ge i ops.size with h' | h'
    · exact h'
    · simp [Array.getElem?_eq_none h'] at h
  have hN : ∀ i t, dst ops i = some t → t < N := by
    intro i t h
    have := List.all_eq_true.1 cN i (List.mem_range.2 (hD h))
    simpa [h, Nat.blt_eq] using this
  have hdirs : ∀ {i o}, ops[i]? = some o → ∀ e ∈ o.after, Region.binds .any e = true → e.on ∈ dirs ops i := by
    intro i o ho e he hb
    simp only [dirs, ho, Option.map_some, Option.getD_some, List.mem_filterMap]
    exact ⟨e, by simpa using he, by simp [hb]⟩
  have hdirs' : ∀ {i o}, ops[i]? = some o → ∀ x ∈ dirs ops i, ∃ e ∈ o.after, Region.binds .any e = true ∧ e.on = x := by
    intro i o ho x hx
    simp only [dirs, ho, Option.map_some, Option.getD_some, List.mem_filterMap] at hx
    obtain ⟨e, he, hx⟩ := hx
    split at hx
    · rename_i hb; cases hx; exact ⟨e, by simpa using he, hb, rfl⟩
    · cases hx
  have done : ∀ (listed : Array Bool) (a : Act) (w : World), listed.size = ops.size → Inv ops pre val eff mask l0 z N ef hi rs (fun i => listed.getD i false) a w → Region.ready .any ops listed = [] → Q .normal a w := by
    intro listed a w hsz I hr
    have all : ∀ n i, i < n → i < ops.size → listed.getD i false = true := by
      intro n
      induction n with
      | zero => intro i hi; omega
      | succ n ih =>
        intro i hi hl
        rcases Nat.lt_or_ge i n with h | h
        · exact ih i h hl
        · obtain rfl : i = n := by omega
          cases hl0 : listed.getD i false with
          | true => rfl
          | false =>
            have ho : ops[i]? = some ops[i] := by simp [hl]
            have : i ∈ Region.ready .any ops listed := mem_ready.2 ⟨by
              have h1 : i < listed.size := by omega
              simp [h1] at hl0 ⊢; exact hl0, ops[i], ho, fun e he hb => by
                have := List.all_eq_true.1 (List.all_eq_true.1 cDirs i (List.mem_range.2 hl)) e.on (hdirs ho e he hb)
                simp only [Nat.blt_eq] at this
                exact ih e.on this (by omega)⟩
            rw [hr] at this; cases this
    have all : ∀ i, i < ops.size → listed.getD i false = true := fun i hi => all (i + 1) i (by omega) hi
    obtain ⟨p, g, hp, hmask, hef, hst⟩ := I.phase
    have hpF : p = pF := by
      have := List.all_eq_true.1 cF p (List.mem_range.2 hp)
      simp only [Bool.or_eq_true, beq_iff_eq, Bool.not_eq_true'] at this
      rcases this with h | h
      · exact h
      · exfalso
        have : (eff.all fun i => (maskAt mask p).contains i) = true := List.all_eq_true.2 fun i hi => by
          rw [← hmask i hi]; exact all i (hlt i hi)
        rw [this] at h; cases h
    subst hpF
    refine k a w g ⟨I.size, I.defers, fun {t v} e => ?_⟩ hst
    rcases lk_append e with e | ⟨e1, e⟩
    · obtain ⟨j, _, hd, hv⟩ := lk_outs e
      exact I.vals (hD hd) (all j (hD hd)) hd hv
    · rcases lk_append e with e | ⟨e2, e⟩
      · exact hef.at_ e
      · refine I.base e fun i hi _ hd => ?_
        have := List.all_eq_true.1 cO i (List.mem_range.2 hi)
        simp only [hd, Bool.or_eq_true, Bool.and_eq_true, List.contains_iff_mem] at this
        rcases this with ⟨h1, h2⟩ | h | h
        · obtain ⟨u, hu⟩ := Option.isSome_iff_exists.1 h2
          exact outs_some h1 hd hu e1
        · exact lk_keys (by rw [hK]; exact h) e2
        · rw [e] at h; cases h
  have key : ∀ (fuel : Nat) (listed : Array Bool) (a : Act) (w : World), listed.size = ops.size → listed.toList.countP (! ·) ≤ fuel →
      Inv ops pre val eff mask l0 z N ef hi rs (fun i => listed.getD i false) a w → wpAny P .any ops Q fuel listed a w := by
    intro fuel
    induction fuel with
    | zero =>
      intro listed a w hsz hc I
      have hr : Region.ready .any ops listed = [] := List.eq_nil_iff_forall_not_mem.2 fun j hj => by
        obtain ⟨h0, o, ho, _⟩ := mem_ready.1 hj
        have hj : j < listed.size := by rw [hsz]; exact (Array.getElem?_eq_some_iff.1 ho).1
        have := countP_all listed.toList (by omega) j (by simpa using hj)
        simp [hj] at this h0
        rw [this] at h0; cases h0
      exact ⟨hr, done listed a w hsz I hr⟩
    | succ fuel ih =>
      intro listed a w hsz hc I
      refine ⟨done listed a w hsz I, fun i hi => ?_⟩
      obtain ⟨h0, o, ho, hafter⟩ := mem_ready.1 hi
      have hil : i < ops.size := (Array.getElem?_eq_some_iff.1 ho).1
      have hil' : i < listed.size := by omega
      have hu : listed.getD i false = false := by simp [hil'] at h0 ⊢; exact h0
      have hdl : ∀ x ∈ dirs ops i, listed.getD x false = true := fun x hx => by
        obtain ⟨e, he, hb, rfl⟩ := hdirs' ho x hx
        exact hafter e he hb
      have hp : ∀ j ∈ preAt pre i, listed.getD j false = true := fun j hj => by
        have := List.all_eq_true.1 (List.all_eq_true.1 cPre i (List.mem_range.2 hil)) j hj
        obtain ⟨e, he, h⟩ := List.any_eq_true.1 this
        simp only [Bool.or_eq_true, beq_iff_eq, List.contains_iff_mem] at h
        rcases h with rfl | h
        · exact hdl e he
        · have hel : e < ops.size := by
            have := List.all_eq_true.1 (List.all_eq_true.1 cDirs i (List.mem_range.2 hil)) e he
            simp only [Nat.blt_eq] at this; omega
          exact I.down hel (hdl e he) j h
      have henv := env_of cSrc hD I hil hu hp
      obtain ⟨p, g, hpl, hmask, hef, hst⟩ := I.phase
      have hsub : ((preAt pre i).all fun x => !eff.contains x || (maskAt mask p).contains x) = true := List.all_eq_true.2 fun x hx => by
        cases he : eff.contains x with
        | false => rfl
        | true =>
          rw [← hmask x (by simpa using he), hp x hx]; rfl
      have hL : (fun j => (listed.setIfInBounds i true).getD j false) = fun x => if x = i then true else listed.getD x false := by
        funext x
        by_cases hx : x = i
        · subst hx; simp [hil']
        · rw [getD_set_ne false (fun e => hx e.symm)]; simp [hx]
      have hcnt : (listed.setIfInBounds i true).toList.countP (! ·) ≤ fuel := by
        have h1 : listed.toList[i]? = some false := by
          have : listed[i]? = some false := by simp [hil'] at hu ⊢; exact hu
          simpa using this
        have := countP_set listed.toList i h1
        rw [Array.toList_setIfInBounds]; omega
      have fin : ∀ {R : Value → World → Prop}, DoesG P ops i a w R → (∀ v w', R v w' → wpAny P .any ops Q fuel (listed.setIfInBounds i true) (a.put o.dst v) w') → wpOp P ops Q i (wpAny P .any ops Q fuel (listed.setIfInBounds i true)) a w := by
        intro R hdo hk
        obtain ⟨o', ho', hdo⟩ := hdo
        have : o' = o := by rw [ho] at ho'; cases ho'; rfl
        subst this
        have := hdo _ Q hk
        unfold wpOp
        simp only [ho]
        split
        · rename_i hw; rw [if_pos hw] at this; exact .inl this
        · rename_i hw; rw [if_neg hw] at this; exact this
      have hdst : dst ops i = o.dst := by simp [dst, ho]
      cases hie : eff.contains i with
      | false =>
        have hU : (i, p) ∈ U := by
          have := List.all_eq_true.1 (List.all_eq_true.1 cPure p (List.mem_range.2 hpl)) i (List.mem_range.2 hil)
          simp only [hie, Bool.false_or, Bool.or_eq_true, Bool.not_eq_true', hsub, Bool.true_and, List.contains_iff_mem] at this
          rcases this with h | h
          · exact h
          · exfalso
            obtain ⟨e, he, h'⟩ := List.all_eq_false.1 h
            simp only [Bool.not_eq_true', Bool.not_eq_false, Bool.not_not, Bool.not_eq_true, List.contains_iff_mem] at h'
            have hx : e ∈ eff := by
              have := List.all_eq_true.1 (List.all_eq_true.1 cMask p (List.mem_range.2 hpl)) e he
              simpa using this
            have h1 : listed.getD e false = true := by
              have := hmask e hx
              rw [this]; simpa using he
            have h2 := I.down (hlt e hx) h1 i (by simpa using h')
            rw [hu] at h2; cases h2
        refine fin (oP.get hU a w g henv hef hst) fun v w' hR => ?_
        refine ih _ _ _ (by simpa using hsz) hcnt ?_
        rw [hL, ← hdst]
        refine inv_put cD hD I hil hu hp (fun u hu' => by rw [hR.1] at hu'; cases hu'; rfl) (hN i) ⟨p, g, hpl, fun x hx => ?_, ?_, hR.2⟩
        · have hne : x ≠ i := fun e => by subst e; simp at hie; exact hie hx
          simp only [hne, if_false]; exact hmask x hx
        · refine env_keep hef _ v fun s hs => ?_
          rw [hK]
          intro hmem
          have := List.all_eq_true.1 (List.all_eq_true.1 (List.all_eq_true.1 cKeys p (List.mem_range.2 hpl)) s hmem) i (List.mem_range.2 hil)
          simp [hs] at this
          simp at hie; exact hie this.1
      | true =>
        have hie' : i ∈ eff := by simpa using hie
        have hnm : (maskAt mask p).contains i = false := by rw [← hmask i hie']; exact hu
        have := List.all_eq_true.1 (List.all_eq_true.1 cEff p (List.mem_range.2 hpl)) i hie'
        simp only [hnm, Bool.false_or, hsub, Bool.not_true, Bool.or_false] at this
        obtain ⟨t, ht, hc'⟩ := List.any_eq_true.1 this
        simp only [Bool.and_eq_true, beq_iff_eq, Nat.blt_eq] at hc'
        obtain ⟨⟨⟨e1, e2⟩, hp'⟩, hset⟩ := hc'
        have hob := oE.get ht
        rw [e1, e2] at hob
        refine fin (hob a w g henv hef hst) fun v w' hR => ?_
        obtain ⟨g', hst', hef'⟩ := hR
        refine ih _ _ _ (by simpa using hsz) hcnt ?_
        rw [hL, ← hdst]
        have hvn : valAt val i = none := by
          have := List.all_eq_true.1 cVal i (List.mem_range.2 hil)
          simpa [hie'] using this
        refine inv_put cD hD I hil hu hp (fun u hu' => by rw [hvn] at hu'; cases hu') (hN i) ⟨t.2.2, g', hp', fun x hx => ?_, ?_, hst'⟩
        · have := List.all_eq_true.1 hset x hx
          simp only [beq_iff_eq] at this
          rw [this]
          by_cases hxi : x = i
          · simp [hxi]
          · simp only [hxi, if_false]
            rw [hmask x hx]
            have : (x == i) = false := by simpa using hxi
            simp [this]
        · have hx : Env (a.put (dst ops i) v) N (match dst ops i with | some d => (d, v) :: ef p g | none => ef p g) := by
            cases hd : dst ops i with
            | none => exact hef
            | some s => exact hef.put s (by simpa [Nat.blt_eq] using hN i s hd) v
          exact ⟨hx.size, hx.defers, fun {t u} h => hx.at_ (hef' t u h)⟩
  refine wp_region_any hm (key ops.size _ _ _ (by simp) (Nat.le_trans (List.countP_le_length) (by simp)) ⟨hE.size, hE.defers, fun {t v} h _ => hE.at_ h, fun {i t v} hi hl => ?_, fun {i} hi hl => ?_, 0, g0, by simpa [Nat.blt_eq] using cM, fun i hi => ?_, ?_, H.drawn _ (Nat.le_succ _)⟩)
  · simp [hi] at hl
  · simp [hi] at hl
  · simp [m0, hlt i hi]
  · rw [e0]; exact ⟨hE.size, hE.defers, fun h => by cases h⟩
end
end Dr
end Go.Proofs.Ytbielnhpfbhkgaa
