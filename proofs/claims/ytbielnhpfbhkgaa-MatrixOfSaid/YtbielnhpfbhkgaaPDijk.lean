/- Plain facts on 'spf.Routes': the least way to each node, and of those that cost alike the one whose first hop is the least. -/
import Derived.Test.YtbielnhpfbhkgaaPHeap
set_option linter.unusedVariables false
set_option linter.unusedSimpArgs false
namespace Go.Proofs.Ytbielnhpfbhkgaa
open Go Go.RowKit

/-- A way from r: where to, its first hop, what it costs. -/
inductive Way (l : List S_api_Arc) (r : Int) : Int → Int → Int → Prop where
  | one {a : S_api_Arc} (ha : a ∈ l) (hf : a.From = r) : Way l r a.To a.To a.Cost
  | more {v via c : Int} {a : S_api_Arc} (h : Way l r v via c) (ha : a ∈ l) (hf : a.From = v) : Way l r a.To via (c + a.Cost)
def lexle (c v c' v' : Int) : Prop := c < c' ∨ (c = c' ∧ v ≤ v')
theorem lexle.trans {a b c d e f : Int} (h : lexle a b c d) (k : lexle c d e f) : lexle a b e f := by unfold lexle at *; omega
theorem lexle.refl (a b : Int) : lexle a b a b := by unfold lexle; omega
def isDn (done : List (Int × Bool)) (v : Int) : Prop := (mget done v).getD false = true
theorem isDn_put {done : List (Int × Bool)} {n v : Int} : isDn (mput done n true) v ↔ v = n ∨ isDn done v := by
  unfold isDn
  rw [mget_put]
  by_cases h : v = n <;> simp [h]
def zr : S_api_Route := ⟨0, 0, 0⟩
section
variable {l : List S_api_Arc} {r : Int}
theorem Way.pos (hm : May l) {v via c : Int} (h : Way l r v via c) : 1 ≤ c ∧ 1 ≤ v ∧ v ≤ 64 ∧ 1 ≤ via ∧ via ≤ 64 := by
  induction h with
  | one ha hf => have := hm.1 _ ha; unfold OkA at this; omega
  | more h ha hf ih => have := hm.1 _ ha; unfold OkA at this; omega
end
/-- What holds while the search goes on: Q is what is still to be taken. -/
structure DInv (l : List S_api_Arc) (r : Int) (known : List (Int × S_api_Route)) (done : List (Int × Bool)) (Q : List S_api_Spot) : Prop where mk ::
  to : ∀ v x, mget known v = some x → x.To = v ∧ v ≠ r
  way : ∀ v x, mget known v = some x → Way l r v x.Via x.Cost
  rel : ∀ u, isDn done u → ∀ a ∈ l, a.From = u → a.To ≠ r → ∃ x, mget known a.To = some x ∧ ((u = r ∧ lexle x.Cost x.Via a.Cost a.To) ∨ ∃ y, u ≠ r ∧ mget known u = some y ∧ lexle x.Cost x.Via (y.Cost + a.Cost) y.Via)
  inQ : ∀ v x, mget known v = some x → ¬ isDn done v → (⟨x.Cost, v⟩ : S_api_Spot) ∈ Q
  ofQ : ∀ s ∈ Q, (s.Node = r ∧ s.Cost = 0) ∨ ∃ x, mget known s.Node = some x ∧ x.Cost ≤ s.Cost
  root : isDn done r ∨ (⟨0, r⟩ : S_api_Spot) ∈ Q
  dkn : ∀ u, isDn done u → u = r ∨ ∃ y, mget known u = some y
  mono : ∀ u y, isDn done u → mget known u = some y → ∀ s ∈ Q, y.Cost ≤ s.Cost
  nd : (mkeys known).Nodup
  ndd : (mkeys done).Nodup
  dk : ∀ u ∈ mkeys done, u = r ∨ (1 ≤ u ∧ u ≤ 64)
  dt : ∀ u ∈ mkeys done, isDn done u
  bnd : ∀ v x, mget known v = some x → x.Cost ≤ (done.length : Int) * 1073741824
section
variable {l : List S_api_Arc} {r : Int} {known : List (Int × S_api_Route)} {done : List (Int × Bool)} {Q : List S_api_Spot}
theorem DInv.least (hm : May l) (h : DInv l r known done Q) {v via c : Int} (hw : Way l r v via c) : v = r ∨ (∃ x, mget known v = some x ∧ lexle x.Cost x.Via c via) ∨ ∃ s ∈ Q, s.Cost < c := by
  induction hw with
  | @one a ha hf =>
    have hok := hm.1 _ ha
    unfold OkA at hok
    by_cases hr : a.To = r
    · exact .inl hr
    · right
      rcases h.root with hd | hq
      · obtain ⟨x, hx, h1 | ⟨y, h1, _⟩⟩ := h.rel r hd a ha hf hr
        · exact .inl ⟨x, hx, h1.2⟩
        · exact absurd rfl h1
      · exact .inr ⟨_, hq, by show (0 : Int) < a.Cost; omega⟩
  | @more v via c a hw ha hf ih =>
    have hok := hm.1 _ ha
    unfold OkA at hok
    have hp := hw.pos hm
    by_cases hr : a.To = r
    · exact .inl hr
    · right
      rcases ih with hv | ⟨x, hx, hl⟩ | ⟨s, hs, hc⟩
      · rcases h.root with hd | hq
        · obtain ⟨x, hx, h1 | ⟨y, h1, _⟩⟩ := h.rel r hd a ha (hf.trans hv) hr
          · refine .inl ⟨x, hx, ?_⟩
            have := h1.2
            unfold lexle at *; omega
          · exact absurd rfl h1
        · exact .inr ⟨_, hq, by show (0 : Int) < c + a.Cost; omega⟩
      · by_cases hd : isDn done v
        · obtain ⟨x', hx', h1 | ⟨y, _, h2, h3⟩⟩ := h.rel v hd a ha hf hr
          · exact absurd h1.1 (h.to v x hx).2
          · rw [hx] at h2; cases h2
            refine .inl ⟨x', hx', h3.trans ?_⟩
            unfold lexle at *; omega
        · refine .inr ⟨_, h.inQ v x hx hd, ?_⟩
          show x.Cost < c + a.Cost
          unfold lexle at hl; omega
      · exact .inr ⟨s, hs, by omega⟩
theorem DInv.dlen (h : DInv l r known done Q) : done.length ≤ 65 := by
  have h1 := nodup_le (l := mkeys done) (L := r :: ints 1 64) h.ndd fun u hu => by
    rcases h.dk u hu with e | e
    · rw [e]; exact List.mem_cons_self ..
    · exact List.mem_cons_of_mem _ (mem_ints.2 ⟨e.1, by omega⟩)
  simpa [mkeys, ints_len] using h1
/-- One that is done already. -/
theorem DInv.skip {s : S_api_Spot} {Q' : List S_api_Spot} (h : DInv l r known done (s :: Q')) (hd : isDn done s.Node) : DInv l r known done Q' where
  to := h.to
  way := h.way
  rel := h.rel
  inQ := fun v x hx hn => by
    rcases List.mem_cons.1 (h.inQ v x hx hn) with e | e
    · rw [← e] at hd; exact absurd hd hn
    · exact e
  ofQ := fun s' hs => h.ofQ s' (List.mem_cons_of_mem _ hs)
  root := by
    rcases h.root with e | e
    · exact .inl e
    · rcases List.mem_cons.1 e with e | e
      · rw [← e] at hd; exact .inl hd
      · exact .inr e
  dkn := h.dkn
  mono := fun u y hu hy s' hs => h.mono u y hu hy s' (List.mem_cons_of_mem _ hs)
  nd := h.nd
  ndd := h.ndd
  dk := h.dk
  dt := h.dt
  bnd := h.bnd
theorem DInv.perm {Q' : List S_api_Spot} (h : DInv l r known done Q) (p : Q.Perm Q') : DInv l r known done Q' where
  to := h.to
  way := h.way
  rel := h.rel
  inQ := fun v x hx hn => p.mem_iff.1 (h.inQ v x hx hn)
  ofQ := fun s' hs => h.ofQ s' (p.mem_iff.2 hs)
  root := h.root.imp id p.mem_iff.1
  dkn := h.dkn
  mono := fun u y hu hy s' hs => h.mono u y hu hy s' (p.mem_iff.2 hs)
  nd := h.nd
  ndd := h.ndd
  dk := h.dk
  dt := h.dt
  bnd := h.bnd
end
/-- 'better'. -/
theorem better_ev (root : Int) (known : List (Int × S_api_Route)) (done : List (Int × Bool)) {heap : List S_api_Spot} (x : S_api_Route) (hh : Heap heap) (hs : heap.length < 8796093022208) : ∃ known' heap', Ev (fun k => m168 k root known done heap x) (known', heap') ∧ Heap heap' ∧
    ((known' = mput known x.To x ∧ heap'.Perm (⟨x.Cost, x.To⟩ :: heap) ∧ ∀ was, mget known x.To = some was → x.Cost < was.Cost) ∨
     (known' = mput known x.To x ∧ heap' = heap ∧ ∃ was, mget known x.To = some was ∧ x.Cost = was.Cost ∧ x.Via < was.Via) ∨
     (known' = known ∧ heap' = heap ∧ ∃ was, mget known x.To = some was ∧ lexle was.Cost was.Via x.Cost x.Via)) := by
  cases hg : mget known x.To with
  | none =>
    obtain ⟨h', h1, h2, h3⟩ := put_ev ⟨x.Cost, x.To⟩ hh hs
    refine ⟨_, h', Ev.bnd rfl (Ev.bind (v := true) ?_ (Ev.onGo (s := h') ?_ (Ev.bnd rfl (Ev.pure _)))), h3, .inl ⟨rfl, h2, fun was hw => by cases hw⟩⟩
    · rw [hg]; exact Ev.of rfl
    · exact Ev.pos rfl (Ev.bind h1 (Ev.pure _))
  | some was =>
    by_cases c1 : x.Cost < was.Cost
    · obtain ⟨h', h1, h2, h3⟩ := put_ev ⟨x.Cost, x.To⟩ hh hs
      refine ⟨_, h', Ev.bnd rfl (Ev.bind (v := true) ?_ (Ev.onGo (s := h') ?_ (Ev.bnd rfl (Ev.pure _)))), h3, .inl ⟨rfl, h2, fun was' hw => by cases hw; exact c1⟩⟩
      · rw [hg]; exact Ev.pos rfl (Ev.of (by simp [c1]))
      · exact Ev.pos rfl (Ev.bind h1 (Ev.pure _))
    · by_cases c2 : was.Cost < x.Cost
      · refine ⟨known, heap, Ev.bnd rfl (Ev.bind (v := false) ?_ (Ev.onRet (q := (known, heap)) ?_ (Ev.pure _))), hh, .inr (.inr ⟨rfl, rfl, was, rfl, .inl c2⟩)⟩
        · rw [hg]; exact Ev.pos rfl (Ev.of (by simp [c1]))
        · rw [hg]; exact Ev.neg (by simp) (Ev.bind (v := true) (Ev.pos c2 (Ev.pure _)) (Ev.pos rfl (Ev.pure _)))
      · by_cases c3 : was.Via ≤ x.Via
        · refine ⟨known, heap, Ev.bnd rfl (Ev.bind (v := false) ?_ (Ev.onRet (q := (known, heap)) ?_ (Ev.pure _))), hh, .inr (.inr ⟨rfl, rfl, was, rfl, .inr ⟨by omega, c3⟩⟩)⟩
          · rw [hg]; exact Ev.pos rfl (Ev.of (by simp [c1]))
          · rw [hg]; exact Ev.neg (by simp) (Ev.bind (v := true) (Ev.neg c2 (Ev.of (by simp [c3]))) (Ev.pos rfl (Ev.pure _)))
        · refine ⟨_, heap, Ev.bnd rfl (Ev.bind (v := false) ?_ (Ev.onGo (s := heap) ?_ (Ev.bnd rfl (Ev.pure _)))), hh, .inr (.inl ⟨rfl, rfl, was, rfl, by omega, by omega⟩)⟩
          · rw [hg]; exact Ev.pos rfl (Ev.of (by simp [c1]))
          · rw [hg]; exact Ev.neg (by simp) (Ev.bind (v := false) (Ev.neg c2 (Ev.of (by simp [c3]))) (Ev.neg (by simp) (Ev.pure _)))
/-- What holds while a node's arcs are gone through: all is as it was but for what is better. -/
structure SInv (l : List S_api_Arc) (r n c : Int) (via : S_api_Arc → Int) (known0 : List (Int × S_api_Route)) (done : List (Int × Bool)) (B : Int) (pre : List S_api_Arc) (known : List (Int × S_api_Route)) (heap : List S_api_Spot) : Prop where mk ::
  to : ∀ v x, mget known v = some x → x.To = v ∧ v ≠ r
  way : ∀ v x, mget known v = some x → Way l r v x.Via x.Cost
  old : ∀ v, isDn done v → mget known v = mget known0 v
  dec : ∀ v x, mget known0 v = some x → ∃ x', mget known v = some x' ∧ lexle x'.Cost x'.Via x.Cost x.Via
  inQ : ∀ v x, mget known v = some x → ¬ isDn done v → (⟨x.Cost, v⟩ : S_api_Spot) ∈ heap
  ofQ : ∀ s ∈ heap, (s.Node = r ∧ s.Cost = 0) ∨ ∃ x, mget known s.Node = some x ∧ x.Cost ≤ s.Cost
  low : ∀ s ∈ heap, c ≤ s.Cost
  new : ∀ a ∈ pre, a.To ≠ r → ¬ isDn done a.To → ∃ x, mget known a.To = some x ∧ lexle x.Cost x.Via (c + a.Cost) (via a)
  nd : (mkeys known).Nodup
  bnd : ∀ v x, mget known v = some x → x.Cost ≤ B
section
variable {l : List S_api_Arc} {r n c : Int} {via : S_api_Arc → Int} {known0 : List (Int × S_api_Route)} {done : List (Int × Bool)} {B : Int} {pre : List S_api_Arc} {known known' : List (Int × S_api_Route)} {heap heap' : List S_api_Spot}
/-- One arc that is passed over. -/
theorem SInv.pass (h : SInv l r n c via known0 done B pre known heap) {a : S_api_Arc} (hp : a.To = r ∨ isDn done a.To) : SInv l r n c via known0 done B (pre ++ [a]) known heap where
  to := h.to
  way := h.way
  old := h.old
  dec := h.dec
  inQ := h.inQ
  ofQ := h.ofQ
  low := h.low
  new := fun b hb h1 h2 => by
    rcases List.mem_append.1 hb with hb | hb
    · exact h.new b hb h1 h2
    · simp at hb; subst hb
      rcases hp with e | e
      · exact absurd e h1
      · exact absurd e h2
  nd := h.nd
  bnd := h.bnd
theorem SInv.put (hm : May l) (h : SInv l r n c via known0 done B pre known heap) {a : S_api_Arc} (ha : a ∈ l) (hr : a.To ≠ r) (hd : ¬ isDn done a.To) (hw : Way l r a.To (via a) (c + a.Cost)) (hb : c + a.Cost ≤ B)
    (hc : (known' = mput known a.To ⟨a.To, via a, c + a.Cost⟩ ∧ heap'.Perm (⟨c + a.Cost, a.To⟩ :: heap) ∧ ∀ was, mget known a.To = some was → c + a.Cost < was.Cost) ∨
     (known' = mput known a.To ⟨a.To, via a, c + a.Cost⟩ ∧ heap' = heap ∧ ∃ was, mget known a.To = some was ∧ c + a.Cost = was.Cost ∧ via a < was.Via)) : SInv l r n c via known0 done B (pre ++ [a]) known' heap' := by
  have hok := hm.1 a ha
  unfold OkA at hok
  have hk : known' = mput known a.To ⟨a.To, via a, c + a.Cost⟩ := hc.elim (·.1) (·.1)
  have hle : ∀ was, mget known a.To = some was → lexle (c + a.Cost) (via a) was.Cost was.Via := fun was hwas => by
    rcases hc with ⟨_, _, h3⟩ | ⟨_, _, w, h3, h4, h5⟩
    · exact .inl (h3 was hwas)
    · rw [h3] at hwas; cases hwas; exact .inr ⟨h4, by omega⟩
  have hsub : ∀ s ∈ heap, s ∈ heap' := fun s hs => by
    rcases hc with ⟨_, h2, _⟩ | ⟨_, h2, _⟩
    · exact h2.mem_iff.2 (List.mem_cons_of_mem _ hs)
    · rw [h2]; exact hs
  have hof : ∀ s ∈ heap', s = ⟨c + a.Cost, a.To⟩ ∨ s ∈ heap := fun s hs => by
    rcases hc with ⟨_, h2, _⟩ | ⟨_, h2, _⟩
    · exact List.mem_cons.1 (h2.mem_iff.1 hs)
    · rw [h2] at hs; exact .inr hs
  have hin : (⟨c + a.Cost, a.To⟩ : S_api_Spot) ∈ heap' := by
    rcases hc with ⟨_, h2, _⟩ | ⟨_, h2, was, h3, h4, _⟩
    · exact h2.mem_iff.2 (List.mem_cons_self ..)
    · rw [h2, h4]; exact h.inQ _ was h3 hd
  subst hk
  have g : ∀ v, mget (mput known a.To ⟨a.To, via a, c + a.Cost⟩) v = if v = a.To then some ⟨a.To, via a, c + a.Cost⟩ else mget known v := fun v => mget_put known a.To v _
  refine ⟨fun v x hx => ?_, fun v x hx => ?_, fun v hv => ?_, fun v x hx => ?_, fun v x hx hn => ?_, fun s hs => ?_, fun s hs => ?_, fun b hb' h1 h2 => ?_, mput_nodup h.nd, fun v x hx => ?_⟩
  · rw [g] at hx
    split at hx
    · rename_i e; cases hx; exact ⟨e.symm, by rw [e]; exact hr⟩
    · exact h.to v x hx
  · rw [g] at hx
    split at hx
    · rename_i e; cases hx; rw [e]; exact hw
    · exact h.way v x hx
  · rw [g, if_neg fun e => hd (by rw [← e]; exact hv)]; exact h.old v hv
  · obtain ⟨x', h1, h2⟩ := h.dec v x hx
    rw [g]
    split
    · rename_i e
      subst e
      exact ⟨_, rfl, (hle x' h1).trans h2⟩
    · exact ⟨x', h1, h2⟩
  · rw [g] at hx
    split at hx
    · rename_i e; cases hx; rw [e]; exact hin
    · exact hsub _ (h.inQ v x hx hn)
  · rcases hof s hs with e | hs
    · right
      rw [e]
      refine ⟨⟨a.To, via a, c + a.Cost⟩, ?_, Int.le_refl _⟩
      rw [g, if_pos rfl]
    · rcases h.ofQ s hs with e | ⟨x, h1, h2⟩
      · exact .inl e
      · right
        rw [g]
        split
        · rename_i e
          refine ⟨_, rfl, ?_⟩
          have := hle x (by rw [← e]; exact h1)
          show c + a.Cost ≤ s.Cost
          unfold lexle at this; omega
        · exact ⟨x, h1, h2⟩
  · rcases hof s hs with e | hs
    · rw [e]; show c ≤ c + a.Cost; omega
    · exact h.low s hs
  · rcases List.mem_append.1 hb' with hb' | hb'
    · obtain ⟨x, h3, h4⟩ := h.new b hb' h1 h2
      rw [g]
      split
      · rename_i e
        exact ⟨_, rfl, (hle x (by rw [← e]; exact h3)).trans h4⟩
      · exact ⟨x, h3, h4⟩
    · simp at hb'; subst hb'
      rw [g, if_pos rfl]
      exact ⟨_, rfl, lexle.refl _ _⟩
  · rw [g] at hx
    split at hx
    · cases hx; exact hb
    · exact h.bnd v x hx
theorem SInv.keep (h : SInv l r n c via known0 done B pre known heap) {a : S_api_Arc} (hk : ∃ was, mget known a.To = some was ∧ lexle was.Cost was.Via (c + a.Cost) (via a)) : SInv l r n c via known0 done B (pre ++ [a]) known heap where
  to := h.to
  way := h.way
  old := h.old
  dec := h.dec
  inQ := h.inQ
  ofQ := h.ofQ
  low := h.low
  new := fun b hb h1 h2 => by
    rcases List.mem_append.1 hb with hb | hb
    · exact h.new b hb h1 h2
    · simp at hb; subst hb; exact hk
  nd := h.nd
  bnd := h.bnd
end
/-- The arcs of a node, gone through. -/
theorem spread_loop {l : List S_api_Arc} {r n c : Int} {known0 : List (Int × S_api_Route)} {done : List (Int × Bool)} {B : Int} (hm : May l) (x : S_api_Route) (hxc : x.Cost = c) (hc0 : 0 ≤ c) (hc1 : c ≤ 1000000000000) (arcs : List S_api_Arc) (hal : ∀ a ∈ arcs, a ∈ l) (hsz : arcs.length ≤ 100000)
    (hw : ∀ a ∈ arcs, Way l r a.To (if n = r then a.To else x.Via) (c + a.Cost)) (hB : ∀ a ∈ arcs, c + a.Cost ≤ B) : ∀ (m i : Nat) (known : List (Int × S_api_Route)) (heap : List S_api_Spot), i + m = arcs.length → SInv l r n c (fun a => if n = r then a.To else x.Via) known0 done B (arcs.take i) known heap → Heap heap → heap.length + m ≤ 100000 →
    ∃ known' heap', Ev (fun k => m124_l0 arcs n x done r k known heap i) (known', heap') ∧ SInv l r n c (fun a => if n = r then a.To else x.Via) known0 done B arcs known' heap' ∧ Heap heap' ∧ heap'.length ≤ heap.length + m
  | 0, i, known, heap, hi, h, hh, _ => by
    refine ⟨known, heap, Ev.succ (Ev.all fun k => ?_), by rwa [List.take_of_length_le (by omega)] at h, hh, Nat.le_refl _⟩
    simp only [m124_l0]; rw [if_neg (by omega)]
  | m + 1, i, known, heap, hi, h, hh, hl => by
    have hlt : i < arcs.length := by omega
    have ha := hal _ (List.getElem_mem hlt)
    have hok := hm.1 _ ha
    unfold OkA at hok
    have ht : arcs.take (i + 1) = arcs.take i ++ [arcs[i]] := List.take_succ_eq_append_getElem hlt
    have hwr : IntKind.i64.wrap ((i : Int) + 1) = ((i + 1 : Nat) : Int) := by rw [wrap_id (by omega) (by omega)]; omega
    have fin : ∀ {known1 : List (Int × S_api_Route)} {heap1 : List S_api_Spot}, SInv l r n c (fun a => if n = r then a.To else x.Via) known0 done B (arcs.take i ++ [arcs[i]]) known1 heap1 → Heap heap1 → heap1.length ≤ heap.length + 1 →
        Ev (fun k => Option.bind (rdx arcs (i : Int)) fun x451 => Option.bind (α := Bool) (if x451.To = r then (some true) else (Option.bind (some ((mget done x451.To).getD false)) fun x460 => some x460)) fun s458 => if s458 = true then (some (known, heap)) else (Option.bind (α := Int) (if n = r then (some x451.To) else (some x.Via)) fun s466 => Option.bind (m89 x.Cost (IntKind.u64.wrap x451.Cost)) fun x473 => Option.bind (m168 k r known done heap (⟨x451.To, s466, x473⟩ : S_api_Route)) fun x475 => some (x475.1, x475.2))) (known1, heap1) →
        ∃ known' heap', Ev (fun k => m124_l0 arcs n x done r k known heap i) (known', heap') ∧ SInv l r n c (fun a => if n = r then a.To else x.Via) known0 done B arcs known' heap' ∧ Heap heap' ∧ heap'.length ≤ heap.length + (m + 1) := by
      intro known1 heap1 h1 h2 h3 he
      obtain ⟨known', heap', g1, g2, g3, g4⟩ := spread_loop hm x hxc hc0 hc1 arcs hal hsz hw hB m (i + 1) known1 heap1 (by omega) (by rw [ht]; exact h1) h2 (by omega)
      refine ⟨known', heap', Ev.succ ?_, g2, g3, by omega⟩
      simp only [m124_l0]
      refine Ev.pos (by omega) (Ev.bind he ?_)
      rw [hwr]; exact g1
    by_cases hp : arcs[i].To = r ∨ isDn done arcs[i].To
    · refine fin (h.pass hp) hh (by omega) (Ev.bnd (rdx_lt hlt) (Ev.bind (v := true) ?_ (Ev.pos rfl (Ev.pure _))))
      by_cases h1 : arcs[i].To = r
      · exact Ev.pos h1 (Ev.pure _)
      · refine Ev.neg h1 (Ev.bnd rfl (Ev.of ?_))
        exact congrArg some (hp.resolve_left h1)
    · have h1 : arcs[i].To ≠ r := fun e => hp (.inl e)
      have h2 : ¬ isDn done arcs[i].To := fun e => hp (.inr e)
      have h2' : (mget done arcs[i].To).getD false = false := by unfold isDn at h2; simpa using h2
      obtain ⟨known1, heap1, b1, b2, b3⟩ := better_ev r known done (heap := heap) ⟨arcs[i].To, if n = r then arcs[i].To else x.Via, c + arcs[i].Cost⟩ hh (by omega)
      have he : Ev (fun k => Option.bind (rdx arcs (i : Int)) fun x451 => Option.bind (α := Bool) (if x451.To = r then (some true) else (Option.bind (some ((mget done x451.To).getD false)) fun x460 => some x460)) fun s458 => if s458 = true then (some (known, heap)) else (Option.bind (α := Int) (if n = r then (some x451.To) else (some x.Via)) fun s466 => Option.bind (m89 x.Cost (IntKind.u64.wrap x451.Cost)) fun x473 => Option.bind (m168 k r known done heap (⟨x451.To, s466, x473⟩ : S_api_Route)) fun x475 => some (x475.1, x475.2))) (known1, heap1) := by
        refine Ev.bnd (rdx_lt hlt) (Ev.bind (v := false) (Ev.neg h1 (Ev.bnd rfl (Ev.of (by rw [h2'])))) (Ev.neg (by simp) (Ev.bind (v := if n = r then arcs[i].To else x.Via) (Ev.of (by split <;> rfl)) (Ev.bnd (v := c + arcs[i].Cost) ?_ (Ev.bind b1 (Ev.pure _))))))
        rw [hxc, wrapu_id (by omega) (by omega), add_eq ⟨hc0, by omega⟩ ⟨by omega, by omega⟩]
        unfold addS
        rw [if_pos (by omega)]
      rcases b3 with ⟨e1, e2, e3⟩ | ⟨e1, e2, e3⟩ | ⟨e1, e2, e3⟩
      · exact fin (h.put hm ha h1 h2 (hw _ (List.getElem_mem hlt)) (hB _ (List.getElem_mem hlt)) (.inl ⟨e1, e2, e3⟩)) b2 (by rw [e2.length_eq]; simp) he
      · exact fin (h.put hm ha h1 h2 (hw _ (List.getElem_mem hlt)) (hB _ (List.getElem_mem hlt)) (.inr ⟨e1, e2, e3⟩)) b2 (by rw [e2]; omega) he
      · subst e1 e2
        exact fin (h.keep e3) hh (by omega) he

def remA (l : List S_api_Arc) (done : List (Int × Bool)) : Nat := (l.filter fun a => !(mget done a.From).getD false).length
theorem remA_put {done : List (Int × Bool)} {n : Int} (hn : ¬ isDn done n) : ∀ l : List S_api_Arc, remA l (mput done n true) + (l.filter fun a => decide (a.From = n)).length = remA l done
  | [] => rfl
  | a :: l => by
    have ih := remA_put hn l
    have hn' : (mget done n).getD false = false := by unfold isDn at hn; simpa using hn
    unfold remA at *
    simp only [List.filter_cons, mget_put] at ih ⊢
    by_cases h : a.From = n
    · simp [h, hn']; omega
    · cases hd : (mget done a.From).getD false <;> simp [h, hd] <;> omega
theorem mget_keys {α : Type} {m : List (Int × α)} {v : Int} {x : α} (h : mget m v = some x) : v ∈ mkeys m := (mget_mem m v).1 (by rw [h]; rfl)
section
variable {l : List S_api_Arc} {r : Int} {known known' : List (Int × S_api_Route)} {done : List (Int × Bool)} {heap heap' : List S_api_Spot} {s : S_api_Spot}
/-- What is known of the one that is taken. -/
theorem DInv.cur (hm : May l) (h : DInv l r known done (s :: heap)) (hmin : ∀ y ∈ heap, s.Cost ≤ y.Cost) (hn : ¬ isDn done s.Node) :
    (s.Node = r ∧ s.Cost = 0 ∧ mget known s.Node = none) ∨ ∃ x, s.Node ≠ r ∧ mget known s.Node = some x ∧ x.Cost = s.Cost := by
  have hnone : ∀ x, mget known r ≠ some x := fun x hx => (h.to r x hx).2 rfl
  rcases h.ofQ s (List.mem_cons_self ..) with ⟨e1, e2⟩ | ⟨x, hx, hle⟩
  · left
    refine ⟨e1, e2, ?_⟩
    rw [e1]
    cases e : mget known r with
    | none => rfl
    | some x => exact absurd e (hnone x)
  · right
    refine ⟨x, (h.to _ x hx).2, hx, ?_⟩
    rcases List.mem_cons.1 (h.inQ _ x hx hn) with e | e
    · rw [← e]
    · have := hmin _ e
      have : s.Cost ≤ x.Cost := this
      omega
theorem DInv.start (hm : May l) (h : DInv l r known done (s :: heap)) (hmin : ∀ y ∈ heap, s.Cost ≤ y.Cost) (via : S_api_Arc → Int) : SInv l r s.Node s.Cost via known (mput done s.Node true) (((done.length + 1 : Nat) : Int) * 1073741824) [] known heap where
  to := h.to
  way := h.way
  old := fun v _ => rfl
  dec := fun v x hx => ⟨x, hx, lexle.refl _ _⟩
  inQ := fun v x hx hd => by
    have hd' := fun e => hd (isDn_put.2 e)
    rcases List.mem_cons.1 (h.inQ v x hx fun e => hd' (.inr e)) with e | e
    · exact absurd (by rw [← e]) fun e' : v = s.Node => hd' (.inl e')
    · exact e
  ofQ := fun s' hs => h.ofQ s' (List.mem_cons_of_mem _ hs)
  low := hmin
  new := fun a ha => by cases ha
  nd := h.nd
  bnd := fun v x hx => by have := h.bnd v x hx; omega
theorem DInv.next (hm : May l) (h : DInv l r known done (s :: heap)) (hmin : ∀ y ∈ heap, s.Cost ≤ y.Cost) (hn : ¬ isDn done s.Node) {x : S_api_Route} (hx : x = (mget known s.Node).getD zr) {arcs : List S_api_Arc} (harcs : ∀ a, a ∈ arcs ↔ a ∈ l ∧ a.From = s.Node)
    (g : SInv l r s.Node s.Cost (fun a => if s.Node = r then a.To else x.Via) known (mput done s.Node true) (((done.length + 1 : Nat) : Int) * 1073741824) arcs known' heap') : DInv l r known' (mput done s.Node true) heap' := by
  have hcur := h.cur hm hmin hn
  have hnk : s.Node ∉ mkeys done := fun e => hn (h.dt _ e)
  have hold : ∀ v, isDn (mput done s.Node true) v → mget known' v = mget known v := g.old
  have hdn : isDn (mput done s.Node true) s.Node := isDn_put.2 (.inl rfl)
  refine ⟨g.to, g.way, fun u hu a ha hf hr => ?_, g.inQ, g.ofQ, ?_, fun u hu => ?_, fun u y hu hy s' hs => ?_, g.nd, mput_nodup h.ndd, fun u hu => ?_, fun u hu => ?_, fun v y hy => ?_⟩
  · have hok := hm.1 a ha
    unfold OkA at hok
    rcases isDn_put.1 hu with e | hd
    · subst e
      -- the node that was just done
      have hgot : ∃ z, mget known' a.To = some z ∧ lexle z.Cost z.Via (s.Cost + a.Cost) (if s.Node = r then a.To else x.Via) := by
        by_cases hda : isDn (mput done s.Node true) a.To
        · rcases isDn_put.1 hda with e | hd'
          · omega
          · rcases h.dkn _ hd' with e | ⟨y, hy⟩
            · exact absurd e hr
            · refine ⟨y, by rw [hold _ hda]; exact hy, ?_⟩
              have := h.mono _ y hd' hy s (List.mem_cons_self ..)
              exact .inl (by omega)
        · exact g.new a ((harcs a).2 ⟨ha, hf⟩) hr hda
      obtain ⟨z, hz, hl⟩ := hgot
      refine ⟨z, hz, ?_⟩
      rcases hcur with ⟨e1, e2, _⟩ | ⟨y, e1, e2, e3⟩
      · left
        rw [if_pos e1, e2, Int.zero_add] at hl
        exact ⟨e1, hl⟩
      · right
        rw [if_neg e1] at hl
        have hxy : x = y := by rw [hx, e2]; rfl
        subst hxy
        exact ⟨x, e1, by rw [hold _ hdn]; exact e2, by rw [e3]; exact hl⟩
    · obtain ⟨z, hz, hc⟩ := h.rel u hd a ha hf hr
      obtain ⟨z', hz', hl⟩ := g.dec _ z hz
      refine ⟨z', hz', ?_⟩
      rcases hc with ⟨e1, e2⟩ | ⟨y, e1, e2, e3⟩
      · exact .inl ⟨e1, hl.trans e2⟩
      · exact .inr ⟨y, e1, by rw [hold u hu]; exact e2, hl.trans e3⟩
  · left
    rcases hcur with ⟨e1, _, _⟩ | ⟨y, e1, e2, e3⟩
    · exact isDn_put.2 (.inl e1.symm)
    · rcases h.root with e | e
      · exact isDn_put.2 (.inr e)
      · have hp := (h.way _ y e2).pos hm
        rcases List.mem_cons.1 e with e | e
        · rw [← e] at e1; exact absurd rfl e1
        · have := hmin _ e
          have : s.Cost ≤ 0 := this
          omega
  · rcases isDn_put.1 hu with e | hd
    · rcases hcur with ⟨e1, _, _⟩ | ⟨y, e1, e2, _⟩
      · exact .inl (e.trans e1)
      · right
        rw [e, hold _ hdn]
        exact ⟨y, e2⟩
    · rcases h.dkn u hd with e | ⟨y, hy⟩
      · exact .inl e
      · exact .inr ⟨y, by rw [hold u hu]; exact hy⟩
  · have hlow := g.low s' hs
    rw [hold u hu] at hy
    rcases isDn_put.1 hu with e | hd
    · rcases hcur with ⟨_, _, e3⟩ | ⟨z, _, e2, e3⟩
      · rw [e, e3] at hy; cases hy
      · rw [e, e2] at hy; cases hy; omega
    · have := h.mono u y hd hy s (List.mem_cons_self ..)
      omega
  · rcases mem_mput hu with e | hu
    · rcases hcur with ⟨e1, _, _⟩ | ⟨y, e1, e2, _⟩
      · exact .inl (e.trans e1)
      · right
        have hp := (h.way _ y e2).pos hm
        rw [e]; omega
    · exact h.dk u hu
  · rcases mem_mput hu with e | hu
    · exact isDn_put.2 (.inl e)
    · exact isDn_put.2 (.inr (h.dt u hu))
  · have := g.bnd v y hy
    rw [mput_new done _ _ hnk]
    simpa using this
end
/-- The search. -/
theorem main_loop {l : List S_api_Arc} {r : Int} (hm : May l) (hl : l.length ≤ 5000) (fm : List (Int × List S_api_Arc)) (hfm : ∀ n, (mget fm n).getD [] = l.filter fun a => decide (a.From = n)) : ∀ (M : Nat) (known : List (Int × S_api_Route)) (done : List (Int × Bool)) (heap : List S_api_Spot) (s : S_api_Spot),
    heap.length + remA l done ≤ M → M ≤ 5000 → DInv l r known done (s :: heap) → (∀ y ∈ heap, s.Cost ≤ y.Cost) → Heap heap → ∃ known' done', Ev (fun k => m58_l1 r fm k known done heap s.Cost s.Node true) (known', done', []) ∧ DInv l r known' done' [] := by
  intro M
  induction M with
  | zero =>
    intro known done heap s hM hM5 h hmin hh
    have h0 : heap = [] := List.eq_nil_of_length_eq_zero (by omega)
    subst h0
    by_cases hd : isDn done s.Node
    · refine ⟨known, done, Ev.succ ?_, h.skip hd⟩
      simp only [m58_l1]
      refine Ev.pos trivial (Ev.bnd rfl (Ev.bind (v := (known, done, [])) (Ev.pos hd (Ev.pure _)) (Ev.bind take_none (Ev.succ (Ev.all fun k => ?_)))))
      simp only [m58_l1]; rw [if_neg (by simp)]
    · -- no arc is left
      have hr := remA_put hd l
      have ha : (l.filter fun a => decide (a.From = s.Node)) = [] := List.eq_nil_of_length_eq_zero (by omega)
      have g := h.start hm hmin (fun a => if s.Node = r then a.To else ((mget known s.Node).getD zr).Via)
      have h' := h.next hm hmin hd rfl (arcs := []) (fun a => ⟨fun e => (nomatch e), fun e => by
        have : a ∈ l.filter fun a => decide (a.From = s.Node) := List.mem_filter.2 ⟨e.1, by simpa using e.2⟩
        rw [ha] at this; cases this⟩) g
      refine ⟨known, mput done s.Node true, Ev.succ ?_, h'⟩
      simp only [m58_l1]
      refine Ev.pos trivial (Ev.bnd rfl (Ev.bind (v := (known, mput done s.Node true, [])) (Ev.neg hd (Ev.bnd rfl (Ev.bnd (v := []) ?_ (Ev.bind (v := (known, [])) (Ev.bnd rfl (Ev.bind (v := (known, [])) (Ev.succ (Ev.all fun k => ?_)) (Ev.pure _))) (Ev.pure _))))) (Ev.bind take_none (Ev.succ (Ev.all fun k => ?_)))))
      · rw [mgetO_ok (by simp), hfm, ha]
      · simp only [m124_l0]; rw [if_neg (by simp)]
      · simp only [m58_l1]; rw [if_neg (by simp)]
  | succ M ih =>
    intro known done heap s hM hM5 h hmin hh
    -- how it goes on
    have go : ∀ (known1 : List (Int × S_api_Route)) (done1 : List (Int × Bool)) (heap1 : List S_api_Spot), heap1.length + remA l done1 ≤ M + 1 → DInv l r known1 done1 heap1 → Heap heap1 →
        ∃ known' done', Ev (fun k => Option.bind (m123 k heap1) fun x => m58_l1 r fm k known1 done1 x.2.2 x.1.Cost x.1.Node x.2.1) (known', done', []) ∧ DInv l r known' done' [] := by
      intro known1 done1 heap1 hM1 h1 hh1
      by_cases hne : heap1 = []
      · subst hne
        refine ⟨known1, done1, Ev.bind take_none (Ev.succ (Ev.all fun k => ?_)), h1⟩
        simp only [m58_l1]; rw [if_neg (by simp)]
      · obtain ⟨x, h2, t1, t2, t3, t4⟩ := take_ev hh1 hne (by omega)
        have hlen := t2.length_eq
        simp only [List.length_cons] at hlen
        obtain ⟨known', done', e1, e2⟩ := ih known1 done1 h2 x (by omega) (by omega) (h1.perm t2.symm) (fun y hy => by
          have := t4 y (t2.mem_iff.1 (List.mem_cons_of_mem _ hy))
          unfold leS at this; omega) t3
        exact ⟨known', done', Ev.bind t1 e1, e2⟩
    by_cases hd : isDn done s.Node
    · obtain ⟨known', done', e1, e2⟩ := go known done heap hM (h.skip hd) hh
      refine ⟨known', done', Ev.succ ?_, e2⟩
      simp only [m58_l1]
      exact Ev.pos trivial (Ev.bnd rfl (Ev.bind (v := (known, done, heap)) (Ev.pos hd (Ev.pure _)) e1))
    · have hr := remA_put hd l
      have hdl := h.dlen
      have hcur := h.cur hm hmin hd
      have hcb : 0 ≤ s.Cost ∧ s.Cost ≤ (done.length : Int) * 1073741824 := by
        rcases hcur with ⟨_, e2, _⟩ | ⟨y, _, e2, e3⟩
        · rw [e2]; omega
        · have := h.bnd _ y e2
          have := (h.way _ y e2).pos hm
          omega
      have hxc : ((mget known s.Node).getD zr).Cost = s.Cost := by
        rcases hcur with ⟨_, e2, e3⟩ | ⟨y, _, e2, e3⟩
        · rw [e3, e2]; rfl
        · rw [e2]; exact e3
      have g := h.start hm hmin (fun a => if s.Node = r then a.To else ((mget known s.Node).getD zr).Via)
      obtain ⟨known1, heap1, s1, s2, s3, s4⟩ := spread_loop (B := ((done.length + 1 : Nat) : Int) * 1073741824) hm ((mget known s.Node).getD zr) hxc hcb.1 (by omega) (l.filter fun a => decide (a.From = s.Node)) (fun a ha => (List.mem_filter.1 ha).1) (Nat.le_trans (List.length_filter_le _ _) (by omega)) (fun a ha => by
          obtain ⟨h1, h2⟩ := List.mem_filter.1 ha
          have h2 : a.From = s.Node := by simpa using h2
          rcases hcur with ⟨e1, e2, _⟩ | ⟨y, e1, e2, e3⟩
          · rw [if_pos e1, e2, Int.zero_add]; exact Way.one h1 (h2.trans e1)
          · rw [if_neg e1, e2, ← e3]; exact Way.more (h.way _ y e2) h1 h2) (fun a ha => by
          have := hm.1 a (List.mem_filter.1 ha).1
          unfold OkA at this; omega) _ 0 known heap (Nat.zero_add _) (by rw [List.take_zero]; exact g) hh (by have := List.length_filter_le (fun a : S_api_Arc => decide (a.From = s.Node)) l; omega)
      have h' := h.next hm hmin hd rfl (arcs := l.filter fun a => decide (a.From = s.Node)) (fun a => by simp [List.mem_filter]) s2
      obtain ⟨known', done', e1, e2⟩ := go known1 (mput done s.Node true) heap1 (by omega) h' s3
      refine ⟨known', done', Ev.succ ?_, e2⟩
      simp only [m58_l1]
      refine Ev.pos trivial (Ev.bnd rfl (Ev.bind (v := (known1, mput done s.Node true, heap1)) (Ev.neg hd (Ev.bnd rfl (Ev.bnd (v := l.filter fun a => decide (a.From = s.Node)) ?_ (Ev.bind (v := (known1, heap1)) (Ev.bnd rfl (Ev.bind s1 (Ev.pure _))) (Ev.pure _))))) e1))
      rw [mgetO_ok (by simp), hfm]
theorem fold_inv {α σ : Type} {xs : List α} {step : σ → α → σ} (inv : Nat → σ → Prop) (h : ∀ (i : Nat) (hi : i < xs.length) (s : σ), inv i s → inv (i + 1) (step s xs[i])) : ∀ (n i : Nat) (s : σ), i + n = xs.length → inv i s → inv xs.length ((xs.drop i).foldl step s)
  | 0, i, s, hi, hv => by
    obtain rfl : i = xs.length := by omega
    rw [List.drop_eq_nil_of_le (Nat.le_refl _)]; exact hv
  | n + 1, i, s, hi, hv => by
    have hlt : i < xs.length := by omega
    rw [List.drop_eq_getElem_cons hlt, List.foldl_cons]
    exact fold_inv inv h n (i + 1) _ (by omega) (h i hlt s hv)
theorem from_ev (l : List S_api_Arc) (hl : l.length ≤ 5000) : ∃ fm, Ev (fun k => m58_l0 l k [] 0) fm ∧ ∀ n, (mget fm n).getD [] = l.filter fun a => decide (a.From = n) := by
  let step : List (Int × List S_api_Arc) → S_api_Arc → List (Int × List S_api_Arc) := fun s a => mput s a.From ((mget s a.From).getD [] ++ [a])
  have hsz : Sz l := by unfold Sz; omega
  have inv : ∀ (i : Nat) (hi : i < l.length) (s : List (Int × List S_api_Arc)), (∀ n, (mget s n).getD [] = (l.take i).filter fun a => decide (a.From = n)) → ∀ n, (mget (step s l[i]) n).getD [] = (l.take (i + 1)).filter fun a => decide (a.From = n) := fun i hi s hs n => by
    simp only [step]
    rw [mget_put, List.take_succ_eq_append_getElem hi, List.filter_append, ← hs n]
    by_cases h : n = l[i].From
    · subst h; simp
    · rw [if_neg h]
      have : ([l[i]].filter fun a => decide (a.From = n)) = [] := by simp; exact fun e => h e.symm
      rw [this, List.append_nil]
  refine ⟨l.foldl step [], ?_, ?_⟩
  · refine ev_list0 hsz (L := fun k (s : List (Int × List S_api_Arc)) i => m58_l0 l k s i) step (fun s => s) (fun i s => ∀ n, (mget s n).getD [] = (l.take i).filter fun a => decide (a.From = n)) (fun i hi s hs => ⟨inv i hi s hs, fun o h => ?_⟩) (fun s _ => ?_) [] (fun n => by simp [mget])
    · refine Ev.succ ?_
      simp only [m58_l0]
      refine Ev.pos (by omega) (Ev.bnd (rdx_lt hi) (Ev.bnd (mgetO_ok (by simp)) (Ev.bnd (appd_ok ?_) (Ev.bnd rfl ?_))))
      · have := List.length_filter_le (fun a : S_api_Arc => decide (a.From = l[i].From)) (l.take i)
        rw [hs, List.length_take] at *
        simp; omega
      · rw [wrap_nat1 hsz hi]; exact h
    · refine Ev.succ ?_
      simp only [m58_l0]
      exact Ev.neg (by omega) (Ev.pure _)
  · have := fold_inv (xs := l) (step := step) (fun i s => ∀ n, (mget s n).getD [] = (l.take i).filter fun a => decide (a.From = n)) inv l.length 0 [] (by omega) (fun n => by simp [mget])
    rw [List.drop_zero, List.take_length] at this
    exact this
/-- What 'spf.Routes' gives. -/
structure Routes (l : List S_api_Arc) (r : Int) (rs : List S_api_Route) : Prop where mk ::
  asc : (rs.map (·.To)).Pairwise (· < ·)
  way : ∀ x ∈ rs, Way l r x.To x.Via x.Cost ∧ x.To ≠ r
  all : ∀ v via c, Way l r v via c → v ≠ r → ∃ x ∈ rs, x.To = v ∧ lexle x.Cost x.Via c via
  bnd : ∀ x ∈ rs, x.Cost ≤ 69793218560
theorem routes_ev (l : List S_api_Arc) (hl : l.length ≤ 5000) (r : Int) : ∃ rs, Ev (fun k => m58 k l r) rs ∧ (May l → Routes l r rs) ∧ (¬ May l → rs = []) := by
  have hsz : Sz l := by unfold Sz; omega
  obtain ⟨c, h1, h2⟩ := check_ev l hsz
  by_cases hc : c = 0
  · have hm := h2.1 hc
    obtain ⟨fm, f1, f2⟩ := from_ev l hl
    -- the begin
    have h122 : ∃ h0, Ev (fun k => m122 k [(⟨0, r⟩ : S_api_Spot)]) h0 ∧ h0.Perm [⟨0, r⟩] ∧ Heap h0 := by
      obtain ⟨h', p1, p2, p3⟩ := put_ev (h := []) ⟨0, r⟩ (fun j x y hj hx => by simp at hx) (by simp)
      refine ⟨h', Ev.bind (Ev.succ ?_) (Ev.pure _), p2, p3⟩
      simp only [m122_l0]
      refine Ev.pos (by simp) (Ev.bnd (v := ⟨0, r⟩) (by simp [rdx]) (Ev.bind p1 (Ev.succ (Ev.all fun k => ?_))))
      simp only [m122_l0]; rw [if_neg (by simp [IntKind.wrap_i64])]
    obtain ⟨h0, g1, g2, g3⟩ := h122
    obtain ⟨x, h', t1, t2, t3, t4⟩ := take_ev g3 (fun e => by rw [e] at g2; have := g2.length_eq; simp at this) (by rw [g2.length_eq]; simp)
    have hlen := t2.length_eq
    rw [g2.length_eq] at hlen
    simp at hlen
    have hh' : h' = [] := hlen
    subst hh'
    have hx : x = ⟨0, r⟩ := by
      have := (t2.trans g2).mem_iff.1 (List.mem_cons_self ..)
      simpa using this
    subst hx
    have hD : DInv l r [] [] [⟨0, r⟩] := by
      refine ⟨fun v x h => by simp [mget] at h, fun v x h => by simp [mget] at h, fun u h => by simp [isDn, mget] at h, fun v x h => by simp [mget] at h, fun s hs => ?_, .inr (List.mem_cons_self ..), fun u h => by simp [isDn, mget] at h, fun u y h => by simp [isDn, mget] at h, by simp [mkeys], by simp [mkeys], fun u h => by simp [mkeys] at h, fun u h => by simp [mkeys] at h, fun v x h => by simp [mget] at h⟩
      simp at hs
      subst hs; exact .inl ⟨rfl, rfl⟩
    obtain ⟨known, done, e1, e2⟩ := main_loop hm hl fm f2 l.length [] [] [] ⟨0, r⟩ (by simp [remA]; exact List.length_filter_le _ _) hl hD (fun y hy => by cases hy) (fun j x y hj hx => by simp at hx)
    have hkeys : ∀ v ∈ mkeys known, ∃ x, mget known v = some x := fun v hv => Option.isSome_iff_exists.1 ((mget_mem known v).2 hv)
    have hrange : ∀ v ∈ mkeys known, 1 ≤ v ∧ v ≤ 64 := fun v hv => by
      obtain ⟨x, hx⟩ := hkeys v hv
      have := (e2.way v x hx).pos hm
      omega
    have hkl : known.length ≤ 64 := by
      have := small_len e2.nd hrange
      simpa [mkeys] using this
    let f : Int → S_api_Route := fun v => (mget known v).getD zr
    have hf : ∀ v ∈ mkeys known, mget known v = some (f v) ∧ (f v).To = v := fun v hv => by
      obtain ⟨x, hx⟩ := hkeys v hv
      have e : f v = x := by simp only [f]; rw [hx]; rfl
      rw [e]; exact ⟨hx, (e2.to v x hx).1⟩
    have hsl : (sortZ (mkeys known)).length ≤ 64 := by rw [(sortZ_permS _).length_eq]; simpa [mkeys] using hkl
    have hTo : ((sortZ (mkeys known)).map f).map (·.To) = sortZ (mkeys known) := by
      rw [List.map_map]
      have : ∀ xs : List Int, (∀ v ∈ xs, v ∈ mkeys known) → xs.map ((fun x : S_api_Route => x.To) ∘ f) = xs := fun xs => by
        induction xs with
        | nil => exact fun _ => rfl
        | cons v xs ih => intro h; rw [List.map_cons, ih fun u hu => h u (List.mem_cons_of_mem _ hu)]; simp only [Function.comp]; rw [(hf v (h v (List.mem_cons_self ..))).2]
      exact this _ fun v hv => mem_sortZ.1 hv
    refine ⟨(sortZ (mkeys known)).map f, ?_, fun _ => ⟨?_, fun x hx => ?_, fun v via c hw hv => ?_, fun x hx => ?_⟩, fun h => absurd hm h⟩
    · refine Ev.bind h1 (Ev.pos hc (Ev.bind f1 (Ev.bind g1 (Ev.bind t1 (Ev.bind e1 (Ev.bnd (skeys_ok (show known.length ≤ 17592186044416 by omega) fun v hv => by have := hrange v hv; omega) (Ev.bind (v := (sortZ (mkeys known)).map f) ?_ (Ev.pure _))))))))
      have hz : Sz (sortZ (mkeys known)) := by unfold Sz; omega
      have := ev_list0 hz (L := fun k (s : List S_api_Route) i => m58_l2 (sortZ (mkeys known)) (known, done, []) k s i) (fun s v => s ++ [f v]) (fun s => s) (fun i s => s.length = i) (fun i hi s hs => ⟨by simp [hs], fun o h => ?_⟩) (fun s _ => ?_) [] rfl
      · have e : ∀ (xs : List Int) (acc : List S_api_Route), xs.foldl (fun s v => s ++ [f v]) acc = acc ++ xs.map f := fun xs => by
          induction xs with
          | nil => exact fun acc => by simp
          | cons v xs ih => intro acc; rw [List.foldl_cons, ih]; simp
        rw [e, List.nil_append] at this; exact this
      · refine Ev.succ ?_
        simp only [m58_l2]
        refine Ev.pos (by omega) (Ev.bnd (rdx_lt hi) (Ev.bnd rfl (Ev.bnd (appd_ok (by simp; omega)) ?_)))
        rw [wrap_nat1 hz hi]; exact h
      · refine Ev.succ ?_
        simp only [m58_l2]
        exact Ev.neg (by omega) (Ev.pure _)
    · rw [hTo]; exact sortZ_lt e2.nd
    · obtain ⟨v, hv, rfl⟩ := List.mem_map.1 hx
      have hv := mem_sortZ.1 hv
      obtain ⟨q1, q2⟩ := hf v hv
      rw [q2]
      exact ⟨e2.way v _ q1, (e2.to v _ q1).2⟩
    · rcases e2.least hm hw with h | ⟨x, hx, hl⟩ | ⟨s, hs, _⟩
      · exact absurd h hv
      · have hk := mget_keys hx
        refine ⟨f v, List.mem_map.2 ⟨v, mem_sortZ.2 hk, rfl⟩, (hf v hk).2, ?_⟩
        have e : f v = x := by simp only [f]; rw [hx]; rfl
        rw [e]; exact hl
      · cases hs
    · obtain ⟨v, hv, rfl⟩ := List.mem_map.1 hx
      have := e2.bnd v _ (hf v (mem_sortZ.1 hv)).1
      have := e2.dlen
      omega
  · exact ⟨[], Ev.bind h1 (Ev.neg hc (Ev.pure _)), fun h => absurd (h2.2 h) hc, fun _ => rfl⟩
end Go.Proofs.Ytbielnhpfbhkgaa
