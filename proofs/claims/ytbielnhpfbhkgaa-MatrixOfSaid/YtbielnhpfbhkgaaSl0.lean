/- Memory in parts: what is known for good, what is owned, and a list of what is owned. -/
import Derived.Calls
import Derived.Tactics
import Derived.Orders
set_option linter.unusedVariables false
set_option linter.unusedSimpArgs false
namespace Go.Proofs.Ytbielnhpfbhkgaa
open Go

/-- Memory as a partial map from blocks. -/
abbrev Hp := Nat → Option Obj
/-- The second holds all that the first does. -/
structure Hp.le (h k : Hp) : Prop where mk ::
  out : ∀ {b : Nat} {o : Obj}, h b = some o → k b = some o
def Hp.dj (h k : Hp) : Prop := ∀ b, h b = none ∨ k b = none
def Hp.un (h k : Hp) : Hp := fun b => (h b).or (k b)
def hp (w : World) : Hp := fun b => w.heap[b]?

theorem Hp.le_refl (h : Hp) : h.le h := ⟨fun e => e⟩
theorem Hp.le.le_trans {h k m : Hp} (a : h.le k) (b : k.le m) : h.le m := ⟨fun e => b.out (a.out e)⟩
theorem Hp.le_nil (h : Hp) : Hp.le (fun _ => none) h := ⟨fun e => by cases e⟩
theorem Hp.le_un_left (h k : Hp) : h.le (h.un k) := ⟨fun e => by simp [Hp.un, e]⟩
theorem Hp.le_un_right {h k : Hp} (d : h.dj k) : k.le (h.un k) := ⟨fun {b o} e => by
  rcases d b with h0 | h0
  · simp [Hp.un, h0, e]
  · rw [h0] at e; cases e⟩
theorem Hp.un_le {h k m : Hp} (a : h.le m) (b : k.le m) : (h.un k).le m := ⟨fun {i o} e => by
  simp only [Hp.un] at e
  cases hh : h i with
  | some x => rw [hh] at e; simp at e; subst e; exact a.out hh
  | none => rw [hh] at e; simp at e; exact b.out e⟩
theorem Hp.dj_comm {h k : Hp} (d : h.dj k) : k.dj h := fun b => (d b).symm
theorem Hp.dj_le {h k h' k' : Hp} (d : h.dj k) (a : h'.le h) (b : k'.le k) : h'.dj k' := fun i => by
  rcases d i with h0 | h0
  · left; cases e : h' i with
    | none => rfl
    | some x => rw [a.out e] at h0; cases h0
  · right; cases e : k' i with
    | none => rfl
    | some x => rw [b.out e] at h0; cases h0
theorem Hp.dj_un {h k m : Hp} (a : h.dj m) (b : k.dj m) : (h.un k).dj m := fun i => by
  rcases a i with h0 | h0
  · rcases b i with h1 | h1
    · left; simp [Hp.un, h0, h1]
    · exact .inr h1
  · exact .inr h0

/-- What is said of memory: of what is known for good, and of what is owned. -/
structure Asn where
  p : Hp → Hp → Prop
  mono : ∀ {I J h k : Hp}, I.le J → h.le k → p I h → p J k

def Sat (I : Hp) : List Asn → Hp → Prop
  | [], _ => True
  | A :: l, h => ∃ h1 h2, A.p I h1 ∧ h1.dj h2 ∧ h1.le h ∧ h2.le h ∧ Sat I l h2

theorem Sat.mono {I J : Hp} (hI : I.le J) : ∀ {l : List Asn} {h k : Hp}, h.le k → Sat I l h → Sat J l k
  | [], _, _, _, _ => trivial
  | _ :: _, _, _, a, ⟨h1, h2, p, d, l1, l2, s⟩ => ⟨h1, h2, Asn.mono _ hI (Hp.le_refl _) p, d, l1.le_trans a, l2.le_trans a, Sat.mono hI (Hp.le_refl _) s⟩

theorem Sat.swap {I : Hp} {A B : Asn} {l : List Asn} {h : Hp} : Sat I (A :: B :: l) h → Sat I (B :: A :: l) h := by
  rintro ⟨h1, h2, pA, d, l1, l2, h3, h4, pB, d', l3, l4, s⟩
  refine ⟨h3, h1.un h4, pB, ?_, l3.le_trans l2, Hp.un_le l1 (l4.le_trans l2), h1, h4, pA, Hp.dj_le d (Hp.le_refl _) l4, Hp.le_un_left _ _, Hp.le_un_right (Hp.dj_le d (Hp.le_refl _) l4), s⟩
  exact Hp.dj_comm (Hp.dj_un (Hp.dj_le d (Hp.le_refl _) l3) (Hp.dj_comm d'))

theorem Sat.perm {I : Hp} {l l' : List Asn} (p : l.Perm l') : ∀ {h : Hp}, Sat I l h → Sat I l' h := by
  induction p with
  | nil => exact fun s => s
  | cons x _ ih => rintro h ⟨h1, h2, p, d, a, b, s⟩; exact ⟨h1, h2, p, d, a, b, ih s⟩
  | swap x y l => exact fun s => s.swap
  | trans _ _ ih1 ih2 => exact fun s => ih2 (ih1 s)

theorem Sat.drop {I : Hp} {A : Asn} {l : List Asn} {h : Hp} : Sat I (A :: l) h → Sat I l h := by
  rintro ⟨_, _, _, _, _, b, s⟩; exact s.mono (Hp.le_refl _) b
theorem Sat.mem {I : Hp} {A : Asn} : ∀ {l : List Asn} {h : Hp}, A ∈ l → Sat I l h → ∃ h1 : Hp, h1.le h ∧ A.p I h1
  | _ :: _, _, hm, ⟨h1, h2, p, d, a, b, s⟩ => by
    cases hm with
    | head => exact ⟨h1, a, p⟩
    | tail _ hm =>
      obtain ⟨h3, l3, p3⟩ := Sat.mem hm s
      exact ⟨h3, l3.le_trans b, p3⟩

/-- A list as one. -/
def Pk (l : List Asn) : Asn := ⟨fun I h => Sat I l h, fun hI hk s => s.mono hI hk⟩
theorem Sat.unpack {I : Hp} {l : List Asn} : ∀ {k : List Asn} {h : Hp}, Sat I (k ++ [Pk l]) h → Sat I (k ++ l) h
  | [], _, ⟨_, _, p, _, a, _, _⟩ => p.mono (Hp.le_refl _) a
  | _ :: _, _, ⟨h1, h2, p, d, a, b, s⟩ => ⟨h1, h2, p, d, a, b, Sat.unpack s⟩
theorem Sat.pack {I : Hp} {l : List Asn} : ∀ {k : List Asn} {h : Hp}, Sat I (k ++ l) h → Sat I (k ++ [Pk l]) h
  | [], h, s => ⟨h, fun _ => none, s, fun _ => .inr rfl, Hp.le_refl _, Hp.le_nil _, trivial⟩
  | _ :: _, _, ⟨h1, h2, p, d, a, b, s⟩ => ⟨h1, h2, p, d, a, b, Sat.pack s⟩
theorem Sat.open_ {I : Hp} {l : List Asn} : ∀ {k : List Asn} {h : Hp}, Sat I (Pk k :: l) h → Sat I (k ++ l) h := by
  intro k
  induction k with
  | nil => exact fun s => s.drop
  | cons A k ih =>
    rintro h ⟨h1, h2, ⟨h3, h4, pA, d', a', b', s'⟩, d, a, b, s⟩
    have dd : h4.dj h2 := Hp.dj_le d b' (Hp.le_refl _)
    refine ⟨h3, h4.un h2, pA, Hp.dj_comm (Hp.dj_un (Hp.dj_comm d') (Hp.dj_comm (Hp.dj_le d a' (Hp.le_refl _)))), a'.le_trans a, Hp.un_le (b'.le_trans a) b, ?_⟩
    exact ih ⟨h4, h2, s', dd, Hp.le_un_left _ _, Hp.le_un_right dd, s⟩
theorem Sat.shut {I : Hp} {l : List Asn} : ∀ {k : List Asn} {h : Hp}, Sat I (k ++ l) h → Sat I (Pk k :: l) h := by
  intro k
  induction k with
  | nil => exact fun {h} s => ⟨fun _ => none, h, trivial, fun _ => .inl rfl, Hp.le_nil _, Hp.le_refl _, s⟩
  | cons A k ih =>
    rintro h ⟨h1, h2, pA, d, a, b, s⟩
    obtain ⟨h3, h4, sk, d', a', b', sl⟩ := ih s
    exact ⟨h1.un h3, h4, ⟨h1, h3, pA, Hp.dj_le d (Hp.le_refl _) a', Hp.le_un_left _ _, Hp.le_un_right (Hp.dj_le d (Hp.le_refl _) a'), sk⟩,
      Hp.dj_un (Hp.dj_le d (Hp.le_refl _) b') d', Hp.un_le a (a'.le_trans b), b'.le_trans b, sl⟩

/-- Some x. -/
def Ex {α : Type} (F : α → Asn) : Asn := ⟨fun I h => ∃ x, (F x).p I h, fun hI hk ⟨x, p⟩ => ⟨x, (F x).mono hI hk p⟩⟩
theorem Sat.ex {I : Hp} {α : Type} {F : α → Asn} {l : List Asn} {h : Hp} : Sat I (Ex F :: l) h → ∃ x, Sat I (F x :: l) h := by
  rintro ⟨h1, h2, ⟨x, p⟩, r⟩; exact ⟨x, h1, h2, p, r⟩
theorem Sat.ex_intro {I : Hp} {α : Type} {F : α → Asn} {l : List Asn} {h : Hp} (x : α) : Sat I (F x :: l) h → Sat I (Ex F :: l) h := by
  rintro ⟨h1, h2, p, r⟩; exact ⟨h1, h2, ⟨x, p⟩, r⟩
/-- A fact on what is known for good. -/
def Pu (p : Hp → Prop) (m : ∀ {I J : Hp}, I.le J → p I → p J) : Asn := ⟨fun I _ => p I, fun hI _ q => m hI q⟩
theorem Sat.pu {I : Hp} {p : Hp → Prop} {m} {l : List Asn} {h : Hp} : Sat I (Pu p m :: l) h → p I ∧ Sat I l h := by
  intro s; exact ⟨by obtain ⟨_, _, q, _⟩ := s; exact q, s.drop⟩
theorem Sat.pu_intro {I : Hp} {p : Hp → Prop} {m} {l : List Asn} {h : Hp} (q : p I) (s : Sat I l h) : Sat I (Pu p m :: l) h :=
  ⟨fun _ => none, h, q, fun _ => .inl rfl, Hp.le_nil _, Hp.le_refl _, s⟩

/-- The world: what is known for good (I, and maybe more: J) and what is owned lie in it, apart; its other parts are those of z. -/
structure St (z : World) (I : Hp) (w : World) (l : List Asn) : Prop where mk ::
  os : w.os = z.os
  tape : w.tape = z.tape
  output : w.output = z.output
  dr : z.drawn ≤ w.drawn
  own : ∃ J h : Hp, I.le J ∧ J.le (hp w) ∧ h.dj J ∧ h.le (hp w) ∧ Sat J l h

section
variable {z w w' : World} {I : Hp} {l k : List Asn} {A B : Asn}
theorem St.know (H : St z I w l) : I.le (hp w) := let ⟨_, _, a, b, _⟩ := H.own; a.le_trans b
theorem St.map (H : St z I w l) (f : ∀ J h : Hp, I.le J → Sat J l h → Sat J k h) : St z I w k :=
  ⟨H.os, H.tape, H.output, H.dr, let ⟨J, h, i, j, d, a, s⟩ := H.own; ⟨J, h, i, j, d, a, f J h i s⟩⟩
theorem St.perm (H : St z I w l) (p : l.Perm k) : St z I w k := H.map fun _ _ _ s => s.perm p
theorem St.drop (H : St z I w (A :: l)) : St z I w l := H.map fun _ _ _ s => s.drop
theorem St.pack (H : St z I w (k ++ l)) : St z I w (k ++ [Pk l]) := H.map fun _ _ _ s => s.pack
theorem St.unpack (H : St z I w (k ++ [Pk l])) : St z I w (k ++ l) := H.map fun _ _ _ s => s.unpack
theorem St.open_ (H : St z I w (Pk k :: l)) : St z I w (k ++ l) := H.map fun _ _ _ s => s.open_
theorem St.shut (H : St z I w (k ++ l)) : St z I w (Pk k :: l) := H.map fun _ _ _ s => s.shut
theorem St.ex {α : Type} {F : α → Asn} (H : St z I w (Ex F :: l)) : ∃ x, St z I w (F x :: l) := by
  obtain ⟨J, h, i, j, d, a, s⟩ := H.own
  obtain ⟨x, s⟩ := s.ex
  exact ⟨x, H.os, H.tape, H.output, H.dr, J, h, i, j, d, a, s⟩
theorem St.ex_intro {α : Type} {F : α → Asn} (x : α) (H : St z I w (F x :: l)) : St z I w (Ex F :: l) := H.map fun _ _ _ s => s.ex_intro x
theorem St.pu {p : Hp → Prop} {m} (H : St z I w (Pu p m :: l)) : (∃ J : Hp, I.le J ∧ J.le (hp w) ∧ p J) ∧ St z I w l := by
  obtain ⟨J, h, i, j, d, a, s⟩ := H.own
  exact ⟨⟨J, i, j, s.pu.1⟩, H.drop⟩
theorem St.pu_intro {p : Hp → Prop} {m} (q : p I) (H : St z I w l) : St z I w (Pu p m :: l) := H.map fun _ _ i s => s.pu_intro (m i q)
theorem perm_erase {α : Type} : ∀ {l : List α} {i : Nat} {x : α}, l[i]? = some x → l.Perm (x :: l.eraseIdx i)
  | y :: l, 0, x, h => by simp at h; subst h; exact List.Perm.refl _
  | y :: l, i + 1, x, h => by
    simp only [List.eraseIdx_cons_succ]
    exact ((perm_erase (l := l) (i := i) (by simpa using h)).cons y).trans (List.Perm.swap x y _)
/-- Bring the i-th to the front. -/
theorem St.get (H : St z I w l) (i : Nat) {A : Asn} (hA : l[i]? = some A) : St z I w (A :: l.eraseIdx i) := by
  exact H.perm (perm_erase hA)
theorem St.del (H : St z I w l) (i : Nat) : St z I w (l.eraseIdx i) := by
  rcases Nat.lt_or_ge i l.length with hi | hi
  · exact (H.get i (List.getElem?_eq_getElem hi)).drop
  · rw [List.eraseIdx_of_length_le hi]; exact H
theorem St.mem (H : St z I w l) (i : Nat) {A : Asn} (hA : l[i]? = some A) : ∃ J h : Hp, I.le J ∧ J.le (hp w) ∧ h.le (hp w) ∧ A.p J h := by
  obtain ⟨J, h, i', j, d, a, s⟩ := H.own
  obtain ⟨h1, l1, p⟩ := s.mem (List.mem_of_getElem? hA)
  exact ⟨J, h1, i', j, l1.le_trans a, p⟩
/-- Only the orders drawn have turned. -/
theorem St.drawn (H : St z I w l) (n : Nat) (hn : w.drawn ≤ n) : St z I { w with drawn := n } l := ⟨H.os, H.tape, H.output, Nat.le_trans H.dr hn, H.own⟩
/-- The first one turns, into new ones; nobody else's block does. -/
theorem St.turn (H : St z I w (A :: l)) (ho : w'.os = w.os) (ht : w'.tape = w.tape) (hu : w'.output = w.output) (hd : z.drawn ≤ w'.drawn)
    (f : ∀ J h1 : Hp, I.le J → J.le (hp w) → h1.le (hp w) → A.p J h1 → ∃ h1' : Hp, B.p J h1' ∧ h1'.le (hp w') ∧ (∀ b, h1' b = none ∨ h1 b ≠ none ∨ w.heap.size ≤ b) ∧ (∀ b, h1 b = none → b < w.heap.size → w'.heap[b]? = w.heap[b]?)) :
    St z I w' (B :: l) := by
  obtain ⟨J, h, iJ, jw, d, a, h1, h2, p, dd, l1, l2, s⟩ := H.own
  obtain ⟨h1', p', l1', hb, hw⟩ := f J h1 iJ jw (l1.le_trans a) p
  have lt : ∀ {b o}, (hp w) b = some o → b < w.heap.size := fun {b o} e => (Array.getElem?_eq_some_iff.1 e).1
  have out1 : ∀ b, h2 b ≠ none → h1 b = none := fun b hn => (dd b).resolve_right hn
  have outI : ∀ b, J b ≠ none → h1 b = none := fun b hn => by
    rcases d b with h0 | h0
    · cases e : h1 b with
      | none => rfl
      | some o => rw [l1.out e] at h0; cases h0
    · exact absurd h0 hn
  have keepI : J.le (hp w') := ⟨fun {b o} e => by
    have e' := jw.out e
    have hl := lt e'
    have := hw b (outI b (by rw [e]; simp)) hl
    simp only [hp] at *; rw [this]; exact e'⟩
  have keep2 : h2.le (hp w') := ⟨fun {b o} e => by
    have e' := a.out (l2.out e)
    have hl := lt e'
    have := hw b (out1 b (by rw [e]; simp)) hl
    simp only [hp] at *; rw [this]; exact e'⟩
  have d2 : h1'.dj h2 := fun b => by
    rcases hb b with h0 | h0 | h0
    · exact .inl h0
    · right; exact (dd b).resolve_left h0
    · right; cases e : h2 b with
      | none => rfl
      | some o => have := lt (a.out (l2.out e)); omega
  have dI : h1'.dj J := fun b => by
    rcases hb b with h0 | h0 | h0
    · exact .inl h0
    · right; cases e : J b with
      | none => rfl
      | some o => exact absurd (outI b (by rw [e]; simp)) h0
    · right; cases e : J b with
      | none => rfl
      | some o => have := lt (jw.out e); omega
  refine ⟨ho.trans H.os, ht.trans H.tape, hu.trans H.output, hd, J, h1'.un h2, iJ, keepI, Hp.dj_un dI (Hp.dj_le d l2 (Hp.le_refl _)), Hp.un_le l1' keep2, ?_⟩
  exact ⟨h1', h2, p', d2, Hp.le_un_left _ _, Hp.le_un_right d2, s⟩
/-- The first one is known for good from now on: nobody writes it any more. -/
theorem St.freeze (H : St z I w (A :: l)) (f : ∀ J h1 : Hp, A.p J h1 → ∀ J' : Hp, J.le J' → h1.le J' → B.p J' (fun _ => none)) : St z I w (B :: l) := by
  obtain ⟨J, h, iJ, jw, d, a, h1, h2, p, dd, l1, l2, s⟩ := H.own
  have d1 : J.dj h1 := Hp.dj_comm (Hp.dj_le d l1 (Hp.le_refl _))
  have le1 : J.le (J.un h1) := Hp.le_un_left _ _
  exact ⟨H.os, H.tape, H.output, H.dr, J.un h1, h2, iJ.le_trans le1, Hp.un_le jw (l1.le_trans a), Hp.dj_comm (Hp.dj_un (Hp.dj_comm (Hp.dj_le d l2 (Hp.le_refl _))) dd), l2.le_trans a,
    fun _ => none, h2, f J h1 p _ le1 (Hp.le_un_right d1), fun _ => .inl rfl, Hp.le_nil _, Hp.le_refl _, s.mono le1 (Hp.le_refl _)⟩
/-- What is known for good of one of the list is known twice. -/
theorem St.dup (H : St z I w l) (f : ∀ J h : Hp, I.le J → J.le (hp w) → h.le (hp w) → Sat J l h → B.p J (fun _ => none)) : St z I w (B :: l) :=
  ⟨H.os, H.tape, H.output, H.dr, let ⟨J, h, i, j, d, a, s⟩ := H.own; ⟨J, h, i, j, d, a, fun _ => none, h, f J h i j a s, fun _ => .inl rfl, Hp.le_nil _, Hp.le_refl _, s⟩⟩
end

/-- One block, known whole. -/
def Ob (b : Nat) (o : Obj) : Asn := ⟨fun _ h => h b = some o, fun _ hk e => hk.out e⟩
abbrev Cl (b : Nat) (T : TypeId) (cs : Array Value) : Asn := Ob b (.cells cs T (0, 0))
def one (b : Nat) (o : Obj) : Hp := fun i => if i = b then some o else none
theorem one_le {b : Nat} {o : Obj} {h : Hp} (e : h b = some o) : (one b o).le h := ⟨fun {i x} hx => by
  unfold one at hx
  split at hx
  · cases hx; subst_vars; exact e
  · cases hx⟩
section
variable {z w w' : World} {I : Hp} {l : List Asn} {A : Asn}
theorem St.ob (H : St z I w l) (i : Nat) {b : Nat} {o : Obj} (hA : l[i]? = some (Ob b o)) : w.heap[b]? = some o := by
  obtain ⟨_, h, _, _, a, p⟩ := H.mem i hA
  exact a.out p
theorem St.alloc (H : St z I w l) (o : Obj) : St z I (w.alloc o) (Ob w.heap.size o :: l) := by
  have H1 : St z I w (Pk [] :: l) := H.shut (k := [])
  refine H1.turn rfl rfl rfl H1.dr fun _ h1 _ _ _ _ => ⟨one w.heap.size o, by simp [Ob, one], one_le (by show (w.heap.push o)[w.heap.size]? = some o; simp), fun b => ?_, fun b _ hb => ?_⟩
  · by_cases hb : b = w.heap.size
    · exact .inr (.inr (by omega))
    · exact .inl (by simp [one, hb])
  · show (w.heap.push o)[b]? = _; simp [Array.getElem?_push, Nat.ne_of_lt hb]
/-- A block of one's own is written. -/
theorem St.put {b : Nat} {o : Obj} (H : St z I w (Ob b o :: l)) (o' : Obj) (ho : w'.os = w.os) (ht : w'.tape = w.tape) (hu : w'.output = w.output) (hd : w.drawn ≤ w'.drawn) (hw : w'.heap = w.heap.setIfInBounds b o') : St z I w' (Ob b o' :: l) := by
  refine H.turn ho ht hu (Nat.le_trans H.dr hd) fun _ h1 _ _ l1 p => ?_
  have hb : b < w.heap.size := (Array.getElem?_eq_some_iff.1 (l1.out p)).1
  refine ⟨one b o', by simp [Ob, one], one_le ?_, fun i => ?_, fun i hi _ => ?_⟩
  · simp [hp, hw, hb]
  · by_cases hi : i = b
    · subst hi; right; left; rw [show h1 i = some o from p]; simp
    · left; simp [one, hi]
  · have hne : b ≠ i := by rintro rfl; rw [show h1 b = some o from p] at hi; cases hi
    rw [hw, Array.getElem?_setIfInBounds_ne hne]
end
end Go.Proofs.Ytbielnhpfbhkgaa
