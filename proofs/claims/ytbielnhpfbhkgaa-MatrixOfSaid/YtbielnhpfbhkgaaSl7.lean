/- Pointers that may be nil; make; cuts and stores of rows of one's own. -/
import Derived.Test.YtbielnhpfbhkgaaSl6
import Derived.Laws.MakeOwn
import Derived.Laws.Slices
import Derived.Laws.Pointers
import Derived.Laws.Cover3
set_option linter.unusedVariables false
set_option linter.unusedSimpArgs false
namespace Go.Proofs.Ytbielnhpfbhkgaa
open Go

/-- nil, or an object of one's own. -/
def OptO {σ : Type} (F : Nat → σ → Asn) (v : Value) : Option σ → Asn
  | none => Pu (fun _ => v = .pointer none) fun _ h => h
  | some s => Ex fun b => Pk [Pu (fun _ => v = .pointer (some (ad b 0))) fun _ h => h, F b s]
section
variable {σ : Type} {F : Nat → σ → Asn} {v : Value} {z w : World} {I : Hp} {r : List Asn}
theorem St.opt_none (H : St z I w (OptO F v none :: r)) : v = .pointer none ∧ St z I w r := by
  obtain ⟨⟨_, _, _, h⟩, H⟩ := St.pu H
  exact ⟨h, H⟩
theorem St.opt_some {s : σ} (H : St z I w (OptO F v (some s) :: r)) : ∃ b, v = .pointer (some (ad b 0)) ∧ St z I w (F b s :: r) := by
  obtain ⟨b, H⟩ := St.ex H
  obtain ⟨⟨_, _, _, h⟩, H⟩ := St.pu (St.open_ H)
  exact ⟨b, h, H⟩
theorem St.mk_none (H : St z I w r) : St z I w (OptO F (.pointer none) none :: r) := St.pu_intro rfl H
theorem St.mk_some {s : σ} {b : Nat} (H : St z I w (F b s :: r)) : St z I w (OptO F (.pointer (some (ad b 0))) (some s) :: r) :=
  St.ex_intro b (St.shut (k := [_, F b s]) (St.pu_intro rfl H))
end
/-- make([]T, n), as long as it fits memory. -/
def mkl {α : Type} (lim : Nat) (n : Int) (x : α) : Option (List α) := if 0 ≤ n ∧ n ≤ lim then some (List.replicate n.toNat x) else none
theorem mkl_some {α : Type} {lim : Nat} {n : Int} {x : α} {r : List α} (h : mkl lim n x = some r) : r = List.replicate n.toNat x ∧ 0 ≤ n ∧ n ≤ lim := by
  unfold mkl at h
  split at h
  · cases h; exact ⟨rfl, by assumption⟩
  · cases h
/-- xs[lo:hi], as long as it lies within. -/
def cutx {α : Type} (xs : List α) (lo hi : Int) : Option (List α) := if 0 ≤ lo ∧ lo ≤ hi ∧ hi ≤ xs.length then some ((xs.take hi.toNat).drop lo.toNat) else none
theorem cutx_some {α : Type} {xs r : List α} {lo hi : Int} (h : cutx xs lo hi = some r) : r = (xs.take hi.toNat).drop lo.toNat ∧ 0 ≤ lo ∧ lo ≤ hi ∧ hi ≤ xs.length := by
  unfold cutx at h
  split at h
  · cases h; exact ⟨rfl, by assumption⟩
  · cases h
/-- The value of such a cut. -/
def slv (n : Nat) : Value → Int → Int → Value
  | .slice a _ cap, lo, hi => sliced a lo.toNat hi.toNat cap n
  | v, _, _ => v
theorem made_get (cs : List Value) (n i j : Nat) (v : Value) (h0 : 0 < cs.length) (hi : i < n) (h : cs[j]? = some v) : (madeCells cs.toArray (n * cs.length))[i * cs.length + j]? = some v := by
  have hj : j < cs.length := (List.getElem?_eq_some_iff.1 h).1
  have hlt : i * cs.length + j < n * cs.length := by
    have : (i + 1) * cs.length ≤ n * cs.length := Nat.mul_le_mul_right _ hi
    rw [Nat.add_mul] at this; omega
  have hm : (i * cs.length + j) % cs.length = j := by rw [Nat.mul_comm, Nat.mul_add_mod, Nat.mod_eq_of_lt hj]
  simp only [madeCells, Array.getElem?_map, Array.getElem?_range, hlt, if_true, Option.map_some, List.size_toArray, hm]
  simp [hj]
  obtain ⟨_, e⟩ := List.getElem?_eq_some_iff.1 h
  exact e
section
variable {P : Program} {α : Type} {c : Cod α} {a : Act} {w z : World} {I : Hp} {N : Nat} {l : List (Nat × Value)} {r : List Asn} {d : Option Nat} {ty : TypeId} {pos : String} {af : Array Edge} {v : Value} {xs ys : List α}
theorem ptr_pointee {t e : TypeId} (ht : P.underlying t = some (.pointer e)) : P.underlying t = some (.pointer (P.pointee t)) := by simp [Program.pointee, ht]
theorem d_eqP {x y : Operand} {t e u : TypeId} {p : Option Addr} (ht : P.underlying t = some (.pointer e)) (hE : Env a N l) (hx : ev l x = some (.pointer p)) (hy : ev l y = some (.pointer none)) : Does P ⟨d, .binOp .eql t x y u, ty, pos, af, none⟩ a w (Is (.bool p.isNone) w) :=
  does_value (w' := w) (by
    have h : (binOp .eql t (.pointer p) (.pointer none)).run P w = .ok (.bool p.isNone) w := run_eql_pointer_nil w t p (ptr_pointee ht)
    simp only [execOp, hE.ev hx, hE.ev hy, eqGuard, Sem.run_bind, Sem.run_pure, Result.andThen_ok, h]
    simp [h]) ⟨rfl, rfl⟩
theorem d_neP {x y : Operand} {t e u : TypeId} {p : Option Addr} (ht : P.underlying t = some (.pointer e)) (hE : Env a N l) (hx : ev l x = some (.pointer p)) (hy : ev l y = some (.pointer none)) : Does P ⟨d, .binOp .neq t x y u, ty, pos, af, none⟩ a w (Is (.bool (!p.isNone)) w) :=
  does_value (w' := w) (by
    have h : (Op.equal t (.pointer p) (.pointer none)).run P w = .ok p.isNone w := run_equal_pointer_nil w t p (ptr_pointee ht)
    have h' : (binOp .neq t (.pointer p) (.pointer none)).run P w = .ok (.bool !p.isNone) w := by
      cases p <;> simp [binOp, h]
    simp only [execOp, hE.ev hx, hE.ev hy, eqGuard, Sem.run_bind, Sem.run_pure, Result.andThen_ok, h']
    simp [h']) ⟨rfl, rfl⟩
theorem d_eqSl {x y : Operand} {t e u : TypeId} {p : Option Addr} {n k : Nat} (ht : P.underlying t = some (.slice e)) (hE : Env a N l) (hx : ev l x = some (.slice p n k)) (hy : ev l y = some (.slice none 0 0)) : Does P ⟨d, .binOp .eql t x y u, ty, pos, af, none⟩ a w (Is (.bool p.isNone) w) :=
  does_value (w' := w) (by
    have h : (Op.equal t (.slice p n k) (.slice none 0 0)).run P w = .ok p.isNone w := run_equal_slice_nil w t e p n k ht
    have h' : (binOp .eql t (.slice p n k) (.slice none 0 0)).run P w = .ok (.bool p.isNone) w := by
      cases p <;> simp [binOp, h]
    simp only [execOp, hE.ev hx, hE.ev hy, eqGuard, Sem.run_bind, Sem.run_pure, Result.andThen_ok, h']
    simp [h']) ⟨rfl, rfl⟩
theorem d_eqM {x y : Operand} {t k e u : TypeId} {p : Option Nat} (ht : P.underlying t = some (.map k e)) (hE : Env a N l) (hx : ev l x = some (.map p)) (hy : ev l y = some (.map none)) : Does P ⟨d, .binOp .eql t x y u, ty, pos, af, none⟩ a w (Is (.bool p.isNone) w) :=
  does_value (w' := w) (by
    have h : (Op.equal t (.map p) (.map none)).run P w = .ok p.isNone w := run_equal_map_nil w t k e p ht
    have h' : (binOp .eql t (.map p) (.map none)).run P w = .ok (.bool p.isNone) w := by
      cases p <;> simp [binOp, h]
    simp only [execOp, hE.ev hx, hE.ev hy, eqGuard, Sem.run_bind, Sem.run_pure, Result.andThen_ok, h']
    simp [h']) ⟨rfl, rfl⟩
/-- What make asks of the element's type: its nil in cells. -/
structure EltZ (P : Program) (t e : TypeId) (cs : List Value) (bytes : Nat) : Prop where mk ::
  ut : P.underlying t = some (.slice e)
  info : (P.info? e).map (fun i => (i.zero.map fun z => z.cells.toList, i.size, i.bytes)) = some (some cs, cs.length, bytes)
theorem EltZ.parts {t e : TypeId} {cs : List Value} {bytes : Nat} (h : EltZ P t e cs bytes) : ∃ i z, P.info? e = some i ∧ i.zero = some z ∧ i.size = cs.length ∧ i.bytes = bytes ∧ z.cells = cs.toArray := by
  obtain ⟨i, hi, e⟩ := Option.map_eq_some_iff.1 h.info
  simp only [Prod.mk.injEq] at e
  obtain ⟨z, hz, e1⟩ := Option.map_eq_some_iff.1 e.1
  exact ⟨i, z, hi, hz, e.2.1, e.2.2, by rw [← e1]⟩
theorem d_make {t e lim bytes : Nat} {x y : Operand} {n : Int} {cs : List Value} {x0 : α} (hT : EltZ P t e cs bytes) (hr : c.rd I cs x0) (h0 : 0 < c.n)
    (hlim : lim * bytes ≤ 281474976710656) (hl2 : lim ≤ 9223372036854775807) (hE : Env a N l) (hx : ev l x = some (.int .i64 n)) (hy : ev l y = some (.int .i64 n)) (hm : mkl lim n x0 = some xs) (H : St z I w r) :
    Does P ⟨d, .makeSlice t x y, ty, pos, af, none⟩ a w (fun v' w' => St z I w' (OwnSl c v' xs :: r)) := by
  obtain ⟨rfl, hn0, hn1⟩ := mkl_some hm
  obtain ⟨i, zv, hi, hz, hs, hby, hzc⟩ := hT.parts
  have hb : (i.bytes : Int) * n ≤ 281474976710656 := by
    rw [hby]
    have h1 : (bytes : Int) * n ≤ (bytes : Int) * (lim : Int) := Int.mul_le_mul_of_nonneg_left hn1 (by omega)
    have h2 : (bytes : Int) * (lim : Int) ≤ 281474976710656 := by
      have := Int.ofNat_le.2 hlim
      rw [Int.natCast_mul] at this; rw [Int.mul_comm]; exact this
    omega
  have hrun := run_make (P := P) w t e i zv hT.ut hi hz .i64 .i64 n n hn0 (Int.le_refl _) hb (by omega)
  have hcl : cs.length = c.n := c.len hr
  refine does_value (w' := (w.alloc (.cells (madeCells zv.cells (n.toNat * i.size)) e))) (v := .slice (some (ad w.heap.size 0)) n.toNat n.toNat) (by simp only [execOp, hE.ev hx, hE.ev hy, Sem.run_bind, hrun, Result.andThen_ok, Sem.run_pure]; rfl) ?_
  have hb' : St z I (w.alloc (.cells (madeCells zv.cells (n.toNat * i.size)) e)) (Bl w.heap.size e (madeCells zv.cells (n.toNat * i.size)).toList :: r) := H.alloc _
  refine hb'.row (c := c) (n := n.toNat) (by simp [size_madeCells, hs, hcl]) (by simp) fun J _ iJ _ q x hq => ?_
  have hq' : q < n.toNat := by
    have := (List.getElem?_eq_some_iff.1 hq).1
    simpa using this
  have hx0 : x = x0 := by simp [hq'] at hq; exact hq.symm
  subst hx0
  refine ⟨cs, fun j u hj => ?_, c.mono iJ hr⟩
  rw [hs, hzc, ← hcl]
  simpa using made_get cs n.toNat q j u (by omega) hq' hj
/-- A cut of a slice value. -/
theorem run_cut {t e : TypeId} {A : Option Addr} {n cap : Nat} {lo hi : Int} (ht : Slc P t e c.n) (x : Value) (lov hiv : Option Value) (hx : x = .slice A n cap) (hlo : lov = some (.int .i64 lo) ∨ (lov = none ∧ lo = 0)) (hhi : hiv = some (.int .i64 hi) ∨ (hiv = none ∧ hi = n)) (h0 : 0 ≤ lo) (h1 : lo ≤ hi) (h2 : hi ≤ n) (hc : n ≤ cap) :
    (Instr.sliceAt t x lov hiv none).run P w = .ok (sliced A lo.toNat hi.toNat cap c.n) w := by
  have he : P.elem t = e := by simp [Program.elem, ht.1]
  have ht' : P.underlying t = some (.slice (P.elem t)) := by rw [he]; exact ht.1
  subst hx
  rw [run_sliceAt_slice w t _ _ _ _ ht']
  rcases hlo with rfl | ⟨rfl, rfl⟩ <;> rcases hhi with rfl | ⟨rfl, rfl⟩
  · rw [run_slice_lh w t A n cap ht' .i64 .i64 lo hi h0 h1 (by omega), he, ht.2 w]; rfl
  · rw [run_slice_l w t A n cap ht' .i64 lo h0 (by omega), he, ht.2 w]; simp [Result.andThen]
  · rw [run_slice_h w t A n cap ht' .i64 hi (by omega) (by omega), he, ht.2 w]; simp [Result.andThen]
  · rw [run_slice_all w t A n cap ht', he, ht.2 w]; simp [Result.andThen]
theorem own_cut {lo hi : Int} (h0 : 0 ≤ lo) (h1 : lo ≤ hi) (h2 : hi ≤ xs.length) {A : Option Addr} {n cap : Nat} (hv : v = .slice A n cap) (H : St z I w (OwnSl c v xs :: r)) : St z I w (OwnSl c (sliced A lo.toNat hi.toNat cap c.n) ((xs.take hi.toNat).drop lo.toNat) :: r) := by
  subst hv
  rcases H.own_cases with ⟨rfl, B, e⟩ | ⟨b, k, cap', cells, T, e, p1, p2, H1⟩
  · cases e
    have h2' : hi ≤ 0 := by simpa using h2
    have hhi : hi = 0 := by omega
    have hlo : lo = 0 := by omega
    subst hhi; subst hlo
    simp only [sliced]
    simpa using H
  · cases e
    have hlen : ((xs.take hi.toNat).drop lo.toNat).length = hi.toNat - lo.toNat := by simp; omega
    by_cases hcap : cap = lo.toNat
    · have hz0 : hi.toNat - lo.toNat = 0 := by omega
      refine (H1.drop.drop).own_nil (A := some (ad b k)) ?_ (List.eq_nil_of_length_eq_zero (by rw [hlen, hz0]))
      simp [sliced, hcap, hz0]
    · refine St.own_intro (b := b) (k := k + lo.toNat * c.n) (cap := cap - lo.toNat) (cells := cells) (T := T) ?_ (by rw [hlen]; omega) ?_ (H1.pu_map1 fun J _ hx i x hi' => ?_)
      · simp only [sliced, if_neg hcap, Option.map_some, ad_add, hlen]
      · rw [Nat.sub_mul]
        have : lo.toNat * c.n ≤ cap * c.n := Nat.mul_le_mul_right _ (by omega)
        omega
      · have hx' : xs[lo.toNat + i]? = some x := by
          rw [List.getElem?_drop] at hi'
          rw [List.getElem?_take] at hi'
          split at hi'
          · exact hi'
          · cases hi'
        obtain ⟨cs, a1, a2⟩ := hx _ x hx'
        refine ⟨cs, ?_, a2⟩
        rw [show k + lo.toNat * c.n + i * c.n = k + (lo.toNat + i) * c.n from by rw [Nat.add_mul]; omega]; exact a1
theorem rd_cut {I h : Hp} {lo hi : Int} (h0 : 0 ≤ lo) (h1 : lo ≤ hi) (h2 : hi ≤ xs.length) (H : RdSl c I h v xs) : RdSl c I h (slv c.n v lo hi) ((xs.take hi.toNat).drop lo.toNat) := by
  obtain ⟨A, cap, rfl, hle⟩ := H.form
  have hlen : ((xs.take hi.toNat).drop lo.toNat).length = hi.toNat - lo.toNat := by simp; omega
  refine ⟨⟨if cap = lo.toNat then A else A.map (·.add (lo.toNat * c.n)), cap - lo.toNat, by simp only [slv, sliced, hlen], by rw [hlen]; omega⟩, fun i x hx => ?_⟩
  have hlt := (List.getElem?_eq_some_iff.1 hx).1
  rw [hlen] at hlt
  have hx' : xs[lo.toNat + i]? = some x := by
    rw [List.getElem?_drop, List.getElem?_take] at hx
    split at hx
    · exact hx
    · cases hx
  obtain ⟨B, n', cap', cells, t, fr, e, hs, hh, cs, a1, a2⟩ := H.cells _ x hx'
  cases e
  have hB : B = ad B.block B.off := by cases B; simp only [ad] at *; subst hs; rfl
  refine ⟨B.add (lo.toNat * c.n), hi.toNat - lo.toNat, cap - lo.toNat, cells, t, fr, ?_, ?_, ?_, cs, ?_, a2⟩
  · simp only [slv, sliced, Option.map_some]; rw [if_neg (by omega)]
  · rw [hB, ad_add]; rfl
  · rw [hB, ad_add]; exact hh
  · rw [hB, ad_add]
    show Sec cells (B.off + lo.toNat * c.n + i * c.n) cs
    rw [show B.off + lo.toNat * c.n + i * c.n = B.off + (lo.toNat + i) * c.n from by rw [Nat.add_mul]; omega]; exact a1
theorem Rd.cut {lo hi : Int} {xs' : List α} (hc : cutx xs lo hi = some xs') (H : Rd c I r v xs) : Rd c I r (slv c.n v lo hi) xs' := by
  obtain ⟨rfl, h0, h1, h2⟩ := cutx_some hc
  exact fun J h W a b d s => rd_cut h0 h1 h2 (H J h W a b d s)
theorem St.imCut {lo hi : Int} {xs' : List α} (hc : cutx xs lo hi = some xs') (H : St z I w r) (i : Nat) (hi' : r[i]? = some (ImR c v xs)) : St z I w (ImR c (slv c.n v lo hi) xs' :: r) := by
  obtain ⟨rfl, h0, h1, h2⟩ := cutx_some hc
  refine H.dup fun J h _ _ _ s => ?_
  obtain ⟨_, _, p⟩ := s.mem (List.mem_of_getElem? hi')
  exact rd_cut h0 h1 h2 p
theorem d_sliceO {x : Operand} {lox hix : Option Operand} {t e : TypeId} {lo hi : Int} (ht : Slc P t e c.n) (hE : Env a N l) (hx : ev l x = some v) (hlo : (∃ y, lox = some y ∧ ev l y = some (.int .i64 lo)) ∨ (lox = none ∧ lo = 0)) (hhi : (∃ y, hix = some y ∧ ev l y = some (.int .i64 hi)) ∨ (hix = none ∧ hi = xs.length))
    (hc : cutx xs lo hi = some ys) (H : St z I w (OwnSl c v xs :: r)) : Does P ⟨d, .slice t x lox hix none, ty, pos, af, none⟩ a w (fun v' w' => St z I w' (OwnSl c v' ys :: r)) := by
  obtain ⟨rfl, h0, h1, h2⟩ := cutx_some hc
  obtain ⟨J, _, _, hrd⟩ := (Rd.own (r := OwnSl c v xs :: r) 0 rfl).st H
  obtain ⟨A, cap, rfl, hle⟩ := hrd.form
  have hr := run_cut (P := P) (w := w) (lo := lo) (hi := hi) ht (a.eval x) (lox.map a.eval) (hix.map a.eval) (hE.ev hx) (by rcases hlo with ⟨y, rfl, hy⟩ | ⟨rfl, h⟩ <;> simp [*, hE.ev]) (by rcases hhi with ⟨y, rfl, hy⟩ | ⟨rfl, h⟩ <;> simp [*, hE.ev]) h0 h1 h2 hle
  exact does_value (w' := w) (by simp only [execOp, Option.map_none, Sem.run_bind, hr, Result.andThen_ok, Sem.run_pure]) (own_cut h0 h1 h2 rfl H)
theorem d_sliceR {x : Operand} {lox hix : Option Operand} {t e : TypeId} {lo hi : Int} (ht : Slc P t e c.n) (hE : Env a N l) (hx : ev l x = some v) (hlo : (∃ y, lox = some y ∧ ev l y = some (.int .i64 lo)) ∨ (lox = none ∧ lo = 0)) (hhi : (∃ y, hix = some y ∧ ev l y = some (.int .i64 hi)) ∨ (hix = none ∧ hi = xs.length))
    (hc : cutx xs lo hi = some ys) (H : St z I w r) (hr : Rd c I r v xs) : Does P ⟨d, .slice t x lox hix none, ty, pos, af, none⟩ a w (Is (slv c.n v lo hi) w) := by
  obtain ⟨rfl, h0, h1, h2⟩ := cutx_some hc
  obtain ⟨J, _, _, hrd⟩ := hr.st H
  obtain ⟨A, cap, rfl, hle⟩ := hrd.form
  have hr := run_cut (P := P) (w := w) (lo := lo) (hi := hi) ht (a.eval x) (lox.map a.eval) (hix.map a.eval) (hE.ev hx) (by rcases hlo with ⟨y, rfl, hy⟩ | ⟨rfl, h⟩ <;> simp [*, hE.ev]) (by rcases hhi with ⟨y, rfl, hy⟩ | ⟨rfl, h⟩ <;> simp [*, hE.ev]) h0 h1 h2 hle
  exact does_value (w' := w) (v := sliced A lo.toNat hi.toNat cap c.n) (by simp only [execOp, Option.map_none, Sem.run_bind, hr, Result.andThen_ok, Sem.run_pure]) ⟨rfl, rfl⟩
/-- A store into a row of one's own: j cells off the begin of the i-th element. -/
theorem st_core {t n : Nat} {i : Int} {x x' : α} {j : Nat} {u : Value} (ht : ∀ w : World, (sizeOf t).run P w = .ok n w) (hn : u.cells.size = n) (h1 : ∀ q ∈ u.cells.toList, q.oneCell' = true) (hj : j + n ≤ c.n) (hx : rdx xs i = some x)
    (hc : ∀ J h : Hp, I.le J → Sat J (OwnSl c v xs :: r) h → ∀ cs, c.rd J cs x → c.rd J (setL cs j u.cells.toList) x') (H : St z I w (OwnSl c v xs :: r)) :
    ∃ w', (Instr.storeAt t (.pointer (some (ad (sb v) (so v + i.toNat * c.n + j)))) u).run P w = .ok () w' ∧ St z I w' (OwnSl c v (xs.set i.toNat x') :: r) := by
  obtain ⟨h0, hlt, hxi⟩ := rdx_some hx
  have HC : St z I w (Pu (fun J => ∀ J', J.le J' → ∀ cs, c.rd J' cs x → c.rd J' (setL cs j u.cells.toList) x') (fun hI h J' hJ => h J' (hI.le_trans hJ)) :: OwnSl c v xs :: r) :=
    H.dup fun J h iJ _ _ s J' hJ => hc J' h (iJ.le_trans hJ) (s.mono hJ (Hp.le_refl _))
  rcases (HC.get 1 rfl).own_cases with ⟨rfl, B, e⟩ | ⟨b, k, cap, cells, T, rfl, p1, p2, H1⟩
  · cases hxi
  · have hq : i.toNat < xs.length := (List.getElem?_eq_some_iff.1 hxi).1
    have hfit : k + i.toNat * c.n + j + n ≤ cells.length := by
      have : (i.toNat + 1) * c.n ≤ cap * c.n := Nat.mul_le_mul_right _ (by omega)
      rw [Nat.add_mul] at this; omega
    have hnl : u.cells.toList.length = n := by simpa using hn
    obtain ⟨w', hr, e1, e2, e3, e5, e4⟩ := run_storeCells (P := P) u.cells.toList (k + i.toNat * c.n + j) 0 (H1.ob 0 rfl) (by rw [hnl]; omega) h1
    refine ⟨w', ?_, ?_⟩
    · simp [Instr.storeAt, Instr.sureAddr, storeVar, ht w, hn, sb, so, ad] at hr ⊢
      rw [hr]
    · have H2 := H1.put _ e1 e2 e3 (Nat.le_of_eq e5.symm) e4
      simp only [Nat.add_zero] at H2
      have hfit' : k + i.toNat * c.n + j + u.cells.toList.length ≤ cells.length := by rw [hnl]; exact hfit
      have H3 : St z I w' (Rws c cells k xs :: Pu (fun J => ∀ J', J.le J' → ∀ cs, c.rd J' cs x → c.rd J' (setL cs j u.cells.toList) x') (fun hI h J' hJ => h J' (hI.le_trans hJ)) :: Bl b T (setL cells (k + i.toNat * c.n + j) u.cells.toList) :: r) := (H2.get 2 rfl).get 2 rfl
      refine St.own_intro (b := b) (k := k) (cap := cap) (cells := setL cells (k + i.toNat * c.n + j) u.cells.toList) (T := T) (by simp) (by simpa using p1) (by rw [setL_length]; exact p2) (St.get (H3.pu_map2 (u := fun J => ∀ (q : Nat) (y : α), (xs.set i.toNat x')[q]? = some y → ∃ cs, Sec (setL cells (k + i.toNat * c.n + j) u.cells.toList).toArray (k + q * c.n) cs ∧ c.rd J cs y) (o := fun hI h q y hy => let ⟨cs, a, b⟩ := h q y hy; ⟨cs, a, c.mono hI b⟩) fun J _ p4 hc q y hy => ?_) 1 rfl)
      by_cases hqi : q = i.toNat
      · subst hqi
        have hy' : y = x' := by simp [hq] at hy; exact hy.symm
        subst hy'
        obtain ⟨cs, a1, a2⟩ := p4 _ x hxi
        refine ⟨_, fun m q hm => ?_, hc J (Hp.le_refl _) cs a2⟩
        have hcl := c.len a2
        rw [setL_get _ _ _ _ (by rw [hnl]; omega)] at hm
        simp only [List.getElem?_toArray]
        rw [setL_get _ _ _ _ hfit']
        by_cases hin : j ≤ m ∧ m < j + u.cells.toList.length
        · rw [if_pos hin] at hm
          rw [if_pos (by omega), ← hm]; congr 1; omega
        · rw [if_neg hin] at hm
          rw [if_neg (by omega)]
          have := a1 m q hm
          simpa using this
      · rw [List.getElem?_set_ne (fun e => hqi e.symm)] at hy
        obtain ⟨cs, a1, a2⟩ := p4 q y hy
        refine ⟨cs, fun m q' hm => ?_, a2⟩
        have hml : m < c.n := by rw [← c.len a2]; exact (List.getElem?_eq_some_iff.1 hm).1
        have := a1 m q' hm
        simp only [List.getElem?_toArray] at this ⊢
        rw [setL_get _ _ _ _ hfit', if_neg ?_]
        · exact this
        · rw [hnl]
          rcases Nat.lt_or_gt_of_ne hqi with hlt' | hgt
          · have : (q + 1) * c.n ≤ i.toNat * c.n := Nat.mul_le_mul_right _ hlt'
            rw [Nat.add_mul] at this; omega
          · have : (i.toNat + 1) * c.n ≤ q * c.n := Nat.mul_le_mul_right _ hgt
            rw [Nat.add_mul] at this; omega
theorem d_storeS {x y : Operand} {t n : Nat} {i : Int} {e e' : α} {u : Value} (ht : ∀ w : World, (sizeOf t).run P w = .ok n w) (hE : Env a N l) (hx : ev l x = some (.pointer (some (ad (sb v) (so v + i.toNat * c.n))))) (hy : ev l y = some u)
    (hn : u.cells.size = n) (h1 : ∀ q ∈ u.cells.toList, q.oneCell' = true) (hj : c.n = n) (hi : rdx xs i = some e) (hc : ∀ J h : Hp, I.le J → Sat J (OwnSl c v xs :: r) h → c.rd J u.cells.toList e') (H : St z I w (OwnSl c v xs :: r)) :
    Does P ⟨d, .store t x y, ty, pos, af, none⟩ a w (fun _ w' => St z I w' (OwnSl c v (xs.set i.toNat e') :: r)) := by
  obtain ⟨w', hr, H'⟩ := st_core (j := 0) (x' := e') ht hn h1 (by omega) hi (fun J h iJ s cs hcs => by
    have : setL cs 0 u.cells.toList = u.cells.toList := by
      have hl := c.len hcs
      have hul : u.cells.toList.length = n := by simpa using hn
      apply List.ext_getElem?
      intro q
      rw [setL_get _ _ _ _ (by omega)]
      by_cases hq : q < n
      · rw [if_pos (by omega), Nat.sub_zero]
      · rw [if_neg (by omega), List.getElem?_eq_none (by omega), List.getElem?_eq_none (by omega)]
    rw [this]; exact hc J h iJ s) H
  exact does_skip (w' := w') (by simp [execOp, hE.ev hx, hE.ev hy] at hr ⊢; rw [hr]; rfl) H'
theorem d_storeSf {x y : Operand} {t n : Nat} {i : Int} {e e' : α} {u : Value} {j : Nat} (ht : ∀ w : World, (sizeOf t).run P w = .ok n w) (hE : Env a N l) (hx : ev l x = some (.pointer (some (ad (sb v) (so v + i.toNat * c.n + j))))) (hy : ev l y = some u)
    (hn : u.cells.size = n) (h1 : ∀ q ∈ u.cells.toList, q.oneCell' = true) (hj : Nat.ble (j + n) c.n = true) (hi : rdx xs i = some e) (hc : ∀ J h : Hp, I.le J → Sat J (OwnSl c v xs :: r) h → ∀ cs, c.rd J cs e → c.rd J (setL cs j u.cells.toList) e') (H : St z I w (OwnSl c v xs :: r)) :
    Does P ⟨d, .store t x y, ty, pos, af, none⟩ a w (fun _ w' => St z I w' (OwnSl c v (xs.set i.toNat e') :: r)) := by
  obtain ⟨w', hr, H'⟩ := st_core (j := j) (x' := e') ht hn h1 (by simpa [Nat.ble_eq] using hj) hi hc H
  exact does_skip (w' := w') (by simp [execOp, hE.ev hx, hE.ev hy] at hr ⊢; rw [hr]; rfl) H'
end
end Go.Proofs.Ytbielnhpfbhkgaa
