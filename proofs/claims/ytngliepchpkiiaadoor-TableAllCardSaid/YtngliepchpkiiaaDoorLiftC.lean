/- Lift, part C: frames, operations one by one. -/
import Derived.Test.YtngliepchpkiiaaDoorLiftB
import Derived.Laws.Strings
import Derived.Laws.Concat
import Derived.Laws.Entries
import Derived.Laws.Cover1
import Derived.WideLaws
namespace Go.Lift
open Go.RowKit

abbrev Fr := List (Nat × AV)

structure FRel (n : Nat) (g : Gh) (w : World) (a : Act) (fr : Fr) : Prop where
  size : a.tmps.size = n
  defers : a.defers = []
  get : ∀ i v, fr.lookup i = some v → Reads g w (a.tmps.getD i undef) v

theorem FRel.mono {n : Nat} {g g' : Gh} {w w' : World} {a : Act} {fr : Fr} (hl : GLe g w g' w') (h : FRel n g w a fr) : FRel n g' w' a fr :=
  ⟨h.size, h.defers, fun i v hi => (h.get i v hi).mono hl⟩

def setf (dst : Option Tmp) (v : AV) (fr : Fr) : Fr :=
  match dst with
  | some d => (d, v) :: fr
  | none => fr

def dstOk (n : Nat) (dst : Option Tmp) : Bool :=
  match dst with
  | some d => d < n
  | none => true

theorem FRel.put {n : Nat} {g : Gh} {w : World} {a : Act} {fr : Fr} (h : FRel n g w a fr) {dst : Option Tmp} (hd : dstOk n dst = true) {v : Value} {av : AV} (hv : Reads g w v av) :
    FRel n g w (a.put dst v) (setf dst av fr) := by
  cases dst with
  | none => exact h
  | some d =>
    have hd' : d < n := by simpa [dstOk] using hd
    refine ⟨by simp [Act.put, h.size], h.defers, fun i u hi => ?_⟩
    simp only [setf, List.lookup_cons] at hi
    by_cases e : i = d
    · subst e
      simp at hi
      subst hi
      have : (a.tmps.setIfInBounds i v).getD i undef = v := by
        rw [Array.getD_eq_getD_getElem?, Array.getElem?_setIfInBounds]
        simp [h.size, hd']
      simpa [Act.put, this] using hv
    · have hb : (i == d) = false := by simpa using e
      rw [hb] at hi
      have : (a.tmps.setIfInBounds d v).getD i undef = a.tmps.getD i undef := by
        rw [Array.getD_eq_getD_getElem?, Array.getD_eq_getD_getElem?, Array.getElem?_setIfInBounds]
        simp [Ne.symm e]
      simpa [Act.put, this] using h.get i u hi

/-- Operand x reads as v. -/
def AEv (fr : Fr) (x : Operand) (v : AV) : Prop := ∀ n g w a, FRel n g w a fr → Reads g w (a.eval x) v

theorem AEv.tmp {fr : Fr} {t : Tmp} {v : AV} (h : fr.lookup t = some v) : AEv fr (.tmp t) v := fun _ _ _ _ hf => hf.get t v h
theorem AEv.int {fr : Fr} (k : IntKind) (n : Int) : AEv fr (.const (.int k n)) (.int k n) := fun _ _ _ _ _ => .int k n
theorem AEv.bool {fr : Fr} (b : Bool) : AEv fr (.const (.bool b)) (.bool b) := fun _ _ _ _ _ => .bool b
theorem AEv.str {fr : Fr} (s : List UInt8) : AEv fr (.const (.string ⟨s.toArray⟩)) (.str s) := fun _ _ _ _ _ => .str s
theorem AEv.nil {fr : Fr} (sz : Nat) (hz : 0 < sz) : AEv fr (.const (.slice none 0 0)) (.sl .full sz []) := fun _ g w _ _ => AV.Le.nilSlice sz hz g w _ (.lit _)
theorem AEv.nilp {fr : Fr} : AEv fr (.const (.pointer none)) .nilp := fun _ _ _ _ _ => .nilp
theorem AEv.rpn {fr : Fr} (o : Nat) : AEv fr (.const (.pointer none)) (.rp o none) := fun _ _ _ _ _ => .rpn o
theorem AEv.rsn {fr : Fr} (o : Nat) : AEv fr (.const (.slice none 0 0)) (.rs o none) := fun _ _ _ _ _ => .rsn o
theorem AEv.lit {fr : Fr} (v : Value) : AEv fr (.const v) (.lit v) := fun _ _ _ _ _ => .lit v
theorem AEv.func {fr : Fr} (f : FuncId) : AEv fr (.func f) (.fn f []) := fun _ _ _ _ _ => .fn rfl (fun j hj => absurd hj (Nat.not_lt_zero j))
theorem AEv.le {fr : Fr} {x : Operand} {v u : AV} (h : AEv fr x v) (hl : v.Le u) : AEv fr x u := fun n g w a hf => hl g w _ (h n g w a hf)
theorem AEv.un {fr : Fr} {x : Operand} : AEv fr x .un := fun _ _ _ _ _ => .un _

/-- wpList with what follows. -/
def wpListK (P : Program) (ops : Array Oper) (Q : Exit → Act → World → Prop) (K : Act → World → Prop) : List Oper → Act → World → Prop
  | [], a, w => K a w
  | o :: rest, a, w => if Region.wanted o (yielded ops a.tmps) then o.wp P a w (wpListK P ops Q K rest) Q ∨ (o.asks P a w ∧ LetsOut Q) else wpListK P ops Q K rest (a.put o.dst undef) w

/-- The operations of a list, one behind the other, in the order of the text. -/
def AOps (P : Program) (n : Nat) (ops : Array Oper) (l : List Oper) (fr : Fr) (st : St) (K : Fr → St → Prop) : Prop :=
  ∀ (E : Env) (F : St) (a : Act) (w : World) (g : Gh) (Q : Exit → Act → World → Prop) (next : Act → World → Prop), FRel n g w a fr → Rel E (st ++ F) g w →
    (∀ fr' st' a' w' g', K fr' st' → FRel n g' w' a' fr' → Rel E (st' ++ F) g' w' → GLe g w g' w' → next a' w') → wpListK P ops Q next l a w

/-- One operation. -/
def AOp (P : Program) (n : Nat) (o : Oper) (fr : Fr) (st : St) (k : AV → St → Prop) : Prop :=
  ∀ (E : Env) (F : St) (a : Act) (w : World) (g : Gh) (next : Act → World → Prop) (Q : Exit → Act → World → Prop), FRel n g w a fr → Rel E (st ++ F) g w →
    (∀ v av st' w' g', k av st' → Reads g' w' v av → Rel E (st' ++ F) g' w' → GLe g w g' w' → next (a.put o.dst v) w') → o.wp P a w next Q

section
variable {P : Program} {n : Nat} {ops : Array Oper} {o : Oper} {l l1 l2 : List Oper} {fr : Fr} {st : St} {K : Fr → St → Prop} {k : AV → St → Prop}

theorem aops_nil (h : K fr st) : AOps P n ops [] fr st K :=
  fun _ _ a w g _ _ hf hr hq => hq fr st a w g h hf hr (GLe.refl _ _)

theorem AOps.mono {K' : Fr → St → Prop} (h : AOps P n ops l fr st K) (hk : ∀ fr st, K fr st → K' fr st) : AOps P n ops l fr st K' :=
  fun E F a w g Q next hf hr hq => h E F a w g Q next hf hr (fun fr' st' a' w' g' k => hq fr' st' a' w' g' (hk _ _ k))

theorem AOp.mono {k' : AV → St → Prop} (h : AOp P n o fr st k) (hk : ∀ v st, k v st → k' v st) : AOp P n o fr st k' :=
  fun E F a w g next Q hf hr hq => h E F a w g next Q hf hr (fun v av st' w' g' kk => hq v av st' w' g' (hk _ _ kk))

theorem aops_cons (hg : o.guard = none) (hd : dstOk n o.dst = true)
    (h : AOp P n o fr st (fun v st' => AOps P n ops l (setf o.dst v fr) st' K)) : AOps P n ops (o :: l) fr st K := by
  intro E F a w g Q next hf hr hq
  simp only [wpListK]
  rw [if_pos (by simp [Region.wanted, hg])]
  refine .inl (h E F a w g _ Q hf hr fun v av st' w' g' k hv hr' hl => ?_)
  exact k E F _ w' g' Q next ((hf.mono hl).put hd hv) hr' (fun fr2 st2 a2 w2 g2 kk hf2 hr2 hl2 => hq fr2 st2 a2 w2 g2 kk hf2 hr2 (hl.trans hl2))

theorem yielded_of {g : Gh} {w : World} {a : Act} {j : Nat} {oj : Oper} {t : Tmp} {b : Bool} (hf : FRel n g w a fr) (hj : ops[j]? = some oj) (ht : oj.dst = some t) (hn : t < n)
    (hb : fr.lookup t = some (.bool b)) : yielded ops a.tmps j = some b := by
  have h := hf.get t _ hb
  have hs : t < a.tmps.size := by rw [hf.size]; exact hn
  rw [Array.getD_eq_getD_getElem?, Array.getElem?_eq_getElem hs] at h
  simp only [Option.getD_some] at h
  simp only [yielded, hj, Option.bind_some, ht, Array.getElem?_eq_getElem hs]
  cases h' : a.tmps[t] with
  | bool b' => rw [h'] at h; cases h; rfl
  | _ => rw [h'] at h; cases h

/-- A guarded operation that is wanted. -/
theorem aops_guard {j : Nat} {b : Bool} {oj : Oper} {t : Tmp} (hg : o.guard = some (j, b)) (hj : ops[j]? = some oj) (ht : oj.dst = some t) (hn : t < n) (hb : fr.lookup t = some (.bool b)) (hd : dstOk n o.dst = true)
    (h : AOp P n o fr st (fun v st' => AOps P n ops l (setf o.dst v fr) st' K)) : AOps P n ops (o :: l) fr st K := by
  intro E F a w g Q next hf hr hq
  simp only [wpListK]
  rw [if_pos (by simp [Region.wanted, hg, yielded_of hf hj ht hn hb])]
  refine .inl (h E F a w g _ Q hf hr fun v av st' w' g' k hv hr' hl => ?_)
  exact k E F _ w' g' Q next ((hf.mono hl).put hd hv) hr' (fun fr2 st2 a2 w2 g2 kk hf2 hr2 hl2 => hq fr2 st2 a2 w2 g2 kk hf2 hr2 (hl.trans hl2))

/-- A guarded operation that is not wanted. -/
theorem aops_pass {j : Nat} {b c : Bool} {oj : Oper} {t : Tmp} (hg : o.guard = some (j, c)) (hj : ops[j]? = some oj) (ht : oj.dst = some t) (hn : t < n) (hb : fr.lookup t = some (.bool b)) (hbc : c ≠ b) (hd : dstOk n o.dst = true)
    (h : AOps P n ops l (setf o.dst (.lit undef) fr) st K) : AOps P n ops (o :: l) fr st K := by
  intro E F a w g Q next hf hr hq
  simp only [wpListK]
  rw [if_neg (by simp [Region.wanted, hg, yielded_of hf hj ht hn hb, Ne.symm hbc])]
  exact h E F _ w g Q next (hf.put hd (.lit _)) hr hq

theorem yielded_not {g : Gh} {w : World} {a : Act} {j : Nat} {oj : Oper} {t : Tmp} (hf : FRel n g w a fr) (hj : ops[j]? = some oj) (ht : oj.dst = some t) (hn : t < n)
    (hb : fr.lookup t = some (.lit undef)) : yielded ops a.tmps j = none := by
  have h := hf.get t _ hb
  have hs : t < a.tmps.size := by rw [hf.size]; exact hn
  rw [Array.getD_eq_getD_getElem?, Array.getElem?_eq_getElem hs] at h
  simp only [Option.getD_some] at h
  simp only [yielded, hj, Option.bind_some, ht, Array.getElem?_eq_getElem hs]
  cases h' : a.tmps[t] with
  | bool b' => rw [h'] at h; cases h
  | _ => rfl

/-- A guarded operation whose guard was not carried out. -/
theorem aops_pass2 {j : Nat} {c : Bool} {oj : Oper} {t : Tmp} (hg : o.guard = some (j, c)) (hj : ops[j]? = some oj) (ht : oj.dst = some t) (hn : t < n) (hb : fr.lookup t = some (.lit undef)) (hd : dstOk n o.dst = true)
    (h : AOps P n ops l (setf o.dst (.lit undef) fr) st K) : AOps P n ops (o :: l) fr st K := by
  intro E F a w g Q next hf hr hq
  simp only [wpListK]
  rw [if_neg (by simp [Region.wanted, hg, yielded_not hf hj ht hn hb])]
  exact h E F _ w g Q next (hf.put hd (.lit _)) hr hq

/-! ### Operations -/

theorem AOp.of_run (h : ∀ (E : Env) (F : St) (a : Act) (w : World) (g : Gh), FRel n g w a fr → Rel E (st ++ F) g w →
    ∃ v w' g' av st', (execOp a.eval o).run P w = .ok (.value v) w' ∧ k av st' ∧ Reads g' w' v av ∧ Rel E (st' ++ F) g' w' ∧ GLe g w g' w') : AOp P n o fr st k := by
  intro E F a w g next Q hf hr hq
  obtain ⟨v, w', g', av, st', h1, h2, h3, h4, h5⟩ := h E F a w g hf hr
  show Oper.upon P o a next Q _
  rw [h1]
  exact hq v av st' w' g' h2 h3 h4 h5

/-- An operation that leaves the world alone. -/
theorem AOp.of_pure (av : AV) (h : ∀ (E : Env) (F : St) (a : Act) (w : World) (g : Gh), FRel n g w a fr → Rel E (st ++ F) g w → ∃ v, (execOp a.eval o).run P w = .ok (.value v) w ∧ Reads g w v av) (hk : k av st) : AOp P n o fr st k :=
  AOp.of_run fun E F a w g hf hr => let ⟨v, h1, h2⟩ := h E F a w g hf hr; ⟨v, w, g, av, st, h1, hk, h2, hr, GLe.refl _ _⟩

/-- An operation that looks at no memory. -/
def APure (P : Program) (n : Nat) (o : Oper) (fr : Fr) (av : AV) : Prop :=
  ∀ (a : Act) (w : World) (g : Gh), FRel n g w a fr → ∃ v, (∀ W, (execOp a.eval o).run P W = .ok (.value v) W) ∧ Reads g w v av

theorem APure.op {av : AV} (h : APure P n o fr av) (hk : k av st) : AOp P n o fr st k :=
  AOp.of_pure av (fun E F a w g hf _ => let ⟨v, h1, h2⟩ := h a w g hf; ⟨v, h1 w, h2⟩) hk

theorem aops_pure {av : AV} (hg : o.guard = none) (hd : dstOk n o.dst = true) (hp : APure P n o fr av) (h : AOps P n ops l (setf o.dst av fr) st K) : AOps P n ops (o :: l) fr st K :=
  aops_cons hg hd (hp.op h)

/-- An operation that ends without a value. -/
theorem AOp.of_skip (h : ∀ (E : Env) (F : St) (a : Act) (w : World) (g : Gh), FRel n g w a fr → Rel E (st ++ F) g w →
    ∃ w' g' st', (execOp a.eval o).run P w = .ok .skip w' ∧ k .un st' ∧ Rel E (st' ++ F) g' w' ∧ GLe g w g' w') : AOp P n o fr st k := by
  intro E F a w g next Q hf hr hq
  obtain ⟨w', g', st', h1, h2, h4, h5⟩ := h E F a w g hf hr
  show Oper.upon P o a next Q _
  rw [h1]
  exact hq undef .un st' w' g' h2 (.un _) h4 h5

theorem pu_move {x : Operand} {v : AV} (ho : o.op = .move x) (hx : AEv fr x v) : APure P n o fr v :=
  fun a w g hf => ⟨a.eval x, fun W => by simp [execOp, ho], hx n g w a hf⟩

theorem pu_assign {x : Operand} {v : AV} (ho : o.op = .assign x) (hx : AEv fr x v) : APure P n o fr v :=
  fun a w g hf => ⟨a.eval x, fun W => by simp [execOp, ho], hx n g w a hf⟩

theorem pu_pick {c x y : Operand} {b : Bool} {v : AV} (ho : o.op = .pick c x y) (hc : AEv fr c (.bool b)) (hx : b = true → AEv fr x v) (hy : b = false → AEv fr y v) : APure P n o fr v :=
  fun a w g hf => by
    have hcb := hc n g w a hf
    generalize hcv : a.eval c = cv at hcb
    cases hcb
    cases b with
    | true => exact ⟨a.eval x, fun W => by simp [execOp, ho, hcv, asBool], hx rfl n g w a hf⟩
    | false => exact ⟨a.eval y, fun W => by simp [execOp, ho, hcv, asBool], hy rfl n g w a hf⟩

theorem pu_extract {x : Operand} {i : Nat} {vs : List AV} {v : AV} (ho : o.op = .extract x i) (hx : AEv fr x (.tup vs)) (hi : i < vs.length) (hv : vs.getD i .un = v) : APure P n o fr v :=
  fun a w g hf => by
    have h := hx n g w a hf
    generalize hcv : a.eval x = cv at h
    cases h with
    | tup hs hr =>
      rename_i cs
      have hi' : i < cs.size := by rw [hs]; exact hi
      refine ⟨cs.getD i undef, fun W => ?_, hv ▸ hr i hi⟩
      simp [execOp, ho, hcv, Instr.extract, Array.getElem?_eq_getElem hi', Array.getD_eq_getD_getElem?]

end
end Go.Lift
