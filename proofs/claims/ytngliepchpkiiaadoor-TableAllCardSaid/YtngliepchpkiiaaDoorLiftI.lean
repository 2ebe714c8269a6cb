/- Lift, part I: append, calls, functions, code. -/
import Derived.Test.YtngliepchpkiiaaDoorLiftH
import Derived.Test.YtngliepchpkiiaaDoorLiftCR
namespace Go.Lift
open Go.RowKit

theorem info_of_run {P : Program} {t : TypeId} {i : TypeInfo} (h : ∀ w, (typeInfo t).run P w = .ok i w) : P.info? t = some i := by
  have := h default
  unfold typeInfo at this
  simp only [Sem.run_bind] at this
  have hp : (program : Sem Program).run P default = .ok P default := rfl
  rw [hp] at this
  simp only [Result.andThen_ok] at this
  cases hi : P.info? t with
  | none => rw [hi] at this; cases this
  | some j => rw [hi] at this; injection this with h1; rw [h1]

def ArgsOk (fr : Fr) : List Operand → List AV → Prop
  | [], [] => True
  | x :: xs, v :: vs => AEv fr x v ∧ ArgsOk fr xs vs
  | _, _ => False

theorem ArgsOk.reads {n : Nat} {fr : Fr} {g : Gh} {w : World} {a : Act} (hf : FRel n g w a fr) : ∀ {xs : List Operand} {vs : List AV}, ArgsOk fr xs vs →
    (xs.map a.eval).length = vs.length ∧ ∀ j, j < vs.length → Reads g w ((xs.map a.eval).getD j undef) (vs.getD j .un)
  | [], [], _ => ⟨rfl, fun j hj => absurd hj (Nat.not_lt_zero j)⟩
  | [], _ :: _, h => h.elim
  | _ :: _, [], h => h.elim
  | x :: xs, v :: vs, h => by
    obtain ⟨h1, h2⟩ := h
    obtain ⟨h4, h5⟩ := ArgsOk.reads hf h2
    refine ⟨by simpa using h4, fun j hj => ?_⟩
    cases j with
    | zero => exact h1 n g w a hf
    | succ j => have := h5 j (by simpa using hj); simpa [List.getD] using this

/-- What a call of a function does: from arguments and objects of one's own to a result and objects. -/
def Spec (P : Program) (f : FuncId) (args : List AV) (H : St) (Q : AV → St → Prop) : Prop :=
  ∀ (E : Env) (F : St) (g : Gh) (w : World) (vs : Array Value), vs.size = args.length → (∀ j, j < args.length → Reads g w (vs.getD j undef) (args.getD j .un)) → Rel E (H ++ F) g w →
    Calls P f vs w fun e w' => ∃ v av H' g', e = .returned v ∧ Q av H' ∧ Reads g' w' v av ∧ Rel E (H' ++ F) g' w' ∧ GLe g w g' w'

theorem Spec.mono {P : Program} {f : FuncId} {args : List AV} {H : St} {Q Q' : AV → St → Prop} (h : Spec P f args H Q) (hq : ∀ v H, Q v H → Q' v H) : Spec P f args H Q' :=
  fun E F g w vs h1 h2 h3 => (h E F g w vs h1 h2 h3).mono fun e w' ⟨v, av, H', g', h4, h5, h6⟩ => ⟨v, av, H', g', h4, hq _ _ h5, h6⟩

section
variable {P : Program} {n : Nat} {ops : Array Oper} {o : Oper} {l l1 l2 : List Oper} {fr : Fr} {st : St} {K : Fr → St → Prop} {k : AV → St → Prop}

/-- append onto a slice whose room is known: nobody has it (full). -/
theorem op_appendF {s x : Operand} {t u e : TypeId} {i : TypeInfo} {z : Value} {d : TypeDesc} {sz : Nat} {xs ys : List AV} (ho : o.op = .call { callee := .builtin .append, args := #[s, x], argTypes := #[t, u] })
    (ht : P.underlying t = some (.slice e)) (hu : P.underlying u = some d) (hd : d = .slice e ∨ d = .string) (hi : ∀ w, (typeInfo e).run P w = .ok i w) (hz : i.zero = some z) (hzs : z.cells.size = i.size) (hsz : i.size = sz)
    (hs : AEv fr s (.sl .full sz xs)) (hx : ∀ n g w a, FRel n g w a fr → Given P g w sz (a.eval x) ys) (hbytes : (xs.length + ys.length) * i.bytes ≤ 140737488355328) (hb0 : 0 < i.bytes)
    (hk : ∀ t', k (.sl (.own t') sz (xs ++ ys)) ((t', .spare) :: st)) : AOp P n o fr st k :=
  AOp.of_run fun E F a w g hf hr => by
    subst hsz
    have hb := hs n g w a hf
    have hg := hx n g w a hf
    generalize hcv : a.eval s = cv at hb
    have h63 : xs.length + ys.length ≤ maxLen := by
      have := Nat.le_mul_of_pos_right (xs.length + ys.length) hb0
      simp only [maxLen]; omega
    cases cv with
    | slice A nn c =>
      obtain ⟨v, w', g', t', h1, h2, h3, h4⟩ := append_core (ty := o.type) ht d hu hd (info_of_run hi) hz hzs hb hg hbytes h63 hr
      exact ⟨v, w', g', _, _, by simp [execOp, ho, resolve, invoke, builtin, hcv, h1], hk t', h2, h3, h4⟩
    | _ => cases hb

/-- append onto a slice whose room is a name's. -/
theorem op_appendO {s x : Operand} {t u e : TypeId} {i : TypeInfo} {z : Value} {d : TypeDesc} {sz tk q : Nat} {xs ys : List AV} (ho : o.op = .call { callee := .builtin .append, args := #[s, x], argTypes := #[t, u] })
    (ht : P.underlying t = some (.slice e)) (hu : P.underlying u = some d) (hd : d = .slice e ∨ d = .string) (hi : ∀ w, (typeInfo e).run P w = .ok i w) (hz : i.zero = some z) (hzs : z.cells.size = i.size) (hsz : i.size = sz)
    (hs : AEv fr s (.sl (.own tk) sz xs)) (hg : st[q]? = some (tk, .spare)) (hx : ∀ n g w a, FRel n g w a fr → Given P g w sz (a.eval x) ys) (hbytes : (xs.length + ys.length) * i.bytes ≤ 140737488355328) (hb0 : 0 < i.bytes)
    (hk : ∀ t', k (.sl (.own t') sz (xs ++ ys)) (st.set q (t', .spare))) : AOp P n o fr st k :=
  AOp.of_run fun E F a w g hf hr => by
    subst hsz
    have hb := hs n g w a hf
    have hgv := hx n g w a hf
    generalize hcv : a.eval s = cv at hb
    have h63 : xs.length + ys.length ≤ maxLen := by
      have := Nat.le_mul_of_pos_right (xs.length + ys.length) hb0
      simp only [maxLen]; omega
    cases cv with
    | slice A nn c =>
      obtain ⟨v, w', g', t', h1, h2, h3, h4⟩ := append_core (ty := o.type) ht d hu hd (info_of_run hi) hz hzs hb hgv hbytes h63 (hr.focus hg)
      exact ⟨v, w', g', _, _, by simp [execOp, ho, resolve, invoke, builtin, hcv, h1], hk t', h2, h3.unfocus hg, h4⟩
    | _ => cases hb

theorem given_sl {fr : Fr} {x : Operand} {tok : Tok} {sz : Nat} {ys : List AV} (hx : AEv fr x (.sl tok sz ys)) : ∀ n g w a, FRel n g w a fr → Given P g w sz (a.eval x) ys := fun n g w a hf => by
  have h := hx n g w a hf
  generalize a.eval x = v at h
  cases v with
  | slice A nn c => exact Given.slice h
  | _ => cases h

/-- A call of a function by its contract. -/
theorem op_call {f : FuncId} {xs : Array Operand} {ts : Array TypeId} {vs : List AV} {H R : St} {Q : AV → St → Prop} (ho : o.op = .call { callee := .value (.func f), args := xs, argTypes := ts })
    (hc : ∀ args w, (callFunc f args).run P w = .ok (.enter f args) w) (hxs : ArgsOk fr xs.toList vs) (hst : st.Perm (H ++ R)) (hs : Spec P f vs H Q) (hk : ∀ v H', Q v H' → k v (H' ++ R)) : AOp P n o fr st k := by
  intro E F a w g next Q' hf hr hq
  obtain ⟨h1, h2⟩ := hxs.reads hf
  have hr' : Rel E (H ++ (R ++ F)) g w := hr.perm (by rw [← List.append_assoc]; exact (hst.append_right F).symm)
  have hcall := hs E (R ++ F) g w (xs.map a.eval) (by simpa using h1) (fun j hj => by have := h2 j hj; simpa [List.getD, Array.getD_eq_getD_getElem?] using this) hr'
  show Oper.upon P o a next Q' _
  have hrun : (execOp a.eval o).run P w = .ok (.enter f (xs.map a.eval)) w := by
    simp [execOp, ho, resolve, Act.eval, Deferred.ofValue, invoke, hc]
  rw [hrun]
  refine Calls.mono hcall ?_
  rintro e w' ⟨v, av, H', g', rfl, h3, h4, h5, h6⟩
  exact hq v av (H' ++ R) w' g' (hk av H' h3) h4 (by rw [List.append_assoc]; exact h5) h6

theorem pu_makeFunc {f : FuncId} {xs : Array Operand} {cs : List AV} (ho : o.op = .makeFunc (.func f) #[] xs) (hxs : ArgsOk fr xs.toList cs) : APure P n o fr (.fn f cs) :=
  fun a w g hf => by
    obtain ⟨h1, h2⟩ := hxs.reads hf
    refine ⟨.func (.func f) #[] (xs.map a.eval), fun W => by simp [execOp, ho, Instr.makeFunc], .fn (by simpa using h1) fun j hj => ?_⟩
    have := h2 j hj
    simpa [List.getD, Array.getD_eq_getD_getElem?] using this

end

/-! ### Code -/
structure Post where
  norm : Fr → St → Prop
  exit : Nat → Fr → St → Prop
  ret : Fr → St → Prop

/-- Where deferred calls of the loops over functions wait: a name, a block each. -/
abbrev Mks := List (Nat × Nat)
def markAbs (D : Nat) : Abs where
  holds _ w bs S := bs = [D] ∧ (∀ k, S k ↔ k = D) ∧ w.heap[D]? = some (.deferred (some []))
  loc := fun h _ hk => ⟨h.1, h.2.1, (hk D ((h.2.1 D).2 rfl)).trans h.2.2⟩
def mkSt (M : Mks) : St := M.map fun x => (x.1, .abs (markAbs x.2))
def mkDf (M : Mks) : List Deferred := M.map fun x => { target := .collected x.2, args := #[] }

/-- Code, from a state to others; top: it stands in no round. -/
def AW (tp : Bool) (P : Program) (n : Nat) (c : Code) (fr : Fr) (st : St) (Q : Post) : Prop :=
  ∀ (ρ : Option Nat), (tp = true → ρ = none) → ∀ (E : Env) (F : St) (M : Mks) (a : Act) (w : World) (g : Gh) (Q' : Exit → Act → World → Prop), FRel n g w a fr → Rel E (st ++ (mkSt M ++ F)) g w →
    (∀ fr' st' M' a' w' g', Q.norm fr' st' → FRel n g' w' a' fr' → Rel E (st' ++ (mkSt M' ++ F)) g' w' → GLe g w g' w' → Q' .normal (wd (mkDf M') a') w') →
    (∀ i fr' st' M' a' w' g', Q.exit i fr' st' → FRel n g' w' a' fr' → Rel E (st' ++ (mkSt M' ++ F)) g' w' → GLe g w g' w' → Q' (.exit i) (wd (mkDf M') a') w') →
    (∀ fr' st' M' a' w' g', Q.ret fr' st' → FRel n g' w' a' fr' → Rel E (st' ++ (mkSt M' ++ F)) g' w' → GLe g w g' w' → Q' .ret (wd (mkDf M') a') w') → c.wpIn (wideR ρ) 9 P Q' (wd (mkDf M) a) w

/-- Less is known. -/
def Weak (fr : Fr) (st : St) (fr' : Fr) (st' : St) : Prop :=
  ∀ n E F a w g, FRel n g w a fr → Rel E (st ++ F) g w → FRel n g w a fr' ∧ Rel E (st' ++ F) g w

def FrLe (fr : Fr) : Fr → Prop
  | [] => True
  | (i, v) :: fr' => AEv fr (.tmp i) v ∧ FrLe fr fr'

theorem FrLe.rel {n : Nat} {fr : Fr} {g : Gh} {w : World} {a : Act} (hf : FRel n g w a fr) : ∀ {fr' : Fr}, FrLe fr fr' → FRel n g w a fr'
  | [], _ => ⟨hf.size, hf.defers, fun i v h => by simp at h⟩
  | (i, v) :: fr', h => by
    have ih := FrLe.rel hf h.2
    refine ⟨hf.size, hf.defers, fun j u hj => ?_⟩
    rw [List.lookup_cons] at hj
    by_cases e : j = i
    · subst e
      simp at hj
      subst hj
      exact h.1 n g w a hf
    · have hb : (j == i) = false := by simpa using e
      rw [hb] at hj
      exact ih.get j u hj

/-- The objects at some places of a store. -/
def StPick (st : St) (is : List Nat) (st' : St) : Prop := is.map (fun i => st[i]?) = st'.map some

theorem nodup_map_inj {α β : Type} {f : α → β} : ∀ {l : List α}, l.Nodup → (∀ x y, x ∈ l → y ∈ l → f x = f y → x = y) → (l.map f).Nodup
  | [], _, _ => List.nodup_nil
  | x :: l, h, hf => by
    rw [List.map_cons, List.nodup_cons]
    have h' := List.nodup_cons.1 h
    refine ⟨fun hm => ?_, nodup_map_inj h'.2 fun a b ha hb => hf a b (List.mem_cons_of_mem _ ha) (List.mem_cons_of_mem _ hb)⟩
    obtain ⟨y, hy, he⟩ := List.mem_map.1 hm
    have := hf y x (List.mem_cons_of_mem _ hy) (List.mem_cons_self ..) he
    exact h'.1 (by rw [← this]; exact hy)

theorem StPick.rel {E : Env} {st st' F : St} {g : Gh} {w : World} {is : List Nat} (hn : is.Nodup) (hp : StPick st is st') (hr : Rel E (st ++ F) g w) : Rel E (st' ++ F) g w := by
  unfold StPick at hp
  have hmem : ∀ p, p ∈ st' → p ∈ st := fun p hm => by
    have : some p ∈ st'.map some := List.mem_map.2 ⟨p, hm, rfl⟩
    rw [← hp] at this
    obtain ⟨i, _, hi⟩ := List.mem_map.1 this
    exact List.mem_of_getElem? hi
  refine hr.sub (fun p hm => ?_) ?_
  · rcases List.mem_append.1 hm with hm | hm
    · exact List.mem_append_left _ (hmem p hm)
    · exact List.mem_append_right _ hm
  · have hnd := hr.nd
    rw [List.map_append, List.nodup_append] at hnd ⊢
    refine ⟨?_, hnd.2.1, fun a ha b hb => hnd.2.2 a ?_ b hb⟩
    · -- names at different places differ
      have hinj : ∀ (i j : Nat) (x y : Nat × AObj), st[i]? = some x → st[j]? = some y → x.1 = y.1 → i = j := fun i j x y hi hj he => by
        have h1 : (st.map Prod.fst)[i]? = some x.1 := by simp [hi]
        have h2 : (st.map Prod.fst)[j]? = some x.1 := by simp [hj, he]
        have hi' := (List.getElem?_eq_some_iff.1 h1).1
        exact (List.getElem?_inj hi' hnd.1).1 (h1.trans h2.symm)
      have e : (st'.map Prod.fst) = is.map fun i => (st[i]?.map Prod.fst).getD 0 := by
        have h3 := congrArg (List.map fun (p : Option (Nat × AObj)) => (p.map Prod.fst).getD 0) hp
        simp only [List.map_map] at h3
        have h4 : (List.map ((fun p : Option (Nat × AObj) => (Option.map Prod.fst p).getD 0) ∘ some) st') = st'.map Prod.fst := by
          apply List.map_congr_left; intro p _; rfl
        rw [h4] at h3
        exact h3.symm
      rw [e]
      have hsome : ∀ (i : Nat), i ∈ is → ∃ x, st[i]? = some x := fun i hi => by
        have : st[i]? ∈ is.map fun i => st[i]? := List.mem_map.2 ⟨i, hi, rfl⟩
        rw [hp] at this
        obtain ⟨x, _, hx⟩ := List.mem_map.1 this
        exact ⟨x, hx.symm⟩
      refine nodup_map_inj hn fun i j hi hj he => ?_
      obtain ⟨x, hx⟩ := hsome i hi
      obtain ⟨y, hy⟩ := hsome j hj
      rw [hx, hy] at he
      exact hinj i j x y hx hy he
    · obtain ⟨p, hp1, rfl⟩ := List.mem_map.1 ha
      exact List.mem_map.2 ⟨p, hmem p hp1, rfl⟩

theorem Weak.mk {fr fr' : Fr} {st st' : St} (is : List Nat) (hn : is.Nodup) (hp : StPick st is st') (hf : FrLe fr fr') : Weak fr st fr' st' :=
  fun n E F a w g hfr hr => ⟨hf.rel hfr, hp.rel hn hr⟩

section
variable {tp : Bool} {P : Program} {n : Nat} {c c1 c2 : Code} {fr fr' : Fr} {st st' : St} {Q : Post}

theorem AW.mono {Q2 : Post} (h : AW tp P n c fr st Q) (h1 : ∀ fr st, Q.norm fr st → Q2.norm fr st) (h2 : ∀ i fr st, Q.exit i fr st → Q2.exit i fr st) (h3 : ∀ fr st, Q.ret fr st → Q2.ret fr st) : AW tp P n c fr st Q2 :=
  fun ρ hρ E F M a w g Q' hf hr q1 q2 q3 => h ρ hρ E F M a w g Q' hf hr (fun fr st M a w g k => q1 fr st M a w g (h1 _ _ k)) (fun i fr st M a w g k => q2 i fr st M a w g (h2 _ _ _ k)) (fun fr st M a w g k => q3 fr st M a w g (h3 _ _ k))

theorem aw_weak (hw : Weak fr st fr' st') (h : AW tp P n c fr' st' Q) : AW tp P n c fr st Q :=
  fun ρ hρ E F M a w g Q' hf hr q1 q2 q3 => let ⟨h1, h2⟩ := hw n E _ a w g hf hr; h ρ hρ E F M a w g Q' h1 h2 q1 q2 q3

theorem aw_skip (h : Q.norm fr st) : AW tp P n .skip fr st Q :=
  fun ρ hρ E F M a w g Q' hf hr q1 q2 q3 => wpIn_skip (q1 fr st M a w g h hf hr (GLe.refl _ _))

theorem aw_exit {i : Nat} (h : Q.exit i fr st) : AW tp P n (.exit i) fr st Q :=
  fun ρ hρ E F M a w g Q' hf hr q1 q2 q3 => wpIn_exit (q2 i fr st M a w g h hf hr (GLe.refl _ _))

theorem aw_ret (h : Q.ret fr st) : AW tp P n .ret fr st Q :=
  fun ρ hρ E F M a w g Q' hf hr q1 q2 q3 => wpIn_ret (q3 fr st M a w g h hf hr (GLe.refl _ _))

theorem aw_seq (h : AW tp P n c1 fr st { norm := fun fr st => AW tp P n c2 fr st Q, exit := Q.exit, ret := Q.ret }) : AW tp P n (.seq c1 c2) fr st Q := by
  intro ρ hρ E F M a w g Q' hf hr q1 q2 q3
  refine wpIn_seq (h ρ hρ E F M a w g _ hf hr ?_ ?_ ?_)
  · intro fr1 st1 M1 a1 w1 g1 k hf1 hr1 hl1
    exact k ρ hρ E F M1 a1 w1 g1 Q' hf1 hr1 (fun fr2 st2 M2 a2 w2 g2 k2 hf2 hr2 hl2 => q1 _ _ _ _ _ _ k2 hf2 hr2 (hl1.trans hl2)) (fun i fr2 st2 M2 a2 w2 g2 k2 hf2 hr2 hl2 => q2 _ _ _ _ _ _ _ k2 hf2 hr2 (hl1.trans hl2)) (fun fr2 st2 M2 a2 w2 g2 k2 hf2 hr2 hl2 => q3 _ _ _ _ _ _ k2 hf2 hr2 (hl1.trans hl2))
  · intro i fr1 st1 M1 a1 w1 g1 k hf1 hr1 hl1; exact q2 _ _ _ _ _ _ _ k hf1 hr1 hl1
  · intro fr1 st1 M1 a1 w1 g1 k hf1 hr1 hl1; exact q3 _ _ _ _ _ _ k hf1 hr1 hl1

theorem aw_cond {x : Operand} {b : Bool} (hx : AEv fr x (.bool b)) (ht : b = true → AW tp P n c1 fr st Q) (hf : b = false → AW tp P n c2 fr st Q) : AW tp P n (.cond x c1 c2) fr st Q := by
  intro ρ hρ E F M a w g Q' hfr hr q1 q2 q3
  have e : a.eval x = .bool b := hx.eBool hfr
  exact wpIn_cond_split (show (wd (mkDf M) a).eval x = .bool b from e) (fun h => ht h ρ hρ E F M a w g Q' hfr hr q1 q2 q3) (fun h => hf h ρ hρ E F M a w g Q' hfr hr q1 q2 q3)

theorem aw_block {i : Nat} (h : AW tp P n c fr st { norm := Q.norm, exit := fun j fr st => if j = i then Q.norm fr st else Q.exit j fr st, ret := Q.ret }) : AW tp P n (.block i c) fr st Q := by
  intro ρ hρ E F M a w g Q' hf hr q1 q2 q3
  refine wpIn_block (h ρ hρ E F M a w g _ hf hr ?_ ?_ ?_)
  · intro fr1 st1 M1 a1 w1 g1 k hf1 hr1 hl1; exact q1 _ _ _ _ _ _ k hf1 hr1 hl1
  · intro j fr1 st1 M1 a1 w1 g1 k hf1 hr1 hl1
    simp only [Exit.inBlock]
    by_cases e : j = i
    · rw [if_pos e]; replace k : (if j = i then Q.norm fr1 st1 else Q.exit j fr1 st1) := k; rw [if_pos e] at k; exact q1 _ _ _ _ _ _ k hf1 hr1 hl1
    · rw [if_neg e]; replace k : (if j = i then Q.norm fr1 st1 else Q.exit j fr1 st1) := k; rw [if_neg e] at k; exact q2 _ _ _ _ _ _ _ k hf1 hr1 hl1
  · intro fr1 st1 M1 a1 w1 g1 k hf1 hr1 hl1; exact q3 _ _ _ _ _ _ k hf1 hr1 hl1

theorem aw_region {id : Nat} {l : List Oper} (h : AOps P n l.toArray l fr st Q.norm) : AW tp P n (.region id l.toArray false) fr st Q := by
  intro ρ hρ E F M a w g Q' hf hr q1 q2 q3
  refine wpIn_region_lit ?_
  refine list_in (K := fun a' w' => ∃ fr' st' g', Q.norm fr' st' ∧ FRel n g' w' a' fr' ∧ Rel E (st' ++ (mkSt M ++ F)) g' w' ∧ GLe g w g' w') (fun a' w' ⟨_, _, _, _, h, _⟩ => h.defers) (fun a' w' ⟨fr', st', g', k, hf', hr', hl'⟩ => q1 fr' st' M a' w' g' k hf' hr' hl') _ _ _ ?_
  exact h E (mkSt M ++ F) a w g NoEx _ hf hr (fun fr' st' a' w' g' k hf' hr' hl' => ⟨fr', st', g', k, hf', hr', hl'⟩)

theorem wpIn_loop_idx {F : Fence} {nn : Nat} {Q : Exit → Act → World → Prop} {a : Act} {w : World} (I : Nat → Act → World → Prop) (m : Nat) (h0 : I m a w)
    (round : ∀ m a w, I m a w → c.wpIn F nn P (Exit.then (fun a' w' => ∃ m', m' < m ∧ I m' a' w') Q) a w) : (Code.loop c).wpIn F nn P Q a w := by
  intro b k cs hro hb hr
  have key : ∀ n a w, I n a w → ∃ e a' w', Q e a' w' ∧ ArrivesIn (Machine.fenced P F) P (lone (b.atR a (.code c :: .inLoop c :: k)) cs w) b k cs e a' w' := by
    intro n
    induction n using Nat.strongRecOn with
    | _ n ih =>
      intro a w hI
      obtain ⟨e, a₁, w₁, hq, harr⟩ := round n a w hI b (.inLoop c :: k) cs hro hb hr
      cases e with
      | normal =>
        obtain ⟨m', hlt, hI₁⟩ := hq
        obtain ⟨e₂, a₂, w₂, hq₂, harr₂⟩ := ih m' hlt a₁ w₁ hI₁
        exact ⟨e₂, a₂, w₂, hq₂, .of_steps (StepsIn.trans harr (.one (fenced_calm hb hr rfl) stepR_inLoop)) harr₂⟩
      | exit id => exact ⟨_, a₁, w₁, hq, .pass (x := .inLoop c) rfl (fun _ _ => .inl (by simp)) harr⟩
      | goto l => exact ⟨_, a₁, w₁, hq, .pass (x := .inLoop c) rfl (fun _ _ => .inl (by simp)) harr⟩
      | ret => exact ⟨_, a₁, w₁, hq, .pass (x := .inLoop c) rfl (fun _ _ => .inl (by simp)) harr⟩
      | panic ch => exact ⟨_, a₁, w₁, hq, .pass (x := .inLoop c) rfl (fun _ _ => .inl (by simp)) harr⟩
      | outgrown => exact ⟨_, a₁, w₁, hq, .pass (x := .inLoop c) rfl (fun _ _ => .inl (by simp)) harr⟩
  obtain ⟨e, a', w', hq, harr⟩ := key m a w h0
  exact ⟨e, a', w', hq, .of_steps (.one (fenced_calm hb hr rfl) stepR_loop) harr⟩

/-- A loop, by a number that goes down. -/
theorem aw_loop (I : Nat → Fr → St → Prop) (m : Nat) (h0 : I m fr st)
    (step : ∀ m fr st, I m fr st → AW tp P n c fr st { norm := fun fr st => ∃ m', m' < m ∧ I m' fr st, exit := Q.exit, ret := Q.ret }) : AW tp P n (.loop c) fr st Q := by
  intro ρ hρ E F M a w0 g Q' hf hr q1 q2 q3
  refine wpIn_loop_idx (fun m a w => ∃ fr st M a0 g', a = wd (mkDf M) a0 ∧ I m fr st ∧ FRel n g' w a0 fr ∧ Rel E (st ++ (mkSt M ++ F)) g' w ∧ GLe g w0 g' w) m ⟨fr, st, M, a, g, rfl, h0, hf, hr, GLe.refl _ _⟩ ?_
  rintro m1 a1 w1 ⟨fr1, st1, M1, a1', g1, rfl, hI, hf1, hr1, hl1⟩
  refine step m1 fr1 st1 hI ρ hρ E F M1 a1' w1 g1 _ hf1 hr1 ?_ ?_ ?_
  · rintro fr2 st2 M2 a2 w2 g2 ⟨m2, hm, hI2⟩ hf2 hr2 hl2
    exact ⟨m2, hm, fr2, st2, M2, a2, g2, rfl, hI2, hf2, hr2, hl1.trans hl2⟩
  · intro i fr2 st2 M2 a2 w2 g2 k hf2 hr2 hl2; exact q2 _ _ _ _ _ _ _ k hf2 hr2 (hl1.trans hl2)
  · intro fr2 st2 M2 a2 w2 g2 k hf2 hr2 hl2; exact q3 _ _ _ _ _ _ k hf2 hr2 (hl1.trans hl2)

end
end Go.Lift
