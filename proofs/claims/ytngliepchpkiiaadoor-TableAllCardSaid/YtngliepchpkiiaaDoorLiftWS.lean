/- Lift, part WS: the shortest words for printed proofs: what can be reckoned is reckoned in one step. -/
import Derived.Test.YtngliepchpkiiaaDoorLiftW
import Derived.Test.YtngliepchpkiiaaDoorLiftS
namespace Go.Lift
open Go.RowKit
variable {tp : Bool}

/-- An operand's value. -/
def opv (fr : Fr) : Operand → Option AV
  | .tmp t => fr.lookup t
  | .const (.int k n) => some (.int k n)
  | .const (.bool b) => some (.bool b)
  | _ => none

theorem opv_ok {fr : Fr} {x : Operand} {v : AV} (h : opv fr x = some v) : AEv fr x v := by
  cases x with
  | tmp t => exact .tmp h
  | const c =>
    cases c <;> first | (cases h; done) | (simp only [opv] at h; cases h)
    · exact .bool _
    · exact .int _ _
  | _ => cases h

/-- What two numbers make. -/
def ibv (op : BinOp) : Option AV → Option AV → Option AV
  | some (.int k i), some (.int k' j) => match ibinOk op && k == k' with
    | true => some (ibin op k i j)
    | false => none
  | _, _ => none

/-- The value of an operation that only reckons. -/
def pev (fr : Fr) (o : Oper) : Option AV :=
  match o.op with
  | .move x => opv fr x
  | .assign x => opv fr x
  | .binOp op t x y yt => ibv op (opv fr x) (opv fr y)
  | .pick c x y => match opv fr c with
    | some (.bool true) => opv fr x
    | some (.bool false) => opv fr y
    | _ => none
  | .unOp .not t x => match opv fr x with
    | some (.bool b) => some (.bool (!b))
    | _ => none
  | .extract x i => match opv fr x with
    | some (.tup vs) => vs[i]?
    | _ => none
  | _ => none

section
variable {P : Program} {n : Nat} {ops : Array Oper} {o : Oper} {l : List Oper} {fr : Fr} {st : St} {K : Fr → St → Prop} {k : AV → St → Prop} {c1 c2 : Code} {Q : Post}

theorem pe {v : AV} (h : pev fr o = some v) : APure P n o fr v := by
  unfold pev at h
  split at h
  · rename_i x ho; exact pu_move ho (opv_ok h)
  · rename_i x ho; exact pu_assign ho (opv_ok h)
  · rename_i op t x y yt ho
    unfold ibv at h
    split at h
    · rename_i k i k' j h1 h2
      split at h
      · rename_i hb
        cases h
        rw [Bool.and_eq_true] at hb
        have hk : k = k' := eq_of_beq hb.2
        subst hk
        exact pu_int ho hb.1 (opv_ok h1) (opv_ok h2) rfl
      · cases h
    · cases h
  · rename_i c x y ho
    split at h
    · rename_i hc
      exact pu_pick (b := true) ho (opv_ok hc) (fun _ => opv_ok h) (fun e => nomatch e)
    · rename_i hc
      exact pu_pick (b := false) ho (opv_ok hc) (fun e => nomatch e) (fun _ => opv_ok h)
    · cases h
  · rename_i t x ho
    split at h
    · rename_i b hb
      cases h
      exact pu_not ho (opv_ok hb)
    · cases h
  · rename_i x i ho
    split at h
    · rename_i vs hv
      have hi := List.getElem?_eq_some_iff.1 h
      obtain ⟨hi, he⟩ := hi
      exact pu_extract ho (opv_ok hv) hi (by rw [List.getD_eq_getElem?_getD, h]; rfl)
    · cases h
  · cases h

/-- Both at once: where it puts its value, and the value. -/
theorem xz {d : Nat} (v : AV) (h : (apB n o, pev fr o) = (some d, some v)) (hk : AOps P n ops l ((d, v) :: fr) st K) : AOps P n ops (o :: l) fr st K :=
  xa v (congrArg Prod.fst h) (pe (congrArg Prod.snd h)) hk

/-- A move. -/
def mvE (n : Nat) (fr : Fr) (o : Oper) : Option (Nat × AV) :=
  match apB n o with
  | some d => match mvO o with
    | some t => match fr.lookup t with
      | some v => some (d, v)
      | none => none
    | none => none
  | none => none

theorem xy {e : Nat × AV} (h : mvE n fr o = some e) (hk : AOps P n ops l (e :: fr) st K) : AOps P n ops (o :: l) fr st K := by
  unfold mvE at h
  split at h
  · rename_i d h1
    split at h
    · rename_i t h2
      split at h
      · rename_i v h3
        cases h
        exact xm h1 h2 h3 hk
      · cases h
    · cases h
  · cases h

theorem xu {d t : Nat} {b c : Bool} (h : (gdB n ops o, fr.lookup t, c == b) = (some (t, c, d), some (.bool b), false)) (hk : AOps P n ops l ((d, .lit undef) :: fr) st K) : AOps P n ops (o :: l) fr st K :=
  xn (congrArg Prod.fst h) (congrArg (fun x => x.2.1) h) (congrArg (fun x => x.2.2) h) hk

/-- Loads of cells. -/
theorem xl {d p off : Nat} {T : TypeId} {x : Operand} {cs : List AV} {v : AV} (i : Nat) (hag : ∀ w, (isAgg T).run P w = .ok false w) (h : (apB n o, o.op, opv fr x, st[i]?, cs[off]?) = (some d, .load T x, some (.ptr p off), some (p, .cells cs), some v)) (hk : AOps P n ops l ((d, v) :: fr) st K) : AOps P n ops (o :: l) fr st K :=
  xc (congrArg Prod.fst h) (op_load1 (i := i) (congrArg (fun x => x.2.1) h) hag (opv_ok (congrArg (fun x => x.2.2.1) h)) (congrArg (fun x => x.2.2.2.1) h) (congrArg (fun x => x.2.2.2.2) h) hk)

theorem xL {d p off sz : Nat} {T : TypeId} {x : Operand} {cs vs : List AV} (i : Nat) (hag : ∀ w, (isAgg T).run P w = .ok true w) (hsz : ∀ w, (sizeOf T).run P w = .ok sz w)
    (h : (apB n o, o.op, opv fr x, st[i]?, Nat.ble (off + sz) cs.length, (cs.drop off).take sz) = (some d, .load T x, some (.ptr p off), some (p, .cells cs), true, vs)) (hk : AOps P n ops l ((d, .agg vs) :: fr) st K) : AOps P n ops (o :: l) fr st K :=
  xc (congrArg Prod.fst h) (op_loadN (i := i) (congrArg (fun x => x.2.1) h) hag hsz (opv_ok (congrArg (fun x => x.2.2.1) h)) (congrArg (fun x => x.2.2.2.1) h) (nb (congrArg (fun x => x.2.2.2.2.1) h)) (congrArg (fun x => x.2.2.2.2.2) h) hk)

/-- A store to cells. -/
theorem xs {p off m : Nat} {T : TypeId} {x y : Operand} {cs : List AV} {v : AV} (i : Nat) (cs' : List AV) (hsz : ∀ w, (sizeOf T).run P w = .ok m w)
    (h : (o.guard, o.dst, o.op, opv fr x, opv fr y, st[i]?, v.cells.length, v.cells.all AV.isCell, Nat.ble (off + m) cs.length, splice cs off v.cells) = (none, none, .store T x y, some (.ptr p off), some v, some (p, .cells cs), m, true, true, cs'))
    (hk : AOps P n ops l fr (st.set i (p, .cells cs')) K) : AOps P n ops (o :: l) fr st K :=
  ac0 (congrArg Prod.fst h) (congrArg (fun x => x.2.1) h) (op_store (i := i) (congrArg (fun x => x.2.2.1) h) hsz (opv_ok (congrArg (fun x => x.2.2.2.1) h)) (opv_ok (congrArg (fun x => x.2.2.2.2.1) h)) (congrArg (fun x => x.2.2.2.2.2.1) h) (congrArg (fun x => x.2.2.2.2.2.2.1) h) (congrArg (fun x => x.2.2.2.2.2.2.2.1) h) (nb (congrArg (fun x => x.2.2.2.2.2.2.2.2.1) h)) (congrArg (fun x => x.2.2.2.2.2.2.2.2.2) h) hk)

theorem argsOk_of : ∀ {xs : List Operand} {vs : List AV}, xs.map (opv fr) = vs.map some → ArgsOk fr xs vs
  | [], [], _ => trivial
  | x :: xs, v :: vs, h => by
    rw [List.map_cons, List.map_cons] at h
    exact ⟨opv_ok (List.cons.inj h).1, argsOk_of (List.cons.inj h).2⟩
  | [], _ :: _, h => by cases h
  | _ :: _, [], h => by cases h

/-- A call: what it takes and what it tells is its contract's. -/
theorem xk {d : Nat} {f : FuncId} {xs : Array Operand} {ts : Array TypeId} {vs : List AV} {H R : St} {Q : AV → St → Prop} (hs : Spec P f vs H Q) (hc : ∀ args w, (callFunc f args).run P w = .ok (.enter f args) w)
    (h : (apB n o, o.op, xs.toList.map (opv fr), st) = (some d, .call { callee := .value (.func f), args := xs, argTypes := ts }, vs.map some, H ++ R)) (hk : ∀ v H', Q v H' → AOps P n ops l ((d, v) :: fr) (H' ++ R) K) : AOps P n ops (o :: l) fr st K :=
  xc (congrArg Prod.fst h) (op_call (congrArg (fun x => x.2.1) h) hc (argsOk_of (congrArg (fun x => x.2.2.1) h)) (by rw [show st = H ++ R from congrArg (fun x => x.2.2.2) h]) hs hk)

theorem frLe_of : ∀ {fr' : Fr}, (fr'.map fun e => fr.lookup e.1) = (fr'.map fun e => some e.2) → FrLe fr fr'
  | [], _ => trivial
  | e :: fr', h => by
    rw [List.map_cons, List.map_cons] at h
    exact ⟨.tmp (List.cons.inj h).1, frLe_of (List.cons.inj h).2⟩

/-- No place twice. -/
def nodB : List Nat → Bool
  | [] => true
  | a :: l => l.all (fun b => !(Nat.beq a b)) && nodB l
theorem nodB_ok : ∀ {l : List Nat}, nodB l = true → l.Nodup
  | [], _ => List.nodup_nil
  | a :: l, h => by
    unfold nodB at h
    rw [Bool.and_eq_true] at h
    refine List.nodup_cons.2 ⟨fun hm => ?_, nodB_ok h.2⟩
    have := List.all_eq_true.1 h.1 a hm
    simp [Nat.beq_refl] at this

/-- Less is kept. -/
theorem wi {fr' : Fr} {st' : St} (is : List Nat) (h : (nodB is, is.map (fun i => st[i]?), fr'.map fun e => fr.lookup e.1) = (true, st'.map some, fr'.map fun e => some e.2)) : Weak fr st fr' st' :=
  Weak.mk is (nodB_ok (congrArg Prod.fst h)) (show is.map (fun i => st[i]?) = st'.map some from congrArg (fun x => x.2.1) h) (frLe_of (congrArg (fun x => x.2.2) h))
theorem w0 : Weak fr st [] [] := Weak.mk [] List.nodup_nil rfl trivial

/-- What is told, where all results are places. -/
def resL (fr : Fr) : List ResultVar → Option (List AV)
  | [] => some []
  | .tmp t :: rs => match fr.lookup t, resL fr rs with
    | some v, some vs => some (v :: vs)
    | _, _ => none
  | _ => none
def resE (fr : Fr) (rs : List ResultVar) : Option AV :=
  match resL fr rs with
  | some vs => some (one vs)
  | none => none
theorem resL_ok : ∀ {rs : List ResultVar} {vs : List AV}, resL fr rs = some vs → ResOk P fr st rs vs
  | [], vs, h => by cases h; trivial
  | .tmp t :: rs, vs, h => by
    unfold resL at h
    split at h
    · rename_i v vs' h1 h2
      cases h
      exact ⟨.tmp h1, resL_ok h2⟩
    · cases h
  | .cell _ _ :: _, _, h => by cases h

/-- A return: its results are those of places. -/
theorem rt {rs : List ResultVar} {R : AV → St → Prop} {v : AV} {st' : St} (hq : R v st') (h : resE fr rs = some v) (hw : Weak fr st [] st') : RetQ P rs R fr st := by
  unfold resE at h
  split at h
  · rename_i vs hv
    cases h
    exact ⟨vs, _, st', resL_ok hv, AV.Le.refl _, hw, hq⟩
  · cases h
/-- A return in other words. -/
theorem rq {rs : List ResultVar} {R : AV → St → Prop} {v : AV} {st' : St} (vs : List AV) (hq : R v st') (hl : (one vs).Le v) (ho : ResOk P fr st rs vs) (hw : Weak fr st [] st') : RetQ P rs R fr st :=
  ⟨vs, v, st', ho, hl, hw, hq⟩

/-- A choice, and what it means for what is known. -/
theorem cd {α : Type} {x : Operand} {p : Prop} [Decidable p] {a b r : α} (h : (if p then a else b) = r) (hx : opv fr x = some (.bool (decide p))) (ht : p → a = r → AW tp P n c1 fr st Q) (hf : ¬ p → b = r → AW tp P n c2 fr st Q) : AW tp P n (.cond x c1 c2) fr st Q :=
  aw_cond (opv_ok hx) (fun hb => ht (of_decide_eq_true hb) (by rwa [if_pos (of_decide_eq_true hb)] at h)) (fun hb => hf (of_decide_eq_false hb) (by rwa [if_neg (of_decide_eq_false hb)] at h))
theorem cb {α : Type} {x : Operand} {p : Bool} {a b r : α} (h : (if p = true then a else b) = r) (hx : opv fr x = some (.bool p)) (ht : p = true → a = r → AW tp P n c1 fr st Q) (hf : p = false → b = r → AW tp P n c2 fr st Q) : AW tp P n (.cond x c1 c2) fr st Q :=
  aw_cond (opv_ok hx) (fun hb => ht hb (by rwa [if_pos hb] at h)) (fun hb => hf hb (by rwa [if_neg (by rw [hb]; decide)] at h))
theorem cn {α : Type} {x : Operand} {p : Prop} [Decidable p] {a b r : α} (h : (if p then a else b) = r) (hx : opv fr x = some (.bool (!decide p))) (ht : (!decide p) = true → b = r → AW tp P n c1 fr st Q) (hf : (!decide p) = false → a = r → AW tp P n c2 fr st Q) : AW tp P n (.cond x c1 c2) fr st Q :=
  aw_cond (opv_ok hx) (fun hb => ht hb (by rwa [if_neg (by simpa using hb)] at h)) (fun hb => hf hb (by rwa [if_pos (by simpa using hb)] at h))

/-- A call that tells one thing. -/
theorem xo {d : Nat} {f : FuncId} {xs : Array Operand} {ts : Array TypeId} {vs : List AV} {H H2 R : St} {v2 : AV} (hs : Spec P f vs H (fun v H' => v = v2 ∧ H' = H2)) (hc : ∀ args w, (callFunc f args).run P w = .ok (.enter f args) w)
    (h : (apB n o, o.op, xs.toList.map (opv fr), st) = (some d, .call { callee := .value (.func f), args := xs, argTypes := ts }, vs.map some, H ++ R)) (hk : AOps P n ops l ((d, v2) :: fr) (H2 ++ R) K) : AOps P n ops (o :: l) fr st K :=
  xk hs hc h (fun v H' e => by obtain ⟨rfl, rfl⟩ := e; exact hk)

/-- The address of a field. -/
theorem xf {d S : Nat} {T : TypeId} {i t : Nat} {fields : Array Field} {fd : Field} {sz : Nat} {v : AV} (v' : AV) (hu : P.underlying S = some (.struct fields)) (hs : ∀ w, (sizeOf T).run P w = .ok sz w)
    (h : (apB n o, o.op, fields[i]?, fd.type, Nat.beq sz 0, fr.lookup t, faAV v fd.offset) = (some d, .fieldAddr S (.tmp t) i, some fd, T, false, some v, some v')) (hk : AOps P n ops l ((d, v') :: fr) st K) : AOps P n ops (o :: l) fr st K :=
  xa v' (congrArg Prod.fst h) (fa (congrArg (fun x => x.2.1) h) hu (congrArg (fun x => x.2.2.1) h) (fun w => by rw [show fd.type = T from congrArg (fun x => x.2.2.2.1) h]; exact hs w) (decide_eq_true (fun e => by have := congrArg (fun x => x.2.2.2.2.1) h; rw [e] at this; cases this)) (congrArg (fun x => x.2.2.2.2.2.1) h) (congrArg (fun x => x.2.2.2.2.2.2) h)) hk

/-- A value that gets a place. -/
theorem xb {d T : Nat} {x : Operand} {v : AV} (cs : List AV) (h : (apB n o, o.op, opv fr x, v.cells, cs.all AV.isCell) = (some d, .box T x, some v, cs, true)) (hk : ∀ p, AOps P n ops l ((d, .ptr p 0) :: fr) ((p, .cells cs) :: st) K) : AOps P n ops (o :: l) fr st K :=
  xc (congrArg Prod.fst h) (op_box (congrArg (fun x => x.2.1) h) (opv_ok (congrArg (fun x => x.2.2.1) h)) (congrArg (fun x => x.2.2.2.1) h) (congrArg (fun x => x.2.2.2.2) h) hk)
/-- A new place. -/
theorem xA {d T : Nat} {zv : Value} {cs : List AV} (v : AV) (hz : ∀ w, (zeroValue T).run P w = .ok zv w) (h : (apB n o, o.op, ofConst zv v, v.cells, cs.all AV.isCell) = (some d, .alloc T, true, cs, true)) (hk : ∀ p, AOps P n ops l ((d, .ptr p 0) :: fr) ((p, .cells cs) :: st) K) : AOps P n ops (o :: l) fr st K :=
  xc (congrArg Prod.fst h) (op_alloc (v := v) (congrArg (fun x => x.2.1) h) hz (congrArg (fun x => x.2.2.1) h) (congrArg (fun x => x.2.2.2.1) h) (congrArg (fun x => x.2.2.2.2) h) hk)
end

/-- A function's body. -/
theorem sb {P : Program} {f : FuncId} {fn : Func} {c : Code} {n : Nat} {args : List AV} {H : St} {Q : AV → St → Prop} (rs : List ResultVar) (hf : P.funcs[f]? = some fn) (h : (fn.body, fn.ntmps, Nat.ble args.length n, fn.results) = (some c, n, true, rs.toArray))
    (hw : AW true P n c (argFr 0 args) H { norm := RetQ P rs Q, exit := fun _ _ _ => False, ret := RetQ P rs Q }) : Go.Lift.Spec P f args H Q :=
  Spec.of_body (rs := rs) hf (congrArg Prod.fst h) (congrArg (fun x => x.2.1) h) (nb (congrArg (fun x => x.2.2.1) h)) (congrArg (fun x => x.2.2.2) h) hw

abbrev Sp := @Go.Lift.Spec
abbrev nS : List UInt8 := []
abbrev w64 (n : Int) : Int := IntKind.wrap .i64 n
abbrev bd (p : Prop) [Decidable p] : AV := .bool (decide p)
abbrev bn (p : Prop) [Decidable p] : AV := .bool (!decide p)
end Go.Lift
