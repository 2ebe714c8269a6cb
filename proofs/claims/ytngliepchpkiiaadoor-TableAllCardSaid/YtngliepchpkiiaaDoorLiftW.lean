/- Lift, part W: still shorter words for what the printed proofs say most often; plans that reckon what can be reckoned. -/
import Derived.Test.YtngliepchpkiiaaDoorLiftU
namespace Go.Lift
open Go.RowKit
variable {tp : Bool}

abbrev AV.i (n : Int) : AV := .int .i64 n
theorem vr {a : AV} : a.Le a := AV.Le.refl a
theorem cr {as : List AV} : CellsLe as as := CellsLe.refl as
theorem nb {n m : Nat} (h : Nat.ble n m = true) : n ≤ m := Nat.le_of_ble_eq_true h
/-- Where an operation without a guard puts its value. -/
def apB (n : Nat) (o : Oper) : Option Nat :=
  match o.guard with
  | some _ => none
  | none => match o.dst with
    | some d => match Nat.ble (d + 1) n with
      | true => some d
      | false => none
    | none => none

theorem apB_spec {n : Nat} {o : Oper} {d : Nat} (h : apB n o = some d) : o.guard = none ∧ o.dst = some d ∧ Nat.ble (d + 1) n = true := by
  unfold apB at h
  split at h
  · cases h
  · rename_i hg
    split at h
    · rename_i d' hd
      split at h
      · rename_i hb
        cases h
        exact ⟨hg, hd, hb⟩
      · cases h
    · cases h

/-- The guard of an operation: the place of what it hangs on, and which way; where the operation puts its value. -/
def gdB (n : Nat) (ops : Array Oper) (o : Oper) : Option (Nat × Bool × Nat) :=
  match o.guard with
  | none => none
  | some (j, b) => match ops[j]? with
    | none => none
    | some oj => match oj.dst, o.dst with
      | some t, some d => match Nat.ble (t + 1) n, Nat.ble (d + 1) n with
        | true, true => some (t, b, d)
        | _, _ => none
      | _, _ => none

theorem gdB_spec {n : Nat} {ops : Array Oper} {o : Oper} {t d : Nat} {b : Bool} (h : gdB n ops o = some (t, b, d)) :
    ∃ j oj, o.guard = some (j, b) ∧ ops[j]? = some oj ∧ oj.dst = some t ∧ Nat.ble (t + 1) n = true ∧ o.dst = some d ∧ Nat.ble (d + 1) n = true := by
  unfold gdB at h
  split at h
  · cases h
  · rename_i j b' hg
    split at h
    · cases h
    · rename_i oj hj
      split at h
      · rename_i t' d' ht hd
        split at h
        · rename_i h1 h2
          cases h
          exact ⟨j, oj, hg, hj, ht, h1, hd, h2⟩
        · cases h
      · cases h

/-- What a move takes. -/
def mvO (o : Oper) : Option Nat :=
  match o.op with
  | .move (.tmp t) => some t
  | .assign (.tmp t) => some t
  | _ => none

/-- The place of a field. -/
def faAV (v : AV) (off : Nat) : Option AV :=
  match v with
  | .ptr p q => some (.ptr p (q + off))
  | .vptr cs => some (.vptr (cs.drop off))
  | .eptr p q kk => some (.eptr p q (kk + off))
  | _ => none

section
variable {P : Program} {n : Nat} {ops : Array Oper} {o : Oper} {l : List Oper} {fr : Fr} {st : St} {K : Fr → St → Prop} {k : AV → St → Prop} {c : Code} {Q : Post}

theorem mvO_pure {t : Nat} {v : AV} (h : mvO o = some t) (hl : fr.lookup t = some v) : APure P n o fr v := by
  unfold mvO at h
  split at h
  · rename_i t' ho
    cases h
    exact pu_move ho (.tmp hl)
  · rename_i t' ho
    cases h
    exact pu_assign ho (.tmp hl)
  · cases h

theorem xa {d : Nat} (av : AV) (hb : apB n o = some d) (hp : APure P n o fr av) (h : AOps P n ops l ((d, av) :: fr) st K) : AOps P n ops (o :: l) fr st K :=
  let ⟨h1, h2, h3⟩ := apB_spec hb
  ap av h1 h2 h3 hp h

theorem xm {d t : Nat} {av : AV} (hb : apB n o = some d) (ho : mvO o = some t) (hl : fr.lookup t = some av) (h : AOps P n ops l ((d, av) :: fr) st K) : AOps P n ops (o :: l) fr st K :=
  xa av hb (mvO_pure ho hl) h

theorem xc {d : Nat} (hb : apB n o = some d) (h : AOp P n o fr st (fun v st' => AOps P n ops l ((d, v) :: fr) st' K)) : AOps P n ops (o :: l) fr st K :=
  let ⟨h1, h2, h3⟩ := apB_spec hb
  ac h1 h2 h3 h

theorem xg {d t : Nat} {b : Bool} (hb : gdB n ops o = some (t, b, d)) (hl : fr.lookup t = some (.bool b)) (h : AOp P n o fr st (fun v st' => AOps P n ops l ((d, v) :: fr) st' K)) : AOps P n ops (o :: l) fr st K :=
  let ⟨j, oj, h1, h2, h3, h4, h5, h6⟩ := gdB_spec hb
  ag h1 h2 h3 h4 hl h5 h6 h

theorem xp {d t : Nat} {b : Bool} (av : AV) (hb : gdB n ops o = some (t, b, d)) (hl : fr.lookup t = some (.bool b)) (hp : APure P n o fr av) (h : AOps P n ops l ((d, av) :: fr) st K) : AOps P n ops (o :: l) fr st K :=
  let ⟨j, oj, h1, h2, h3, h4, h5, h6⟩ := gdB_spec hb
  agp av h1 h2 h3 h4 hl h5 h6 hp h

theorem xq {d t u : Nat} {b : Bool} {av : AV} (hb : gdB n ops o = some (t, b, d)) (hl : fr.lookup t = some (.bool b)) (ho : mvO o = some u) (hu : fr.lookup u = some av) (h : AOps P n ops l ((d, av) :: fr) st K) : AOps P n ops (o :: l) fr st K :=
  xp av hb hl (mvO_pure ho hu) h

theorem xn {d t : Nat} {b c : Bool} (hb : gdB n ops o = some (t, c, d)) (hl : fr.lookup t = some (.bool b)) (hbc : (c == b) = false) (h : AOps P n ops l ((d, .lit undef) :: fr) st K) : AOps P n ops (o :: l) fr st K :=
  let ⟨j, oj, h1, h2, h3, h4, h5, h6⟩ := gdB_spec hb
  an h1 h2 h3 h4 hl hbc h5 h6 h

theorem xv {d t : Nat} {c : Bool} (hb : gdB n ops o = some (t, c, d)) (hl : fr.lookup t = some (.lit undef)) (h : AOps P n ops l ((d, .lit undef) :: fr) st K) : AOps P n ops (o :: l) fr st K :=
  let ⟨j, oj, h1, h2, h3, h4, h5, h6⟩ := gdB_spec hb
  an2 h1 h2 h3 h4 hl h5 h6 h

theorem xe (h : K fr st) : AOps P n ops [] fr st K := aops_nil h

/-- A region, and what follows. -/
theorem xr {id : Nat} {l : List Oper} {c2 : Code} (h : AOps P n l.toArray l fr st fun fr st => AW tp P n c2 fr st Q) : AW tp P n (.seq (.region id l.toArray false) c2) fr st Q :=
  aw_seq (aw_region h)

theorem fa {S : TypeId} {i t : Nat} {fields : Array Field} {fd : Field} {sz : Nat} {v v' : AV} (ho : o.op = .fieldAddr S (.tmp t) i) (hu : P.underlying S = some (.struct fields)) (hi : fields[i]? = some fd) (hs : ∀ w, (sizeOf fd.type).run P w = .ok sz w) (hsz : decide (sz ≠ 0) = true)
    (hx : fr.lookup t = some v) (hv : faAV v fd.offset = some v') : APure P n o fr v' :=
  pu_fieldAddr ho hu hi hs (of_decide_eq_true hsz) (.tmp hx) (by cases v <;> exact hv)

/-! ### Plans -/
/-- What each operation waits for, through others. -/
def rtOf (T : List (List Nat × Option Nat × List Nat)) : List (List Nat) :=
  T.foldl (fun rt x => rt ++ [(x.1 ++ x.1.flatMap fun q => rt.getD q []).eraseDups]) []

/-- The operations' steps: each looks at what it looks at. -/
def PSt (P : Program) (n : Nat) (ops : Array Oper) (vers : List (List St)) : Fr → List Touch → List Oper → List AV → Prop
  | fr, t :: ts, o :: l, r :: rs => AStepG P n ops o (restr fr (o.looksAt ops)) (tPre vers t) r (tPost vers t) ∧ PSt P n ops vers (setf o.dst r fr) ts l rs
  | _, [], [], [] => True
  | _, _, _, _ => False

theorem PSt.steps {vers : List (List St)} : ∀ {fr : Fr} {ts : List Touch} {l : List Oper} {rs : List AV}, PSt P n ops vers fr ts l rs → PSteps P n ops vers fr ts l rs
  | fr, t :: ts, o :: l, r :: rs, h => ⟨⟨o.looksAt ops, by simp, h.1⟩, PSt.steps h.2⟩
  | _, [], [], [], _ => trivial
  | _, [], [], _ :: _, h => h.elim
  | _, [], _ :: _, _, h => h.elim
  | _, _ :: _, [], _, h => h.elim
  | _, _ :: _, _ :: _, [], h => h.elim

theorem aw_planR {id : Nat} {l : List Oper} (hm : P.follows .mixedOrders = true) (tch : List Touch) (wrs : List (List Nat)) (vers : List (List St)) (rs : List AV)
    (hc : planChk n (tabOf l.toArray l) (rtOf (tabOf l.toArray l)) tch wrs = true) (hv : vers.length = wrs.length) (hst : st = stoOf vers fun _ => 0) (hsteps : PSt P n l.toArray vers fr tch l rs)
    (h : Q.norm (pfr fr l rs) (stoOf vers fun ρ => (wrs.getD ρ []).length)) : AW tp P n (.region id l.toArray true) fr st Q :=
  aw_plan hm _ rfl _ tch wrs vers rs hc hv hst hsteps.steps h

variable {fi : Fr} {pre post : St} {r : AV}

theorem yp {v : AV} (hg : o.guard = none) (h : APure P n o fi v) : AStepG P n ops o fi pre v pre := stepg_pure hg h
theorem ym {t : Nat} {v : AV} (hg : o.guard = none) (ho : mvO o = some t) (hl : fi.lookup t = some v) : AStepG P n ops o fi pre v pre := stepg_pure hg (mvO_pure ho hl)

/-- A guard alone. -/
def gB (n : Nat) (ops : Array Oper) (o : Oper) : Option (Nat × Bool) :=
  match o.guard with
  | none => none
  | some (j, b) => match ops[j]? with
    | none => none
    | some oj => match oj.dst with
      | some t => match Nat.ble (t + 1) n with
        | true => some (t, b)
        | false => none
      | none => none

theorem gB_spec {t : Nat} {b : Bool} (h : gB n ops o = some (t, b)) : ∃ j oj, o.guard = some (j, b) ∧ ops[j]? = some oj ∧ oj.dst = some t ∧ t < n := by
  unfold gB at h
  split at h
  · cases h
  · rename_i j b' hg
    split at h
    · cases h
    · rename_i oj hj
      split at h
      · rename_i t' ht
        split at h
        · rename_i h1
          cases h
          exact ⟨j, oj, hg, hj, ht, Nat.le_of_ble_eq_true h1⟩
        · cases h
      · cases h

theorem yg {t : Nat} {b : Bool} (hb : gB n ops o = some (t, b)) (hl : fi.lookup t = some (.bool b)) (h : AOp P n o fi pre (fun v st' => v = r ∧ st' = post)) : AStepG P n ops o fi pre r post :=
  let ⟨_, _, h1, h2, h3, h4⟩ := gB_spec hb
  stepg_guard h1 h2 h3 h4 hl h
theorem yq {t : Nat} {b : Bool} (hb : gB n ops o = some (t, b)) (hl : fi.lookup t = some (.bool b)) (h : APure P n o fi r) : AStepG P n ops o fi pre r pre :=
  let ⟨_, _, h1, h2, h3, h4⟩ := gB_spec hb
  stepg_guardP h1 h2 h3 h4 hl h
theorem yx {t : Nat} {b c : Bool} (hb : gB n ops o = some (t, c)) (hl : fi.lookup t = some (.bool b)) (hbc : (c == b) = false) : AStepG P n ops o fi pre (.lit undef) pre :=
  let ⟨_, _, h1, h2, h3, h4⟩ := gB_spec hb
  stepg_pass h1 h2 h3 h4 hl (by simpa using hbc)
end
end Go.Lift
