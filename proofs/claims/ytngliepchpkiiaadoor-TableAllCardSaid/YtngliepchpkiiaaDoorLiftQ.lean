/- Lift, part Q: more small words of the printed proofs. -/
import Derived.Test.YtngliepchpkiiaaDoorLiftP
import Derived.Laws.Pointers
namespace Go.Lift
open Go.RowKit

/-- A place in a list. -/
abbrev InB (i : Int) (n : Nat) : Prop := 0 ≤ i ∧ i < (n : Int)
/-- A piece of a list. -/
abbrev InR (a b : Int) (n : Nat) : Prop := 0 ≤ a ∧ a ≤ b ∧ b ≤ (n : Int)
/-- A byte. -/
abbrev IsU8 (n : Int) : Prop := 0 ≤ n ∧ n < 256

theorem ndec_t {c : Prop} [Decidable c] (h : (!decide c) = true) : ¬ c := by simpa using h
theorem ndec_f {c : Prop} [Decidable c] (h : (!decide c) = false) : c := by simpa using h

section
variable {P : Program} {n : Nat} {ops : Array Oper} {o : Oper} {l : List Oper} {fr : Fr} {st : St} {K : Fr → St → Prop} {k : AV → St → Prop} {α : Type}

theorem APure.eq {v v' : AV} (h : APure P n o fr v) (e : v = v') : APure P n o fr v' := e ▸ h

/-- What a variable holds is known to be. -/
theorem aops_known (t : Nat) {b c : Bool} (h : fr.lookup t = some (.bool b)) (hb : b = c) (hk : AOps P n ops l ((t, .bool c) :: fr) st K) : AOps P n ops l fr st K := by
  subst hb
  intro E F a w g Q next hf hr q
  exact hk E F a w g Q next (frel_set hf (hf.get t _ h)) hr q

theorem dstOk_some {d : Nat} (h : Nat.ble (d + 1) n = true) {x : Option Tmp} (e : x = some d) : dstOk n x = true := by
  subst e
  simp only [dstOk, decide_eq_true_eq]
  exact Nat.le_of_ble_eq_true h

/-- An operation that looks at no memory. -/
theorem ap {d : Nat} (av : AV) (hg : o.guard = none) (hd : o.dst = some d) (hn : Nat.ble (d + 1) n = true) (hp : APure P n o fr av) (h : AOps P n ops l ((d, av) :: fr) st K) : AOps P n ops (o :: l) fr st K :=
  aops_pure hg (dstOk_some hn hd) hp (by rw [hd]; exact h)

/-- An operation with a value. -/
theorem ac {d : Nat} (hg : o.guard = none) (hd : o.dst = some d) (hn : Nat.ble (d + 1) n = true) (h : AOp P n o fr st (fun v st' => AOps P n ops l ((d, v) :: fr) st' K)) : AOps P n ops (o :: l) fr st K :=
  aops_cons hg (dstOk_some hn hd) (by rw [hd]; exact h)

/-- An operation without a value. -/
theorem ac0 (hg : o.guard = none) (hd : o.dst = none) (h : AOp P n o fr st (fun v st' => AOps P n ops l fr st' K)) : AOps P n ops (o :: l) fr st K :=
  aops_cons hg (by rw [hd]; rfl) (by rw [hd]; exact h)

/-- The same under a guard that holds. -/
theorem ag {d j t : Nat} {b : Bool} {oj : Oper} (hg : o.guard = some (j, b)) (hj : ops[j]? = some oj) (ht : oj.dst = some t) (htn : Nat.ble (t + 1) n = true) (hb : fr.lookup t = some (.bool b)) (hd : o.dst = some d) (hn : Nat.ble (d + 1) n = true)
    (h : AOp P n o fr st (fun v st' => AOps P n ops l ((d, v) :: fr) st' K)) : AOps P n ops (o :: l) fr st K :=
  aops_guard hg hj ht (Nat.le_of_ble_eq_true htn) hb (dstOk_some hn hd) (by rw [hd]; exact h)

theorem agp {d j t : Nat} {b : Bool} {oj : Oper} (av : AV) (hg : o.guard = some (j, b)) (hj : ops[j]? = some oj) (ht : oj.dst = some t) (htn : Nat.ble (t + 1) n = true) (hb : fr.lookup t = some (.bool b)) (hd : o.dst = some d) (hn : Nat.ble (d + 1) n = true)
    (hp : APure P n o fr av) (h : AOps P n ops l ((d, av) :: fr) st K) : AOps P n ops (o :: l) fr st K :=
  ag hg hj ht htn hb hd hn (hp.op h)

/-- Under a guard that does not hold. -/
theorem an {d j t : Nat} {b c : Bool} {oj : Oper} (hg : o.guard = some (j, c)) (hj : ops[j]? = some oj) (ht : oj.dst = some t) (htn : Nat.ble (t + 1) n = true) (hb : fr.lookup t = some (.bool b)) (hbc : (c == b) = false) (hd : o.dst = some d) (hn : Nat.ble (d + 1) n = true)
    (h : AOps P n ops l ((d, .lit undef) :: fr) st K) : AOps P n ops (o :: l) fr st K :=
  aops_pass hg hj ht (Nat.le_of_ble_eq_true htn) hb (by simpa using hbc) (dstOk_some hn hd) (by rw [hd]; exact h)

theorem an2 {d j t : Nat} {c : Bool} {oj : Oper} (hg : o.guard = some (j, c)) (hj : ops[j]? = some oj) (ht : oj.dst = some t) (htn : Nat.ble (t + 1) n = true) (hb : fr.lookup t = some (.lit undef)) (hd : o.dst = some d) (hn : Nat.ble (d + 1) n = true)
    (h : AOps P n ops l ((d, .lit undef) :: fr) st K) : AOps P n ops (o :: l) fr st K :=
  aops_pass2 hg hj ht (Nat.le_of_ble_eq_true htn) hb (dstOk_some hn hd) (by rw [hd]; exact h)

/-! ### Pointers and nil -/
def AV.place : AV → Bool
  | .ptr _ _ | .vptr _ | .eptr _ _ _ => true
  | _ => false

/-! ### Vectors of data -/
theorem op_lenVecM {t e : TypeId} {x : Operand} {p i sz : Nat} {xs : List α} {f : α → AV} (ho : o.op = .call { callee := .builtin .len, args := #[x], argTypes := #[t] }) (ht : P.underlying t = some (.slice e)) (hx : AEv fr x (.vec p))
    (hg : st[i]? = some (p, .vec sz (xs.map f))) (hk : k (.int .i64 xs.length) st) : AOp P n o fr st k :=
  op_lenVec ho ht hx hg (by rw [List.length_map]; exact hk)

theorem op_indexAddrVecM {t e : TypeId} {x y : Operand} {p j sz : Nat} {xs : List α} {f : α → AV} {kk : IntKind} {i : Int} (ho : o.op = .indexAddr t x y) (ht : P.underlying t = some (.slice e)) (hsz : ∀ w, (sizeOf e).run P w = .ok sz w)
    (hx : AEv fr x (.vec p)) (hg : st[j]? = some (p, .vec sz (xs.map f))) (hy : AEv fr y (.int kk i)) (h : 0 ≤ i ∧ i < (xs.length : Int)) (hk : k (.eptr p i.toNat 0) st) : AOp P n o fr st k :=
  op_indexAddrVec ho ht hsz hx hg hy h.1 (by rw [List.length_map]; exact h.2) hk

theorem op_loadE1M [Inhabited α] {T : TypeId} {x : Operand} {p kk i sz : Nat} {q : Int} {xs : List α} {f : α → AV} {v : AV} (ho : o.op = .load T x) (hag : ∀ w, (isAgg T).run P w = .ok false w) (hx : AEv fr x (.eptr p q.toNat kk)) (hg : st[i]? = some (p, .vec sz (xs.map f)))
    (h : 0 ≤ q ∧ q < (xs.length : Int)) (hkk : kk < sz) (hv : (f (ix xs q)).cells.getD kk .un = v) (hk : k v st) : AOp P n o fr st k :=
  op_loadE1 ho hag hx hg (by rw [List.length_map]; omega) hkk (by rw [map_ix f h]; exact hv) hk

theorem op_storeEM [Inhabited α] {T : TypeId} {x y : Operand} {p kk i sz m : Nat} {q : Int} {xs : List α} {f : α → AV} {v : AV} (y' : α) (ho : o.op = .store T x y) (hsz : ∀ w, (sizeOf T).run P w = .ok m w) (hx : AEv fr x (.eptr p q.toNat kk)) (hy : AEv fr y v)
    (hg : st[i]? = some (p, .vec sz (xs.map f))) (h : 0 ≤ q ∧ q < (xs.length : Int)) (hm : v.cells.length = m) (hc : v.cells.all AV.isCell = true) (hle : kk + m ≤ sz) (hu : (f y').cells = splice (f (ix xs q)).cells kk v.cells)
    (hk : k .un (st.set i (p, .vec sz ((upd xs q y').map f)))) : AOp P n o fr st k :=
  op_storeE ho hsz hx hy hg (by rw [List.length_map]; omega) hm hc hle (u := f y') (by rw [map_ix f h]; exact hu) (by unfold upd at hk; rw [← List.map_set]; exact hk)

end
end Go.Lift

namespace Go.Lift
theorem weights_at {H : Type} {P : Program} : ∀ {j : Nat} {ts : List TypeId} {ds : List (DataW H)} {t : TypeId} {d : DataW H}, (DataW.weightsEach P ts ds).all (· ≤ reachBytes) = true → ts[j]? = some t → ds[j]? = some d → (d.weights P t).all (· ≤ reachBytes) = true
  | _, [], _, _, _, _, h, _ => by simp at h
  | _, _ :: _, [], _, _, _, _, h => by simp at h
  | j, t0 :: ts, d0 :: ds, t, d, h, h1, h2 => by
    simp only [DataW.weightsEach, List.all_append, Bool.and_eq_true] at h
    cases j with
    | zero => simp at h1 h2; subst h1 h2; exact h.1
    | succ j => exact weights_at (j := j) h.2 (by simpa using h1) (by simpa using h2)
end Go.Lift
