/- Lift, part Q: more small words of the printed proofs. -/
import Derived.Test.YtmognhokagemiaaGreatLiftP
import Derived.Laws.Pointers
namespace Go.Lift
open Go.RowKit

/-- A place in a list. -/
abbrev InB (i : Int) (n : Nat) : Prop := 0 ≤ i ∧ i < (n : Int)
/-- A piece of a list. -/
abbrev InR (a b : Int) (n : Nat) : Prop := 0 ≤ a ∧ a ≤ b ∧ b ≤ (n : Int)
/-- Room for elements of so many bytes. -/
abbrev Room (m : Int) (b : Nat) : Prop := 0 ≤ m ∧ m * (b : Int) ≤ 140737488355328
/-- A byte. -/
abbrev IsU8 (n : Int) : Prop := 0 ≤ n ∧ n < 256

theorem ndec_t {c : Prop} [Decidable c] (h : (!decide c) = true) : ¬ c := by simpa using h
theorem ndec_f {c : Prop} [Decidable c] (h : (!decide c) = false) : c := by simpa using h

section
variable {P : Program} {n : Nat} {ops : Array Oper} {o : Oper} {l : List Oper} {fr : Fr} {st : St} {K : Fr → St → Prop} {k : AV → St → Prop} {α : Type}

theorem APure.eq {v v' : AV} (h : APure P n o fr v) (e : v = v') : APure P n o fr v' := e ▸ h

/-- What a variable holds is known to be. -/
theorem aops_known (t : Nat) {b c : Bool} (h : fr.lookup t = some (.bool b)) (hb : b = c) (hk : AOps P n ops l ((t, .bool c) :: fr) st K) : AOps P n ops l fr st K := by
  subst hb
  intro E F a w g Q next hf hr q
  exact hk E F a w g Q next (frel_set hf (hf.get t _ h)) hr q

theorem weak_st {st' : St} (is : List Nat) (hn : is.Nodup) (hp : StPick st is st') : Weak fr st fr st' :=
  fun n E F a w g hfr hr => ⟨hfr, hp.rel hn hr⟩

theorem dstOk_some {d : Nat} (h : Nat.ble (d + 1) n = true) {x : Option Tmp} (e : x = some d) : dstOk n x = true := by
  subst e
  simp only [dstOk, decide_eq_true_eq]
  exact Nat.le_of_ble_eq_true h

/-- An operation that looks at no memory. -/
theorem ap {d : Nat} (av : AV) (hg : o.guard = none) (hd : o.dst = some d) (hn : Nat.ble (d + 1) n = true) (hp : APure P n o fr av) (h : AOps P n ops l ((d, av) :: fr) st K) : AOps P n ops (o :: l) fr st K :=
  aops_pure hg (dstOk_some hn hd) hp (by rw [hd]; exact h)

/-- An operation with a value. -/
theorem ac {d : Nat} (hg : o.guard = none) (hd : o.dst = some d) (hn : Nat.ble (d + 1) n = true) (h : AOp P n o fr st (fun v st' => AOps P n ops l ((d, v) :: fr) st' K)) : AOps P n ops (o :: l) fr st K :=
  aops_cons hg (dstOk_some hn hd) (by rw [hd]; exact h)

/-- An operation without a value. -/
theorem ac0 (hg : o.guard = none) (hd : o.dst = none) (h : AOp P n o fr st (fun v st' => AOps P n ops l fr st' K)) : AOps P n ops (o :: l) fr st K :=
  aops_cons hg (by rw [hd]; rfl) (by rw [hd]; exact h)

/-- The same under a guard that holds. -/
theorem ag {d j t : Nat} {b : Bool} {oj : Oper} (hg : o.guard = some (j, b)) (hj : ops[j]? = some oj) (ht : oj.dst = some t) (htn : Nat.ble (t + 1) n = true) (hb : fr.lookup t = some (.bool b)) (hd : o.dst = some d) (hn : Nat.ble (d + 1) n = true)
    (h : AOp P n o fr st (fun v st' => AOps P n ops l ((d, v) :: fr) st' K)) : AOps P n ops (o :: l) fr st K :=
  aops_guard hg hj ht (Nat.le_of_ble_eq_true htn) hb (dstOk_some hn hd) (by rw [hd]; exact h)

theorem agp {d j t : Nat} {b : Bool} {oj : Oper} (av : AV) (hg : o.guard = some (j, b)) (hj : ops[j]? = some oj) (ht : oj.dst = some t) (htn : Nat.ble (t + 1) n = true) (hb : fr.lookup t = some (.bool b)) (hd : o.dst = some d) (hn : Nat.ble (d + 1) n = true)
    (hp : APure P n o fr av) (h : AOps P n ops l ((d, av) :: fr) st K) : AOps P n ops (o :: l) fr st K :=
  ag hg hj ht htn hb hd hn (hp.op h)

/-- Under a guard that does not hold. -/
theorem an {d j t : Nat} {b c : Bool} {oj : Oper} (hg : o.guard = some (j, c)) (hj : ops[j]? = some oj) (ht : oj.dst = some t) (htn : Nat.ble (t + 1) n = true) (hb : fr.lookup t = some (.bool b)) (hbc : (c == b) = false) (hd : o.dst = some d) (hn : Nat.ble (d + 1) n = true)
    (h : AOps P n ops l ((d, .lit undef) :: fr) st K) : AOps P n ops (o :: l) fr st K :=
  aops_pass hg hj ht (Nat.le_of_ble_eq_true htn) hb (by simpa using hbc) (dstOk_some hn hd) (by rw [hd]; exact h)

theorem an2 {d j t : Nat} {c : Bool} {oj : Oper} (hg : o.guard = some (j, c)) (hj : ops[j]? = some oj) (ht : oj.dst = some t) (htn : Nat.ble (t + 1) n = true) (hb : fr.lookup t = some (.lit undef)) (hd : o.dst = some d) (hn : Nat.ble (d + 1) n = true)
    (h : AOps P n ops l ((d, .lit undef) :: fr) st K) : AOps P n ops (o :: l) fr st K :=
  aops_pass2 hg hj ht (Nat.le_of_ble_eq_true htn) hb (dstOk_some hn hd) (by rw [hd]; exact h)

theorem aop_forget (v' : AV) (st1 : St) (h : AOp P n o fr st (fun v s => ∃ is s0, v = v ∧ s = s0 ∧ v.Le v' ∧ is.Nodup ∧ StPick s0 is st1)) (hk : k v' st1) : AOp P n o fr st k := by
  intro E F a w g next Q hf hr hq
  refine h E F a w g next Q hf hr ?_
  rintro v av st' w' g' ⟨is, s0, _, rfl, hle, hn, hp⟩ hv hr' hl
  exact hq v v' st1 w' g' hk (hle _ _ _ hv) (hp.rel hn hr') hl

/-! ### Pointers and nil -/
def AV.place : AV → Bool
  | .ptr _ _ | .vptr _ | .eptr _ _ _ => true
  | _ => false

theorem place_val {v : AV} (hv : v.place = true) {g : Gh} {w : World} {x : Value} (h : Reads g w x v) : ∃ a, x = .pointer (some a) := by
  cases h <;> first | exact ⟨_, rfl⟩ | cases hv

theorem pu_nilEq {t yt : TypeId} {x y : Operand} {v : AV} (ho : o.op = .binOp .eql t x y yt) (ht : P.underlying t = some (.pointer (P.pointee t))) (hx : AEv fr x v) (hy : AEv fr y .nilp) (hv : v.place = true) : APure P n o fr (.bool false) :=
  fun a w g hf => by
    obtain ⟨b, hb⟩ := place_val hv (hx n g w a hf)
    exact ⟨.bool false, fun W => by simp [execOp, ho, hb, hy.eNilp hf, eqGuard, run_eql_pointer_nil W t _ ht], .bool _⟩
theorem pu_nilNe {t yt : TypeId} {x y : Operand} {v : AV} (ho : o.op = .binOp .neq t x y yt) (ht : P.underlying t = some (.pointer (P.pointee t))) (hx : AEv fr x v) (hy : AEv fr y .nilp) (hv : v.place = true) : APure P n o fr (.bool true) :=
  fun a w g hf => by
    obtain ⟨b, hb⟩ := place_val hv (hx n g w a hf)
    exact ⟨.bool true, fun W => by simp [execOp, ho, hb, hy.eNilp hf, eqGuard, run_neq_pointer_nil W t _ ht], .bool _⟩
theorem pu_nilEqN {t yt : TypeId} {x y : Operand} (ho : o.op = .binOp .eql t x y yt) (ht : P.underlying t = some (.pointer (P.pointee t))) (hx : AEv fr x .nilp) (hy : AEv fr y .nilp) : APure P n o fr (.bool true) :=
  fun a w g hf => ⟨.bool true, fun W => by simp [execOp, ho, hx.eNilp hf, hy.eNilp hf, eqGuard, run_eql_pointer_nil W t _ ht], .bool _⟩
theorem pu_nilNeN {t yt : TypeId} {x y : Operand} (ho : o.op = .binOp .neq t x y yt) (ht : P.underlying t = some (.pointer (P.pointee t))) (hx : AEv fr x .nilp) (hy : AEv fr y .nilp) : APure P n o fr (.bool false) :=
  fun a w g hf => ⟨.bool false, fun W => by simp [execOp, ho, hx.eNilp hf, hy.eNilp hf, eqGuard, run_neq_pointer_nil W t _ ht], .bool _⟩

/-! ### Arrays -/
theorem pu_buildArr {T e : TypeId} {len sz : Nat} {parts : Array (Nat × Operand)} {zv : Value} {zs : List AV} {aparts : List (Nat × AV)} {cs : List AV} (ho : o.op = .build T parts)
    (hu : P.underlying T = some (.array len e)) (hsz : ∀ w, (sizeOf e).run P w = .ok sz w) (hz : ∀ w, (zeroValue T).run P w = .ok zv w) (hzs : ofConst zv (.agg zs) = true) (hps : PartsOk fr parts.toList aparts)
    (hfill : afill (fun i => some (i * sz, sz)) zs aparts = some cs) : APure P n o fr (.agg cs) :=
  fun a w g hf => by
    have hzr := ofConst_reads hzs g w
    cases zv with
    | agg zc =>
      cases hzr with
      | agg hs hr =>
        obtain ⟨hl, hp⟩ := hps.reads hf
        obtain ⟨cells, h1, h2, h3⟩ := fill_reads hl hp hs hr hfill
        refine ⟨.agg cells, fun W => ?_, .agg h2 h3⟩
        have h1' : Instr.fill (fun i => some (i * sz, sz)) zc (parts.map fun (p : Nat × Operand) => (p.1, a.eval p.2)).toList = some cells := by simpa using h1
        simp only [execOp, ho, Instr.build, Sem.run_bind, hz, Result.andThen_ok, run_underlying hu, hsz]
        simp [Value.cells, h1'] at h1' ⊢
        simp [h1']
    | _ => simp [ofConst, ofConst1] at hzs

theorem pu_idxArrM [Inhabited α] {t e : TypeId} {len : Nat} {x y : Operand} {kk : IntKind} {i : Int} {ys : List α} {f : α → AV} (ho : o.op = .index t x y) (ht : P.underlying t = some (.array len e)) (hsz : ∀ w, (sizeOf e).run P w = .ok 1 w) (hag : ∀ w, (isAgg e).run P w = .ok false w)
    (hx : AEv fr x (.agg (ys.map f))) (hy : AEv fr y (.int kk i)) (hlen : ys.length = len) (hln : (len : Int) = len) (h : 0 ≤ i ∧ i < (len : Int)) : APure P n o fr (f (ix ys i)) :=
  fun a w g hf => by
    have hi := hy.eInt hf
    have h1 := hx n g w a hf
    generalize hcv : a.eval x = cv at h1
    cases h1 with
    | @agg ca _ hs hr =>
      obtain ⟨h0, h2⟩ := h
      have hlt : i.toNat < ys.length := by omega
      have hlt' : i.toNat < ca.size := by rw [hs, List.length_map]; exact hlt
      have := hr i.toNat (by rw [List.length_map]; exact hlt)
      rw [map_ix f ⟨h0, by omega⟩] at this
      refine ⟨ca.getD i.toNat undef, fun W => ?_, this⟩
      simp [execOp, ho, hcv, hi, Instr.index, asIntOf, run_underlying ht, h0, h2, part, hag, hsz, Array.getElem?_eq_getElem hlt', Array.getD_eq_getD_getElem?]

/-! ### Vectors of data -/
theorem op_makeVecM {t e : TypeId} {x y : Operand} {kl kc : IntKind} {i : TypeInfo} {zv : Value} {sz : Nat} {m : Int} (f : α → AV) (z : α) (ho : o.op = .makeSlice t x y) (ht : P.underlying t = some (.slice e)) (hi : ∀ w, (typeInfo e).run P w = .ok i w) (hz : i.zero = some zv) (hsz : i.size = sz) (hsz0 : 0 < sz)
    (hza : ofConst zv (f z) = true) (helt : (f z).elt sz = true) (hb0 : 0 < i.bytes)
    (hx : AEv fr x (.int kl m)) (hy : AEv fr y (.int kc m)) (h : 0 ≤ m ∧ m * i.bytes ≤ 140737488355328) (hk : ∀ p, k (.vec p) ((p, .vec sz ((List.replicate m.toNat z).map f)) :: st)) : AOp P n o fr st k :=
  op_makeVec ho ht hi hz hsz hsz0 hza helt hb0 hx hy h (fun p => by rw [← List.map_replicate]; exact hk p)

theorem op_lenVecM {t e : TypeId} {x : Operand} {p i sz : Nat} {xs : List α} {f : α → AV} (ho : o.op = .call { callee := .builtin .len, args := #[x], argTypes := #[t] }) (ht : P.underlying t = some (.slice e)) (hx : AEv fr x (.vec p))
    (hg : st[i]? = some (p, .vec sz (xs.map f))) (hk : k (.int .i64 xs.length) st) : AOp P n o fr st k :=
  op_lenVec ho ht hx hg (by rw [List.length_map]; exact hk)

theorem op_indexAddrVecM {t e : TypeId} {x y : Operand} {p j sz : Nat} {xs : List α} {f : α → AV} {kk : IntKind} {i : Int} (ho : o.op = .indexAddr t x y) (ht : P.underlying t = some (.slice e)) (hsz : ∀ w, (sizeOf e).run P w = .ok sz w)
    (hx : AEv fr x (.vec p)) (hg : st[j]? = some (p, .vec sz (xs.map f))) (hy : AEv fr y (.int kk i)) (h : 0 ≤ i ∧ i < (xs.length : Int)) (hk : k (.eptr p i.toNat 0) st) : AOp P n o fr st k :=
  op_indexAddrVec ho ht hsz hx hg hy h.1 (by rw [List.length_map]; exact h.2) hk

theorem op_loadE1M [Inhabited α] {T : TypeId} {x : Operand} {p kk i sz : Nat} {q : Int} {xs : List α} {f : α → AV} {v : AV} (ho : o.op = .load T x) (hag : ∀ w, (isAgg T).run P w = .ok false w) (hx : AEv fr x (.eptr p q.toNat kk)) (hg : st[i]? = some (p, .vec sz (xs.map f)))
    (h : 0 ≤ q ∧ q < (xs.length : Int)) (hkk : kk < sz) (hv : (f (ix xs q)).cells.getD kk .un = v) (hk : k v st) : AOp P n o fr st k :=
  op_loadE1 ho hag hx hg (by rw [List.length_map]; omega) hkk (by rw [map_ix f h]; exact hv) hk

theorem op_loadENM [Inhabited α] {T : TypeId} {x : Operand} {p kk i sz m : Nat} {q : Int} {xs : List α} {f : α → AV} {vs : List AV} (ho : o.op = .load T x) (hag : ∀ w, (isAgg T).run P w = .ok true w) (hm : ∀ w, (sizeOf T).run P w = .ok m w) (hx : AEv fr x (.eptr p q.toNat kk)) (hg : st[i]? = some (p, .vec sz (xs.map f)))
    (h : 0 ≤ q ∧ q < (xs.length : Int)) (hkk : kk + m ≤ sz) (hv : ((f (ix xs q)).cells.drop kk).take m = vs) (hk : k (.agg vs) st) : AOp P n o fr st k :=
  op_loadEN ho hag hm hx hg (by rw [List.length_map]; omega) hkk (by rw [map_ix f h]; exact hv) hk

theorem op_storeEM [Inhabited α] {T : TypeId} {x y : Operand} {p kk i sz m : Nat} {q : Int} {xs : List α} {f : α → AV} {v : AV} (y' : α) (ho : o.op = .store T x y) (hsz : ∀ w, (sizeOf T).run P w = .ok m w) (hx : AEv fr x (.eptr p q.toNat kk)) (hy : AEv fr y v)
    (hg : st[i]? = some (p, .vec sz (xs.map f))) (h : 0 ≤ q ∧ q < (xs.length : Int)) (hm : v.cells.length = m) (hc : v.cells.all AV.isCell = true) (hle : kk + m ≤ sz) (hu : (f y').cells = splice (f (ix xs q)).cells kk v.cells)
    (hk : k .un (st.set i (p, .vec sz ((upd xs q y').map f)))) : AOp P n o fr st k :=
  op_storeE ho hsz hx hy hg (by rw [List.length_map]; omega) hm hc hle (u := f y') (by rw [map_ix f h]; exact hu) (by unfold upd at hk; rw [← List.map_set]; exact hk)

end
end Go.Lift

namespace Go.Lift
theorem weights_at {H : Type} {P : Program} : ∀ {j : Nat} {ts : List TypeId} {ds : List (DataW H)} {t : TypeId} {d : DataW H}, (DataW.weightsEach P ts ds).all (· ≤ reachBytes) = true → ts[j]? = some t → ds[j]? = some d → (d.weights P t).all (· ≤ reachBytes) = true
  | _, [], _, _, _, _, h, _ => by simp at h
  | _, _ :: _, [], _, _, _, _, h => by simp at h
  | j, t0 :: ts, d0 :: ds, t, d, h, h1, h2 => by
    simp only [DataW.weightsEach, List.all_append, Bool.and_eq_true] at h
    cases j with
    | zero => simp at h1 h2; subst h1 h2; exact h.1
    | succ j => exact weights_at (j := j) h.2 (by simpa using h1) (by simpa using h2)
end Go.Lift
