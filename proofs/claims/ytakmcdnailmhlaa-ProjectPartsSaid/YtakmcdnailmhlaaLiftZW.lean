/- Lift, part ZW: structs that hold structs, and arrays, held against one another; whole arrays read. -/
import Derived.Test.YtakmcdnailmhlaaLiftZT
namespace Go.Lift
open Go.RowKit

section
variable {P : Program} {n : Nat} {o : Oper} {fr : Fr} {st : St} {k : AV → St → Prop}

/-- Values of a type are held against one another, k layers deep. -/
def VEq (P : Program) (k : Nat) (t : TypeId) (c d : AV) (e : Bool) : Prop :=
  ∀ (g : Gh) (w : World) (v u : Value), Reads g w v c → Reads g w u d → ∀ (m : Nat) (W : World), (Op.equalIn (m + k) t v u).run P W = .ok e W

theorem VEq.of {t : TypeId} {c d : AV} {e : Bool} (h : CEq P t c d e) {k : Nat} : VEq P (k + 1) t c d e := fun g w v u hv hu m W => h.run hv hu (m + k) W
theorem VEq.eq {k : Nat} {t : TypeId} {c d : AV} {e e' : Bool} (h : VEq P k t c d e) (he : e' = e) : VEq P k t c d e' := he ▸ h

/-- A part of a struct. -/
def PartIs (P : Program) (t : TypeId) (cs : List AV) (off : Nat) (c : AV) : Prop :=
  ((∀ w, (isAgg t).run P w = .ok false w) ∧ cs[off]? = some c) ∨
  (∃ n, (∀ w, (isAgg t).run P w = .ok true w) ∧ (∀ w, (sizeOf t).run P w = .ok n w) ∧ off + n ≤ cs.length ∧ c = .agg ((cs.drop off).take n))

theorem PartIs.run {t : TypeId} {cs : List AV} {off : Nat} {c : AV} (h : PartIs P t cs off c) {g : Gh} {w : World} {xs : Array Value} (hx : xs.size = cs.length) (rx : ∀ j, j < cs.length → Reads g w (xs.getD j undef) (cs.getD j .un)) :
    ∃ v, (∀ W, (part t xs off).run P W = .ok v W) ∧ Reads g w v c := by
  rcases h with ⟨h2, h3⟩ | ⟨n, h2, hn, hl, rfl⟩
  · have l1 := (List.getElem?_eq_some_iff.1 h3).1
    have r1 := rx _ l1
    have e1 : cs.getD off .un = c := by simp [List.getD, h3]
    rw [e1] at r1
    refine ⟨_, fun W => ?_, r1⟩
    have : off < xs.size := by omega
    simp [part, h2, Array.getElem?_eq_getElem this, Array.getD_eq_getD_getElem?]
  · have hlen : ((cs.drop off).take n).length = n := by rw [List.length_take, List.length_drop]; omega
    refine ⟨_, fun W => by simp only [part, Sem.run_bind, h2, hn, Result.andThen_ok, if_true, Sem.run_pure]; rfl, .agg (by rw [hlen, Array.size_extract]; omega) fun j hj => ?_⟩
    rw [hlen] at hj
    have r := rx (off + j) (by omega)
    have e1 : ((cs.drop off).take n).getD j .un = cs.getD (off + j) .un := by simp [List.getD, List.getElem?_take, hj, List.getElem?_drop]
    have e2 : (xs.extract off (off + n)).getD j undef = xs.getD (off + j) undef := by
      simp only [Array.getD_eq_getD_getElem?, Array.getElem?_extract]
      rw [if_pos (by omega)]
    rw [e1, e2]
    exact r

def FEqs (P : Program) (k : Nat) : List Field → List AV → List AV → Bool → Prop
  | [], _, _, b => b = true
  | f :: fs, cs, ds, b => ∃ c d e b', (f.name ≠ "_" ∧ PartIs P f.type cs f.offset c ∧ PartIs P f.type ds f.offset d ∧ VEq P k f.type c d e) ∧ FEqs P k fs cs ds b' ∧ b = (e && b')

theorem FEqs.run {k : Nat} {g : Gh} {w : World} {xs ys : Array Value} {cs ds : List AV} (hx : xs.size = cs.length) (hy : ys.size = ds.length) (rx : ∀ j, j < cs.length → Reads g w (xs.getD j undef) (cs.getD j .un)) (ry : ∀ j, j < ds.length → Reads g w (ys.getD j undef) (ds.getD j .un))
    (m : Nat) (W : World) : ∀ {fs : List Field} {b : Bool}, FEqs P k fs cs ds b → (Op.eqFields (m + k) xs ys fs).run P W = .ok b W
  | [], b, h => by subst h; rfl
  | f :: fs, b, h => by
    obtain ⟨c, d, e, b', ⟨h1, h2, h3, h5⟩, h6, rfl⟩ := h
    obtain ⟨v, p1, r1⟩ := h2.run hx rx
    obtain ⟨u, p2, r2⟩ := h3.run hy ry
    have q := h5 g w v u r1 r2 m W
    have ih := FEqs.run hx hy rx ry m W h6
    simp only [Op.eqFields, Sem.run_bind, Sem.run_ite, if_pos h1, p1, p2, q, Result.andThen_ok]
    cases e with
    | false => simp
    | true => simp [ih]

theorem VEq.struct {k : Nat} {t : TypeId} {fields : Array Field} {cs ds : List AV} {b : Bool} (ht : P.underlying t = some (.struct fields)) (hp : P.stoodInHeld t = false) (he : FEqs P k fields.toList cs ds b) : VEq P (k + 1) t (.agg cs) (.agg ds) b := by
  intro g w v u h1 h2 m W
  cases h1 with
  | @agg xs _ s1 r1 =>
    cases h2 with
    | @agg ys _ s2 r2 =>
      have hfs : P.fieldsOf t = fields := by simp [Program.fieldsOf, ht]
      have hrun := run_equalIn_struct (P := P) W (m + k) t xs ys (by rw [hfs]; exact ht) hp
      have hq := FEqs.run s1 s2 r1 r2 m W he
      rw [hfs] at hrun
      rw [hq] at hrun
      exact hrun

theorem VEq.ints {t elem : TypeId} {kk : IntKind} {len : Nat} (ht : P.underlying t = some (.array len elem)) (hel : P.underlying elem = some (.int kk)) (hag : ∀ w, (isAgg elem).run P w = .ok false w) (hsz : ∀ w, (sizeOf elem).run P w = .ok 1 w) {xs ys : List Int} (hx : xs.length = len) (hy : ys.length = len) :
    VEq P 2 t (.agg (xs.map (AV.int kk))) (.agg (ys.map (AV.int kk))) (decide (xs = ys)) := by
  intro g w v u h1 h2 m W
  cases h1 with
  | @agg vs _ s1 r1 =>
    cases h2 with
    | @agg us _ s2 r2 =>
      rw [List.length_map] at s1 s2 r1 r2
      have hv : ∀ j, (h : j < xs.length) → vs[j]? = some (.int kk xs[j]) := fun j h => by
        have := r1 j h
        have e : (xs.map (AV.int kk)).getD j .un = .int kk xs[j] := by simp [List.getD, List.getElem?_eq_getElem h]
        rw [e] at this
        have hj : j < vs.size := by omega
        generalize hq : vs.getD j undef = q at this
        cases this
        rw [← hq]
        simp [Array.getD_eq_getD_getElem?, Array.getElem?_eq_getElem hj]
      have hu : ∀ j, (h : j < ys.length) → us[j]? = some (.int kk ys[j]) := fun j h => by
        have := r2 j h
        have e : (ys.map (AV.int kk)).getD j .un = .int kk ys[j] := by simp [List.getD, List.getElem?_eq_getElem h]
        rw [e] at this
        have hj : j < us.size := by omega
        generalize hq : us.getD j undef = q at this
        cases this
        rw [← hq]
        simp [Array.getD_eq_getD_getElem?, Array.getElem?_eq_getElem hj]
      have hp : ∀ (zs : List Int) (as : Array Value), (∀ j, (h : j < zs.length) → as[j]? = some (.int kk zs[j])) → ∀ j, (h : j < zs.length) → ∀ W, (part elem as (j * 1)).run P W = .ok (.int kk zs[j]) W := fun zs as hz j h W => by
        simp only [part, Sem.run_bind, hag, Result.andThen_ok, Bool.false_eq_true, if_false, Nat.mul_one, hz j h, Sem.run_pure]
      show (Op.equalIn (m + 1 + 1) t (.agg vs) (.agg us)).run P W = _
      rw [Op.equalIn]
      simp only [Sem.run_bind, run_underlying ht, hsz, Result.andThen_ok]
      rw [Std.Legacy.Range.forIn_eq_forIn_range']
      simp only [Std.Legacy.Range.size, Nat.sub_zero, Nat.add_sub_cancel, Nat.div_one]
      have key : ∀ q s, s + q = len → (forIn (List.range' s q 1) ((none, ()) : Option Bool × PUnit) fun i r => do
          if (!(← Op.equalIn (m + 1) elem (← part elem vs (i * 1)) (← part elem us (i * 1)))) = true then pure (ForInStep.done (some false, ())) else pure (ForInStep.yield (none, ()))).run P W = .ok (if xs.drop s = ys.drop s then (none, ()) else (some false, ())) W := by
        intro q
        induction q with
        | zero => intro s hs; rw [List.drop_eq_nil_of_le (by omega), List.drop_eq_nil_of_le (by omega)]; rfl
        | succ q ih =>
          intro s hs
          have hsx : s < xs.length := by omega
          have hsy : s < ys.length := by omega
          rw [List.range'_succ, List.forIn_cons]
          simp only [Sem.run_bind, hp xs vs hv s hsx, hp ys us hu s hsy, Result.andThen_ok, run_equalIn_int W m elem kk kk _ _ hel, Sem.run_ite]
          have he : (xs.drop s = ys.drop s) = (xs[s] = ys[s] ∧ xs.drop (s + 1) = ys.drop (s + 1)) := by
            rw [List.drop_eq_getElem_cons hsx, List.drop_eq_getElem_cons hsy, List.cons.injEq]
          simp only [he]
          by_cases hxy : xs[s] = ys[s]
          · have := ih (s + 1) (by omega)
            simp only [hxy, beq_self_eq_true, Bool.not_true, Bool.false_eq_true, if_false, Sem.run_pure, Result.andThen_ok, this, true_and]
          · simp [hxy]
      have := key len 0 (by omega)
      simp only [List.drop_zero] at this
      rw [this]
      by_cases h : xs = ys <;> simp [h]

theorem pu_eqV {k : Nat} {t yt : TypeId} {x y : Operand} {cs ds : List AV} {b : Bool} (ho : o.op = .binOp .eql t x y yt) (hm : P.eqGuardType P.depth t = false)
    (hx : AEv fr x (.agg cs)) (hy : AEv fr y (.agg ds)) (he : VEq P k t (.agg cs) (.agg ds) b) (hk : k ≤ 10000) : APure P n o fr (.bool b) :=
  fun a w g hf => by
    have h1 := hx n g w a hf
    have h2 := hy n g w a hf
    generalize hcx : a.eval x = vx at h1
    generalize hcy : a.eval y = vy at h2
    have hr := fun W => he g w vx vy h1 h2 (10000 - k) W
    rw [Nat.sub_add_cancel hk] at hr
    cases h1 with
    | @agg xs _ s1 r1 =>
      cases h2 with
      | @agg ys _ s2 r2 =>
        refine ⟨.bool b, fun W => ?_, .bool _⟩
        have hb := run_eql_struct (P := P) W t
        simp only [execOp, ho, hcx, hcy, Sem.run_bind, run_eqGuard_agg W .eql t x y _ _ hm, Result.andThen_ok, hb, hr]
        rfl

theorem pu_neV {k : Nat} {t yt : TypeId} {x y : Operand} {cs ds : List AV} {b : Bool} (ho : o.op = .binOp .neq t x y yt) (hm : P.eqGuardType P.depth t = false)
    (hx : AEv fr x (.agg cs)) (hy : AEv fr y (.agg ds)) (he : VEq P k t (.agg cs) (.agg ds) b) (hk : k ≤ 10000) : APure P n o fr (.bool (!b)) :=
  fun a w g hf => by
    have h1 := hx n g w a hf
    have h2 := hy n g w a hf
    generalize hcx : a.eval x = vx at h1
    generalize hcy : a.eval y = vy at h2
    have hr := fun W => he g w vx vy h1 h2 (10000 - k) W
    rw [Nat.sub_add_cancel hk] at hr
    cases h1 with
    | @agg xs _ s1 r1 =>
      cases h2 with
      | @agg ys _ s2 r2 =>
        refine ⟨.bool (!b), fun W => ?_, .bool _⟩
        have hb := run_neq_struct (P := P) W t
        simp only [execOp, ho, hcx, hcy, Sem.run_bind, run_eqGuard_agg W .neq t x y _ _ hm, Result.andThen_ok, hb, hr]
        rfl

/-- A whole array of single cells is read. -/
theorem op_loadArr {α : Type} {f : α → AV} {xs : List α} {T : TypeId} {x : Operand} {p i m : Nat} (ho : o.op = .load T x) (hag : ∀ w, (isAgg T).run P w = .ok true w) (hm : ∀ w, (sizeOf T).run P w = .ok m w) (hx : AEv fr x (.eptr p 0 0))
    (hg : st[i]? = some (p, .vec 1 (xs.map f))) (hl : xs.length = m) (h0 : 0 < m) (hc : ∀ z, (f z).cells = [f z]) (hk : k (.agg (xs.map f)) st) : AOp P n o fr st k :=
  AOp.of_run fun E F a w g hf hr => by
    have h := hx n g w a hf
    generalize hcv : a.eval x = cv at h
    cases h with
    | @eptr b nn c sz' _ _ _ hp =>
      have hok := hr.ok p _ (mem_of_get hg)
      rw [hp] at hok
      obtain ⟨rfl, hn, hnc, _, hz, he, hok⟩ := hok
      rw [List.length_map] at hn
      obtain ⟨_, arr, hb, hs, hrd⟩ := hok (by omega)
      have hcell : ∀ j, j < m → w.cell? ((⟨b, 0 * 1 + 0, Option.none⟩ : Addr).add j) = some (arr.getD j undef) := fun j hj => by
        have hlt' : j < arr.size := by omega
        rw [add_addr, hb.cell, show 0 * 1 + 0 + j = j by omega]
        simp [Array.getD_eq_getD_getElem?, Array.getElem?_eq_getElem hlt']
      refine ⟨.agg ((List.range m).map fun j => arr.getD j undef).toArray, w, g, _, st, ?_, hk, ?_, hr, GLe.refl _ _⟩
      · simp only [execOp, ho, hcv, Instr.loadAt, Instr.sureAddr, loadVar, Sem.run_bind, Sem.run_pure, Result.andThen_ok, hag, hm, if_true, run_loadCells w _ _ (fun j => arr.getD j undef) hcell]
      · refine .agg (by simp [hl]) fun j hj => ?_
        rw [List.length_map] at hj
        have e1 : (((List.range m).map fun j => arr.getD j undef).toArray).getD j undef = arr.getD j undef := by
          simp [Array.getD_eq_getD_getElem?, show j < m by omega]
        have e2 : ((xs.map f).getD j .un).cells.getD 0 .un = (xs.map f).getD j .un := by
          simp [List.getD, List.getElem?_eq_getElem hj, hc]
        have := hrd j 0 (by rw [List.length_map]; omega) (by omega)
        rw [e1]
        rw [e2] at this
        simpa using this
end
end Go.Lift
