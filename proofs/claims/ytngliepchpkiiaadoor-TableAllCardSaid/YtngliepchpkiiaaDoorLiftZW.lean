/- Lift, part ZW: structs that hold structs, and arrays, held against one another; whole arrays read. -/
import Derived.Test.YtngliepchpkiiaaDoorLiftZT
namespace Go.Lift
open Go.RowKit

section
variable {P : Program} {n : Nat} {o : Oper} {fr : Fr} {st : St} {k : AV → St → Prop}

/-- Values of a type are held against one another, k layers deep. -/
def VEq (P : Program) (k : Nat) (t : TypeId) (c d : AV) (e : Bool) : Prop :=
  ∀ (g : Gh) (w : World) (v u : Value), Reads g w v c → Reads g w u d → ∀ (m : Nat) (W : World), (Op.equalIn (m + k) t v u).run P W = .ok e W

theorem VEq.of {t : TypeId} {c d : AV} {e : Bool} (h : CEq P t c d e) {k : Nat} : VEq P (k + 1) t c d e := fun g w v u hv hu m W => h.run hv hu (m + k) W
theorem VEq.eq {k : Nat} {t : TypeId} {c d : AV} {e e' : Bool} (h : VEq P k t c d e) (he : e' = e) : VEq P k t c d e' := he ▸ h

/-- A part of a struct. -/
def PartIs (P : Program) (t : TypeId) (cs : List AV) (off : Nat) (c : AV) : Prop :=
  ((∀ w, (isAgg t).run P w = .ok false w) ∧ cs[off]? = some c) ∨
  (∃ n, (∀ w, (isAgg t).run P w = .ok true w) ∧ (∀ w, (sizeOf t).run P w = .ok n w) ∧ off + n ≤ cs.length ∧ c = .agg ((cs.drop off).take n))

theorem PartIs.run {t : TypeId} {cs : List AV} {off : Nat} {c : AV} (h : PartIs P t cs off c) {g : Gh} {w : World} {xs : Array Value} (hx : xs.size = cs.length) (rx : ∀ j, j < cs.length → Reads g w (xs.getD j undef) (cs.getD j .un)) :
    ∃ v, (∀ W, (part t xs off).run P W = .ok v W) ∧ Reads g w v c := by
  rcases h with ⟨h2, h3⟩ | ⟨n, h2, hn, hl, rfl⟩
  · have l1 := (List.getElem?_eq_some_iff.1 h3).1
    have r1 := rx _ l1
    have e1 : cs.getD off .un = c := by simp [List.getD, h3]
    rw [e1] at r1
    refine ⟨_, fun W => ?_, r1⟩
    have : off < xs.size := by omega
    simp [part, h2, Array.getElem?_eq_getElem this, Array.getD_eq_getD_getElem?]
  · have hlen : ((cs.drop off).take n).length = n := by rw [List.length_take, List.length_drop]; omega
    refine ⟨_, fun W => by simp only [part, Sem.run_bind, h2, hn, Result.andThen_ok, if_true, Sem.run_pure]; rfl, .agg (by rw [hlen, Array.size_extract]; omega) fun j hj => ?_⟩
    rw [hlen] at hj
    have r := rx (off + j) (by omega)
    have e1 : ((cs.drop off).take n).getD j .un = cs.getD (off + j) .un := by simp [List.getD, List.getElem?_take, hj, List.getElem?_drop]
    have e2 : (xs.extract off (off + n)).getD j undef = xs.getD (off + j) undef := by
      simp only [Array.getD_eq_getD_getElem?, Array.getElem?_extract]
      rw [if_pos (by omega)]
    rw [e1, e2]
    exact r

def FEqs (P : Program) (k : Nat) : List Field → List AV → List AV → Bool → Prop
  | [], _, _, b => b = true
  | f :: fs, cs, ds, b => ∃ c d e b', (f.name ≠ "_" ∧ PartIs P f.type cs f.offset c ∧ PartIs P f.type ds f.offset d ∧ VEq P k f.type c d e) ∧ FEqs P k fs cs ds b' ∧ b = (e && b')

theorem FEqs.run {k : Nat} {g : Gh} {w : World} {xs ys : Array Value} {cs ds : List AV} (hx : xs.size = cs.length) (hy : ys.size = ds.length) (rx : ∀ j, j < cs.length → Reads g w (xs.getD j undef) (cs.getD j .un)) (ry : ∀ j, j < ds.length → Reads g w (ys.getD j undef) (ds.getD j .un))
    (m : Nat) (W : World) : ∀ {fs : List Field} {b : Bool}, FEqs P k fs cs ds b → (Op.eqFields (m + k) xs ys fs).run P W = .ok b W
  | [], b, h => by subst h; rfl
  | f :: fs, b, h => by
    obtain ⟨c, d, e, b', ⟨h1, h2, h3, h5⟩, h6, rfl⟩ := h
    obtain ⟨v, p1, r1⟩ := h2.run hx rx
    obtain ⟨u, p2, r2⟩ := h3.run hy ry
    have q := h5 g w v u r1 r2 m W
    have ih := FEqs.run hx hy rx ry m W h6
    simp only [Op.eqFields, Sem.run_bind, Sem.run_ite, if_pos h1, p1, p2, q, Result.andThen_ok]
    cases e with
    | false => simp
    | true => simp [ih]

theorem VEq.struct {k : Nat} {t : TypeId} {fields : Array Field} {cs ds : List AV} {b : Bool} (ht : P.underlying t = some (.struct fields)) (hp : P.stoodInHeld t = false) (he : FEqs P k fields.toList cs ds b) : VEq P (k + 1) t (.agg cs) (.agg ds) b := by
  intro g w v u h1 h2 m W
  cases h1 with
  | @agg xs _ s1 r1 =>
    cases h2 with
    | @agg ys _ s2 r2 =>
      have hfs : P.fieldsOf t = fields := by simp [Program.fieldsOf, ht]
      have hrun := run_equalIn_struct (P := P) W (m + k) t xs ys (by rw [hfs]; exact ht) hp
      have hq := FEqs.run s1 s2 r1 r2 m W he
      rw [hfs] at hrun
      rw [hq] at hrun
      exact hrun

end
end Go.Lift
