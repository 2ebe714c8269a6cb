/- Lift, part Y: vectors of one's own that grow and shrink, pieces of them, and where they are published. -/
import Derived.Test.YtngliepchpkiiaaDoorLiftU
namespace Go.Lift
open Go.RowKit
variable {tp : Bool}

/-! ### A slice without elements as a vector -/
/-- What of a vector's name a value says, says it of a slice when the vector is published. -/
def PubTo (p sz : Nat) (xs : List AV) (a a' : AV) : Prop := ∀ g g' w v, (∀ v, Reads g w v (.vec p) → Reads g' w v (.sl .no sz xs)) → GLe g w g' w → Reads g w v a → Reads g' w v a'
theorem PubTo.refl {p sz : Nat} {xs : List AV} (a : AV) : PubTo p sz xs a a := fun g g' w v h hl hr => hr.mono hl
theorem PubTo.vec {p sz : Nat} {xs : List AV} : PubTo p sz xs (.vec p) (.sl .no sz xs) := fun g g' w v h hl hr => h v hr
def PubsTo (p sz : Nat) (xs : List AV) : List AV → List AV → Prop
  | [], [] => True
  | a :: as, b :: bs => PubTo p sz xs a b ∧ PubsTo p sz xs as bs
  | _, _ => False
theorem PubsTo.get {p sz : Nat} {xs : List AV} : ∀ {as bs : List AV}, PubsTo p sz xs as bs → as.length = bs.length ∧ ∀ j, j < as.length → PubTo p sz xs (as.getD j .un) (bs.getD j .un)
  | [], [], _ => ⟨rfl, fun j h => absurd h (Nat.not_lt_zero _)⟩
  | a :: as, b :: bs, h => by
    obtain ⟨h1, h2⟩ := h.2.get
    refine ⟨by simp [h1], fun j hj => ?_⟩
    cases j with
    | zero => exact h.1
    | succ j => exact h2 j (by simpa using hj)
theorem PubTo.agg {p sz : Nat} {xs as bs : List AV} (h : PubsTo p sz xs as bs) : PubTo p sz xs (.agg as) (.agg bs) := fun g g' w v hv hl hr => by
  obtain ⟨h1, h2⟩ := h.get
  cases hr with
  | agg hs hr => exact .agg (hs.trans h1) fun j hj => h2 j (by omega) g g' w _ hv hl (hr j (by omega))
theorem PubTo.tup {p sz : Nat} {xs as bs : List AV} (h : PubsTo p sz xs as bs) : PubTo p sz xs (.tup as) (.tup bs) := fun g g' w v hv hl hr => by
  obtain ⟨h1, h2⟩ := h.get
  cases hr with
  | tup hs hr => exact .tup (hs.trans h1) fun j hj => h2 j (by omega) g g' w _ hv hl (hr j (by omega))

section
variable {P : Program} {n : Nat} {ops : Array Oper} {o : Oper} {l : List Oper} {c : Code} {fr : Fr} {st : St} {K : Fr → St → Prop} {k : AV → St → Prop} {Q : Post} {N : Fr → St → Prop}

/-! ### append onto a vector -/
end
end Go.Lift
