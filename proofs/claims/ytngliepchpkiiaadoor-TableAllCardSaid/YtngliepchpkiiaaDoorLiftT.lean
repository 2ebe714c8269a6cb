/- Lift, part T: calls that come back to themselves, structs held against one another, functions without a body, contracts that only lay new blocks. -/
import Derived.Test.YtngliepchpkiiaaDoorLiftS
import Derived.Lib.LazyBuf
namespace Go.Lift
open Go.RowKit

/-! ### Recursion -/
open Classical in
/-- What is told with enough depth. -/
noncomputable def fixO {α : Type} (F : Nat → Option α) : Option α :=
  if h : ∃ k r, F k = some r then some (Classical.choose (Classical.choose_spec h)) else none

theorem fixO_some {α : Type} {F : Nat → Option α} {r : α} (h : fixO F = some r) : ∃ k, F k = some r := by
  unfold fixO at h
  split at h
  · rename_i hx
    have := Classical.choose_spec (Classical.choose_spec hx)
    injection h with h
    exact ⟨_, by rw [← h]; exact this⟩
  · cases h

theorem OLe.le {α : Type} {F : Nat → Option α} (hm : ∀ k, OLe (F k) (F (k + 1))) {k m : Nat} (h : k ≤ m) : OLe (F k) (F m) := by
  induction m with
  | zero => obtain rfl : k = 0 := by omega
            exact .refl _
  | succ m ih =>
    by_cases e : k = m + 1
    · subst e; exact .refl _
    · exact fun r hr => hm m r (ih (by omega) r hr)

theorem fixO_eq {α : Type} {F : Nat → Option α} (hm : ∀ k, OLe (F k) (F (k + 1))) {k : Nat} {r : α} (h : F k = some r) : fixO F = some r := by
  have hx : ∃ k r, F k = some r := ⟨k, r, h⟩
  unfold fixO
  rw [dif_pos hx]
  have := Classical.choose_spec (Classical.choose_spec hx)
  congr 1
  have h1 := OLe.le hm (Nat.le_max_left (Classical.choose hx) k) _ this
  have h2 := OLe.le hm (Nat.le_max_right (Classical.choose hx) k) _ h
  rw [h1] at h2
  exact Option.some.inj h2

theorem OLe.none {α : Type} {a : Option α} : OLe Option.none a := fun r h => nomatch h

section
variable {P : Program} {n : Nat} {ops : Array Oper} {o : Oper} {l : List Oper} {fr : Fr} {st : St} {K : Fr → St → Prop} {k : AV → St → Prop} {α : Type}

/-! ### Structs held against one another -/
def CEq (P : Program) (t : TypeId) (c d : AV) (e : Bool) : Prop :=
  (∃ k x y, P.underlying t = some (.int k) ∧ c = .int k x ∧ d = .int k y ∧ e = decide (x = y)) ∨
  (∃ x y, P.underlying t = some .bool ∧ c = .bool x ∧ d = .bool y ∧ e = decide (x = y)) ∨
  (∃ x y, P.underlying t = some .string ∧ c = .str x ∧ d = .str y ∧ e = decide (x = y))

theorem CEq.int {t : TypeId} {k : IntKind} {x y : Int} (h : P.underlying t = some (.int k)) : CEq P t (.int k x) (.int k y) (decide (x = y)) := .inl ⟨k, x, y, h, rfl, rfl, rfl⟩
theorem CEq.bool {t : TypeId} {x y : Bool} (h : P.underlying t = some .bool) : CEq P t (.bool x) (.bool y) (decide (x = y)) := .inr (.inl ⟨x, y, h, rfl, rfl, rfl⟩)
theorem CEq.str {t : TypeId} {x y : List UInt8} (h : P.underlying t = some .string) : CEq P t (.str x) (.str y) (decide (x = y)) := .inr (.inr ⟨x, y, h, rfl, rfl, rfl⟩)

theorem CEq.run {t : TypeId} {c d : AV} {e : Bool} (h : CEq P t c d e) {g : Gh} {w : World} {v u : Value} (hv : Reads g w v c) (hu : Reads g w u d) (m : Nat) (W : World) : (Op.equalIn (m + 1) t v u).run P W = .ok e W := by
  rcases h with ⟨k, x, y, ht, rfl, rfl, rfl⟩ | ⟨x, y, ht, rfl, rfl, rfl⟩ | ⟨x, y, ht, rfl, rfl, rfl⟩
  · cases hv; cases hu
    rw [run_equalIn_int W m t k k x y ht, Bool.beq_eq_decide_eq]
  · cases hv; cases hu
    rw [run_equalIn_bool' W m t x y ht, Bool.beq_eq_decide_eq]
  · cases hv; cases hu
    rw [run_equalIn_string W m t _ _ ht, bs_toList, bs_toList, Bool.beq_eq_decide_eq]

def FEq (P : Program) : List Field → List AV → List AV → Bool → Prop
  | [], _, _, b => b = true
  | f :: fs, cs, ds, b => ∃ c d e b', (f.name ≠ "_" ∧ (∀ w, (isAgg f.type).run P w = .ok false w) ∧ cs[f.offset]? = some c ∧ ds[f.offset]? = some d ∧ CEq P f.type c d e) ∧ FEq P fs cs ds b' ∧ b = (e && b')

theorem FEq.run {g : Gh} {w : World} {xs ys : Array Value} {cs ds : List AV} (hx : xs.size = cs.length) (hy : ys.size = ds.length) (rx : ∀ j, j < cs.length → Reads g w (xs.getD j undef) (cs.getD j .un)) (ry : ∀ j, j < ds.length → Reads g w (ys.getD j undef) (ds.getD j .un))
    (m : Nat) (W : World) : ∀ {fs : List Field} {b : Bool}, FEq P fs cs ds b → (Op.eqFields (m + 1) xs ys fs).run P W = .ok b W
  | [], b, h => by subst h; rfl
  | f :: fs, b, h => by
    obtain ⟨c, d, e, b', ⟨h1, h2, h3, h4, h5⟩, h6, rfl⟩ := h
    have l1 := (List.getElem?_eq_some_iff.1 h3).1
    have l2 := (List.getElem?_eq_some_iff.1 h4).1
    have r1 := rx _ l1
    have r2 := ry _ l2
    have e1 : cs.getD f.offset .un = c := by simp [List.getD, h3]
    have e2 : ds.getD f.offset .un = d := by simp [List.getD, h4]
    rw [e1] at r1
    rw [e2] at r2
    have p1 : (part f.type xs f.offset).run P W = .ok (xs.getD f.offset undef) W := by
      have : f.offset < xs.size := by omega
      simp [part, h2, Array.getElem?_eq_getElem this, Array.getD_eq_getD_getElem?]
    have p2 : (part f.type ys f.offset).run P W = .ok (ys.getD f.offset undef) W := by
      have : f.offset < ys.size := by omega
      simp [part, h2, Array.getElem?_eq_getElem this, Array.getD_eq_getD_getElem?]
    have q := h5.run r1 r2 m W
    have ih := FEq.run hx hy rx ry m W h6
    simp only [Op.eqFields, Sem.run_bind, Sem.run_ite, if_pos h1, p1, p2, q, Result.andThen_ok]
    cases e with
    | false => simp
    | true => simp [ih]

/-! ### nil or not -/
end

/-! ### Contracts that only lay new blocks -/
theorem Rel.below {E : Env} {st : St} {g : Gh} {w w' : World} (h : Rel E st g w) (hb : Below w.heap.size w w') : Rel E st g w' ∧ GLe g w g w' :=
  h.grow hb.os hb.tape hb.output hb.size hb.block (fun _ _ h => h) (fun _ _ h => .inl h) (fun _ _ => rfl) h.fresh

end Go.Lift
