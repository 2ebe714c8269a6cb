/- Lift, part E: memory: boxes, fields, loads, stores, literals. -/
import Derived.Test.YtngliepchpkiiaaDoorLiftD
namespace Go.Lift
open Go.RowKit

theorem add_addr (b off m : Nat) : (⟨b, off, Option.none⟩ : Addr).add m = ⟨b, off + m, Option.none⟩ := by
  unfold Addr.add
  split
  · simp_all
  · rfl

/-! ### Constants -/
def ofConst1 : Value → AV → Bool
  | .int k n, .int k' n' => k == k' && n == n'
  | .bool b, .bool b' => b == b'
  | .string s, .str l => s.data.toList == l
  | .slice none 0 0, .sl .full sz [] => 0 < sz
  | .slice none 0 0, .sl .no sz [] => 0 < sz
  | .pointer none, .nilp => true
  | .pointer none, .rp _ none => true
  | .slice none 0 0, .rs _ none => true
  | .map none, .lit (.map none) => true
  | _, _ => false

def allBelow : Nat → (Nat → Bool) → Bool
  | 0, _ => true
  | n + 1, f => allBelow n f && f n

theorem allBelow_spec {f : Nat → Bool} : ∀ {n : Nat}, allBelow n f = true → ∀ j, j < n → f j = true
  | n + 1, h, j, hj => by
    simp only [allBelow, Bool.and_eq_true] at h
    by_cases e : j = n
    · subst e; exact h.2
    · exact allBelow_spec h.1 j (by omega)

def ofConst : Value → AV → Bool
  | .agg cs, .agg as => cs.size == as.length && allBelow as.length fun j => ofConst1 (cs.getD j undef) (as.getD j .un)
  | v, a => ofConst1 v a

theorem ofConst1_reads {v : Value} {a : AV} (h : ofConst1 v a = true) (g : Gh) (w : World) : Reads g w v a := by
  unfold ofConst1 at h
  split at h
  · simp only [Bool.and_eq_true, beq_iff_eq] at h
    obtain ⟨rfl, rfl⟩ := h
    exact .int _ _
  · obtain rfl := beq_iff_eq.1 h
    exact .bool _
  · rename_i s l
    obtain rfl := beq_iff_eq.1 h
    have : s = ⟨s.data.toList.toArray⟩ := by simp
    rw [this]
    exact .str _
  · exact AV.Le.nilSlice _ (of_decide_eq_true h) g w _ (.lit _)
  · exact AV.Le.forget _ _ _ g w _ (AV.Le.nilSlice _ (of_decide_eq_true h) g w _ (.lit _))
  · exact .nilp
  · exact .rpn _
  · exact .rsn _
  · exact .lit _
  · cases h

theorem ofConst_reads {v : Value} {a : AV} (h : ofConst v a = true) (g : Gh) (w : World) : Reads g w v a := by
  unfold ofConst at h
  split at h
  · simp only [Bool.and_eq_true, beq_iff_eq] at h
    exact .agg h.1 fun j hj => ofConst1_reads (allBelow_spec h.2 j hj) g w
  · exact ofConst1_reads h g w

theorem AEv.const {fr : Fr} {v : Value} {a : AV} (h : ofConst v a = true) : AEv fr (.const v) a := fun _ g w _ _ => ofConst_reads h g w

/-! ### What a name holds -/
theorem mem_of_get {st F : St} {i : Nat} {p : Nat × AObj} (h : st[i]? = some p) : p ∈ st ++ F := List.mem_append_left _ (List.mem_of_getElem? h)

theorem perm_get {α : Type} {l : List α} {i : Nat} {x : α} (h : l[i]? = some x) : l.Perm (x :: l.eraseIdx i) := by
  induction l generalizing i with
  | nil => simp at h
  | cons y l ih =>
    cases i with
    | zero => simp at h; subst h; exact List.Perm.refl _
    | succ i =>
      simp at h
      exact ((ih h).cons y).trans (List.Perm.swap x y _)

theorem perm_set {α : Type} {l : List α} {i : Nat} {x : α} (y : α) (h : l[i]? = some x) : (l.set i y).Perm (y :: l.eraseIdx i) := by
  induction l generalizing i with
  | nil => simp at h
  | cons z l ih =>
    cases i with
    | zero => exact List.Perm.refl _
    | succ i =>
      simp at h
      exact ((ih h).cons z).trans (List.Perm.swap y z _)

theorem Rel.focus {E : Env} {st F : St} {g : Gh} {w : World} {i : Nat} {p : Nat × AObj} (h : Rel E (st ++ F) g w) (hi : st[i]? = some p) : Rel E (p :: (st.eraseIdx i ++ F)) g w :=
  h.perm ((perm_get hi).append_right F).symm

theorem Rel.unfocus {E : Env} {st F : St} {g : Gh} {w : World} {i : Nat} {p q : Nat × AObj} (h : Rel E (q :: (st.eraseIdx i ++ F)) g w) (hi : st[i]? = some p) : Rel E (st.set i q ++ F) g w :=
  h.perm ((perm_set q hi).append_right F)

section
variable {P : Program} {n : Nat} {ops : Array Oper} {o : Oper} {l l1 l2 : List Oper} {fr : Fr} {st : St} {K : Fr → St → Prop} {k : AV → St → Prop}

/-- A new variable that holds a value. -/
theorem op_box {T : TypeId} {x : Operand} {v : AV} {cs : List AV} (ho : o.op = .box T x) (hx : AEv fr x v) (hcs : v.cells = cs) (hc : cs.all AV.isCell = true)
    (hk : ∀ p, k (.ptr p 0) ((p, .cells cs) :: st)) : AOp P n o fr st k :=
  AOp.of_run fun E F a w g hf hr => by
    have hv := hx n g w a hf
    subst hcs
    obtain ⟨p, g', h1, h2, h3⟩ := hr.box (a.eval x).cells T v.cells (hv.cells_size hc) hc (fun j hj => hv.cells_at hc j hj)
    refine ⟨.pointer (some ⟨w.heap.size, 0, Option.none⟩), _, g', .ptr p 0, _, ?_, hk p, .ptr 0 h1, h2, h3⟩
    simp [execOp, ho, Instr.box, newVar, newRow, newObj, Sem.run]

/-- A new variable with its zero value. -/
theorem op_alloc {T : TypeId} {zv : Value} {v : AV} {cs : List AV} (ho : o.op = .alloc T) (hz : ∀ w, (zeroValue T).run P w = .ok zv w) (hv : ofConst zv v = true) (hcs : v.cells = cs) (hc : cs.all AV.isCell = true)
    (hk : ∀ p, k (.ptr p 0) ((p, .cells cs) :: st)) : AOp P n o fr st k :=
  AOp.of_run fun E F a w g hf hr => by
    have hv := ofConst_reads hv g w
    subst hcs
    obtain ⟨p, g', h1, h2, h3⟩ := hr.box zv.cells T v.cells (hv.cells_size hc) hc (fun j hj => hv.cells_at hc j hj)
    refine ⟨.pointer (some ⟨w.heap.size, 0, Option.none⟩), _, g', .ptr p 0, _, ?_, hk p, .ptr 0 h1, h2, h3⟩
    simp [execOp, ho, Instr.alloc, hz, newVar, newRow, newObj, Sem.run]

/-- The address of a field. -/
theorem pu_fieldAddr {S : TypeId} {x : Operand} {i : Nat} {fields : Array Field} {fd : Field} {sz : Nat} {v v' : AV} (ho : o.op = .fieldAddr S x i) (hu : P.underlying S = some (.struct fields)) (hi : fields[i]? = some fd)
    (hsz : ∀ w, (sizeOf fd.type).run P w = .ok sz w) (h0 : sz ≠ 0) (hx : AEv fr x v)
    (hv : (match v with | .ptr p off => some (.ptr p (off + fd.offset)) | .vptr cs => some (.vptr (cs.drop fd.offset)) | .eptr p i j => some (.eptr p i (j + fd.offset)) | _ => none) = some v') : APure P n o fr v' :=
  fun a w g hf => by
    have h := hx n g w a hf
    generalize hcv : a.eval x = cv at h
    have run : ∀ b off, cv = .pointer (some ⟨b, off, Option.none⟩) → ∀ W, (execOp a.eval o).run P W = .ok (.value (.pointer (some ⟨b, off + fd.offset, Option.none⟩))) W := fun b off e W => by
      simp [execOp, ho, hcv, e, Instr.fieldAt, run_underlying hu, hi, Instr.sureAddr, fieldPlace, hsz, h0, add_addr]
    cases h <;> simp at hv
    case ptr b p off h => subst hv; exact ⟨_, run _ _ rfl, .ptr _ h⟩
    case eptr b nn c sz' p i' j h => subst hv; exact ⟨_, run _ _ rfl, by rw [Nat.add_assoc]; exact .eptr _ _ h⟩
    case vptr cs b off cv2 hcell hr =>
      subst hv
      refine ⟨_, run _ _ rfl, .vptr b (off + fd.offset) (fun q => cv2 (fd.offset + q)) (fun q hq => ?_) (fun q hq => ?_)⟩
      · have := hcell (fd.offset + q) (by simp at hq; omega)
        rw [Nat.add_assoc]
        exact this
      · have := hr (fd.offset + q) (by simp at hq; omega)
        have e : (cs.drop fd.offset).getD q .un = cs.getD (fd.offset + q) .un := by simp [List.getD, List.getElem?_drop]
        rw [e]
        exact this

/-- One cell of a variable. -/
theorem op_load1 {T : TypeId} {x : Operand} {p off i : Nat} {cs : List AV} {v : AV} (ho : o.op = .load T x) (hag : ∀ w, (isAgg T).run P w = .ok false w) (hx : AEv fr x (.ptr p off)) (hg : st[i]? = some (p, .cells cs))
    (hv : cs[off]? = some v) (hk : k v st) : AOp P n o fr st k :=
  AOp.of_run fun E F a w g hf hr => by
    have h := hx n g w a hf
    generalize hcv : a.eval x = cv at h
    cases h with
    | @ptr b _ off hp =>
      have hok := hr.ok p _ (mem_of_get hg)
      rw [hp] at hok
      obtain ⟨_, arr, hb, hs, hc, hrd⟩ := hok
      have hlt : off < cs.length := (List.getElem?_eq_some_iff.1 hv).1
      have hlt' : off < arr.size := by rw [hs]; exact hlt
      have hcell : w.cell? ⟨b, off, Option.none⟩ = some (arr.getD off undef) := by
        rw [hb.cell]; simp [Array.getD_eq_getD_getElem?, Array.getElem?_eq_getElem hlt']
      refine ⟨arr.getD off undef, w, g, v, st, ?_, hk, ?_, hr, GLe.refl _ _⟩
      · simp [execOp, ho, hcv, Instr.loadAt, Instr.sureAddr, loadVar, hag, load, Sem.run, hcell]
      · have := hrd off hlt
        simpa [List.getD, hv] using this

/-- A struct (or array) out of a variable. -/
theorem op_loadN {T : TypeId} {x : Operand} {p off i sz : Nat} {cs vs : List AV} (ho : o.op = .load T x) (hag : ∀ w, (isAgg T).run P w = .ok true w) (hsz : ∀ w, (sizeOf T).run P w = .ok sz w) (hx : AEv fr x (.ptr p off))
    (hg : st[i]? = some (p, .cells cs)) (hle : off + sz ≤ cs.length) (hv : (cs.drop off).take sz = vs) (hk : k (.agg vs) st) : AOp P n o fr st k :=
  AOp.of_run fun E F a w g hf hr => by
    have h := hx n g w a hf
    generalize hcv : a.eval x = cv at h
    cases h with
    | @ptr b _ off hp =>
      have hok := hr.ok p _ (mem_of_get hg)
      rw [hp] at hok
      obtain ⟨_, arr, hb, hs, hc, hrd⟩ := hok
      have hcell : ∀ j, j < sz → w.cell? ((⟨b, off, Option.none⟩ : Addr).add j) = some (arr.getD (off + j) undef) := fun j hj => by
        have hlt' : off + j < arr.size := by rw [hs]; omega
        rw [add_addr, hb.cell]; simp [Array.getD_eq_getD_getElem?, Array.getElem?_eq_getElem hlt']
      refine ⟨.agg ((List.range sz).map fun j => arr.getD (off + j) undef).toArray, w, g, _, st, ?_, hk, ?_, hr, GLe.refl _ _⟩
      · simp only [execOp, ho, hcv, Instr.loadAt, Instr.sureAddr, loadVar, Sem.run_bind, Sem.run_pure, Result.andThen_ok, hag, hsz, if_true, run_loadCells w _ _ (fun j => arr.getD (off + j) undef) hcell]
      · subst hv
        have hl : ((cs.drop off).take sz).length = sz := by simp; omega
        refine .agg (by simp [hl]) fun j hj => ?_
        rw [hl] at hj
        have e1 : (((List.range sz).map fun j => arr.getD (off + j) undef).toArray).getD j undef = arr.getD (off + j) undef := by
          simp [Array.getD_eq_getD_getElem?, hj]
        have e2 : ((cs.drop off).take sz).getD j .un = cs.getD (off + j) .un := by
          simp [List.getD, List.getElem?_take, hj, List.getElem?_drop]
        rw [e1, e2]
        exact hrd (off + j) (by omega)

/-- One cell of an element that is only read. -/
theorem op_loadV1 {T : TypeId} {x : Operand} {cs : List AV} {v : AV} (ho : o.op = .load T x) (hag : ∀ w, (isAgg T).run P w = .ok false w) (hx : AEv fr x (.vptr cs)) (hv : cs[0]? = some v) (hk : k v st) : AOp P n o fr st k :=
  AOp.of_pure v (fun E F a w g hf _ => by
    have h := hx n g w a hf
    generalize hcv : a.eval x = cv at h
    cases h with
    | vptr b off cv2 hcell hr =>
      have hlt : 0 < cs.length := (List.getElem?_eq_some_iff.1 hv).1
      have hc := (hcell 0 hlt).2
      refine ⟨cv2 0, ?_, ?_⟩
      · simp only [Nat.add_zero] at hc
        simp [execOp, ho, hcv, Instr.loadAt, Instr.sureAddr, loadVar, hag, load, Sem.run, hc]
      · have := hr 0 hlt
        simpa [List.getD, hv] using this) hk

/-- A struct element that is only read. -/
theorem op_loadVN {T : TypeId} {x : Operand} {sz : Nat} {cs vs : List AV} (ho : o.op = .load T x) (hag : ∀ w, (isAgg T).run P w = .ok true w) (hsz : ∀ w, (sizeOf T).run P w = .ok sz w) (hx : AEv fr x (.vptr cs))
    (hle : sz ≤ cs.length) (hv : cs.take sz = vs) (hk : k (.agg vs) st) : AOp P n o fr st k :=
  AOp.of_pure _ (fun E F a w g hf _ => by
    have h := hx n g w a hf
    generalize hcv : a.eval x = cv at h
    cases h with
    | vptr b off cv2 hcell hr =>
      have hc : ∀ j, j < sz → w.cell? ((⟨b, off, Option.none⟩ : Addr).add j) = some (cv2 j) := fun j hj => by rw [add_addr]; exact (hcell j (by omega)).2
      refine ⟨.agg ((List.range sz).map cv2).toArray, ?_, ?_⟩
      · simp only [execOp, ho, hcv, Instr.loadAt, Instr.sureAddr, loadVar, Sem.run_bind, Sem.run_pure, Result.andThen_ok, hag, hsz, if_true, run_loadCells w _ _ cv2 hc]
      · subst hv
        have hl : (cs.take sz).length = sz := by simp; omega
        refine .agg (by simp [hl]) fun j hj => ?_
        rw [hl] at hj
        have e1 : (((List.range sz).map cv2).toArray).getD j undef = cv2 j := by simp [Array.getD_eq_getD_getElem?, hj]
        have e2 : (cs.take sz).getD j .un = cs.getD j .un := by simp [List.getD, List.getElem?_take, hj]
        rw [e1, e2]
        exact hr j (by omega)) hk

end
end Go.Lift
