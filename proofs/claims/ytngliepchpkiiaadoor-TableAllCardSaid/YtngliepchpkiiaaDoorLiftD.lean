/- Lift, part D: numbers, bools, strings. -/
import Derived.Test.YtngliepchpkiiaaDoorLiftC
import Derived.Laws.Shifts
import Derived.Laws.Small
import Derived.Laws.StructEq
namespace Go.Lift
open Go.RowKit

theorem bs_append (a b : List UInt8) : ((⟨a.toArray⟩ : ByteArray) ++ ⟨b.toArray⟩) = ⟨(a ++ b).toArray⟩ := ByteArray.mk_append_mk a b
theorem bs_size (a : List UInt8) : (⟨a.toArray⟩ : ByteArray).size = a.length := by simp [ByteArray.size]
theorem bs_toList (a : List UInt8) : (⟨a.toArray⟩ : ByteArray).toList = a := by rw [ByteArray.toList_eq]
theorem bs_extract (a : List UInt8) (l h : Nat) : (⟨a.toArray⟩ : ByteArray).extract l h = ⟨((a.take h).drop l).toArray⟩ := by
  apply ByteArray.ext
  rw [ByteArray.data_extract]
  simp [List.extract_eq_take_drop, List.drop_take]
theorem bs_get (a : List UInt8) (i : Nat) : (⟨a.toArray⟩ : ByteArray)[i]? = a[i]? := by
  by_cases h : i < a.length
  · rw [ByteArray.getElem?_lt' _ _ (by rw [bs_size]; exact h), List.getElem?_eq_getElem h]
    rfl
  · rw [ByteArray.getElem?_ge' _ _ (by rw [bs_size]; exact h), List.getElem?_eq_none (by omega)]
/-- Is a string below another one? -/
def strLt (a b : List UInt8) : Bool := Op.bytesLess a b

section
variable {P : Program} {n : Nat} {ops : Array Oper} {o : Oper} {l l1 l2 : List Oper} {fr : Fr} {st : St} {K : Fr → St → Prop} {k : AV → St → Prop}

theorem AEv.eInt {x : Operand} {kk : IntKind} {i : Int} (h : AEv fr x (.int kk i)) {g : Gh} {w : World} {a : Act} (hf : FRel n g w a fr) : a.eval x = .int kk i := by
  have := h n g w a hf
  generalize a.eval x = v at this
  cases this
  rfl
theorem AEv.eBool {x : Operand} {b : Bool} (h : AEv fr x (.bool b)) {g : Gh} {w : World} {a : Act} (hf : FRel n g w a fr) : a.eval x = .bool b := by
  have := h n g w a hf
  generalize a.eval x = v at this
  cases this
  rfl
theorem AEv.eStr {x : Operand} {s : List UInt8} (h : AEv fr x (.str s)) {g : Gh} {w : World} {a : Act} (hf : FRel n g w a fr) : a.eval x = .string ⟨s.toArray⟩ := by
  have := h n g w a hf
  generalize a.eval x = v at this
  cases this
  rfl
/-! ### Whole numbers -/
def ibin : BinOp → IntKind → Int → Int → AV
  | .add, k, x, y => .int k (k.wrap (x + y))
  | .sub, k, x, y => .int k (k.wrap (x - y))
  | .mul, k, x, y => .int k (k.wrap (x * y))
  | .and, k, x, y => .int k (Go.bits .and k x y)
  | .or, k, x, y => .int k (Go.bits .or k x y)
  | .xor, k, x, y => .int k (Go.bits .xor k x y)
  | .andNot, k, x, y => .int k (Go.bits .andNot k x y)
  | .eql, _, x, y => .bool (decide (x = y))
  | .neq, _, x, y => .bool (!decide (x = y))
  | .lss, _, x, y => .bool (decide (x < y))
  | .leq, _, x, y => .bool (decide (x ≤ y))
  | .gtr, _, x, y => .bool (decide (y < x))
  | .geq, _, x, y => .bool (decide (y ≤ x))
  | _, _, _, _ => .un

def ibinOk : BinOp → Bool
  | .add | .sub | .mul | .and | .or | .xor | .andNot | .eql | .neq | .lss | .leq | .gtr | .geq => true
  | _ => false

theorem pu_int {op : BinOp} {t yt : TypeId} {x y : Operand} {kk : IntKind} {i j : Int} {v : AV} (ho : o.op = .binOp op t x y yt) (hb : ibinOk op = true) (hx : AEv fr x (.int kk i)) (hy : AEv fr y (.int kk j))
    (hv : ibin op kk i j = v) : APure P n o fr v :=
  fun a w g hf => (by
    subst hv
    have h1 := hx.eInt hf
    have h2 := hy.eInt hf
    cases op <;> first | (simp [ibinOk] at hb; done) | skip
    case add => exact ⟨.int kk (kk.wrap (i + j)), fun W => by simp [execOp, ho, h1, h2, eqGuard, binOp, Op.intArith], .int _ _⟩
    case sub => exact ⟨.int kk (kk.wrap (i - j)), fun W => by simp [execOp, ho, h1, h2, eqGuard, binOp, Op.intArith], .int _ _⟩
    case mul => exact ⟨.int kk (kk.wrap (i * j)), fun W => by simp [execOp, ho, h1, h2, eqGuard, binOp, Op.intArith], .int _ _⟩
    case and => exact ⟨.int kk (Go.bits .and kk i j), fun W => by simp [execOp, ho, h1, h2, eqGuard, binOp, intBits_and], .int _ _⟩
    case or => exact ⟨.int kk (Go.bits .or kk i j), fun W => by simp [execOp, ho, h1, h2, eqGuard, binOp, intBits_or], .int _ _⟩
    case xor => exact ⟨.int kk (Go.bits .xor kk i j), fun W => by simp [execOp, ho, h1, h2, eqGuard, binOp, intBits_xor], .int _ _⟩
    case andNot => exact ⟨.int kk (Go.bits .andNot kk i j), fun W => by simp [execOp, ho, h1, h2, eqGuard, binOp, intBits_andNot], .int _ _⟩
    case eql => exact ⟨.bool (decide (i = j)), fun W => by simp [execOp, ho, h1, h2, eqGuard, binOp, Op.intCmp]; exact Bool.beq_eq_decide_eq i j, .bool _⟩
    case neq => exact ⟨.bool (!decide (i = j)), fun W => by simp [execOp, ho, h1, h2, eqGuard, binOp, Op.intCmp, bne]; exact Bool.beq_eq_decide_eq i j, .bool _⟩
    case lss => exact ⟨.bool (decide (i < j)), fun W => by simp [execOp, ho, h1, h2, eqGuard, binOp, Op.intCmp], .bool _⟩
    case leq => exact ⟨.bool (decide (i ≤ j)), fun W => by simp [execOp, ho, h1, h2, eqGuard, binOp, Op.intCmp], .bool _⟩
    case gtr => exact ⟨.bool (decide (j < i)), fun W => by simp [execOp, ho, h1, h2, eqGuard, binOp, Op.intCmp], .bool _⟩
    case geq => exact ⟨.bool (decide (j ≤ i)), fun W => by simp [execOp, ho, h1, h2, eqGuard, binOp, Op.intCmp], .bool _⟩)

theorem pu_quo {t yt : TypeId} {x y : Operand} {kk : IntKind} {i j : Int} (ho : o.op = .binOp .quo t x y yt) (hx : AEv fr x (.int kk i)) (hy : AEv fr y (.int kk j)) (h0 : j ≠ 0)
    : APure P n o fr (.int kk (kk.wrap (i.tdiv j))) :=
  fun a w g hf => (⟨_, fun W => by simp [execOp, ho, hx.eInt hf, hy.eInt hf, eqGuard, binOp, Op.intDiv, h0], .int _ _⟩)

theorem pu_rem {t yt : TypeId} {x y : Operand} {kk : IntKind} {i j : Int} (ho : o.op = .binOp .rem t x y yt) (hx : AEv fr x (.int kk i)) (hy : AEv fr y (.int kk j)) (h0 : j ≠ 0)
    : APure P n o fr (.int kk (i.tmod j)) :=
  fun a w g hf => (⟨_, fun W => by simp [execOp, ho, hx.eInt hf, hy.eInt hf, eqGuard, binOp, Op.intDiv, h0], .int _ _⟩)

theorem pu_not {t : TypeId} {x : Operand} {b : Bool} (ho : o.op = .unOp .not t x) (hx : AEv fr x (.bool b)) : APure P n o fr (.bool (!b)) :=
  fun a w g hf => (⟨_, fun W => by simp [execOp, ho, hx.eBool hf, Op.unary], .bool _⟩)

theorem pu_neg {t : TypeId} {x : Operand} {kk : IntKind} {i : Int} (ho : o.op = .unOp .neg t x) (hx : AEv fr x (.int kk i)) : APure P n o fr (.int kk (kk.wrap (0 - i))) :=
  fun a w g hf => (⟨_, fun W => by simp [execOp, ho, hx.eInt hf, Op.unary, Op.intArith], .int _ _⟩)

/-- int kinds -/
theorem pu_conv {s d : TypeId} {x : Operand} {ki kk : IntKind} {i : Int} (ho : o.op = .convert s d x) (hs : P.underlying s = some (.int ki)) (hd : P.underlying d = some (.int kk)) (hx : AEv fr x (.int ki i))
    : APure P n o fr (.int kk (kk.wrap i)) :=
  fun a w g hf => (⟨_, fun W => by simp [execOp, ho, hx.eInt hf, convert, run_underlying hs, run_underlying hd, Conv.intToInt], .int _ _⟩)

/-! ### Strings -/
def sbin : BinOp → List UInt8 → List UInt8 → AV
  | .eql, x, y => .bool (decide (x = y))
  | .neq, x, y => .bool (!decide (x = y))
  | .lss, x, y => .bool (strLt x y)
  | .leq, x, y => .bool (strLt x y || decide (x = y))
  | .gtr, x, y => .bool (!(strLt x y || decide (x = y)))
  | .geq, x, y => .bool (!strLt x y)
  | _, _, _ => .un
def sbinOk : BinOp → Bool
  | .eql | .neq | .lss | .leq | .gtr | .geq => true
  | _ => false

theorem pu_str {op : BinOp} {t yt : TypeId} {x y : Operand} {i j : List UInt8} {v : AV} (ho : o.op = .binOp op t x y yt) (hb : sbinOk op = true) (hx : AEv fr x (.str i)) (hy : AEv fr y (.str j))
    (hv : sbin op i j = v) : APure P n o fr v :=
  fun a w g hf => (by
    subst hv
    have h1 := hx.eStr hf
    have h2 := hy.eStr hf
    have he : (i == j) = decide (i = j) := Bool.beq_eq_decide_eq i j
    cases op <;> first | (simp [sbinOk] at hb; done) | skip
    case eql => exact ⟨.bool (decide (i = j)), fun W => by simp [execOp, ho, h1, h2, eqGuard, binOp, Op.stringOp, bs_toList, he], .bool _⟩
    case neq => exact ⟨.bool (!decide (i = j)), fun W => by simp [execOp, ho, h1, h2, eqGuard, binOp, Op.stringOp, bs_toList, he], .bool _⟩
    case lss => exact ⟨.bool (strLt i j), fun W => by simp [execOp, ho, h1, h2, eqGuard, binOp, Op.stringOp, bs_toList, strLt], .bool _⟩
    case leq => exact ⟨.bool (strLt i j || decide (i = j)), fun W => by simp [execOp, ho, h1, h2, eqGuard, binOp, Op.stringOp, bs_toList, strLt, he], .bool _⟩
    case gtr => exact ⟨.bool (!(strLt i j || decide (i = j))), fun W => by simp [execOp, ho, h1, h2, eqGuard, binOp, Op.stringOp, bs_toList, strLt, he], .bool _⟩
    case geq => exact ⟨.bool (!strLt i j), fun W => by simp [execOp, ho, h1, h2, eqGuard, binOp, Op.stringOp, bs_toList, strLt], .bool _⟩)

theorem pu_strAdd {t yt : TypeId} {x y : Operand} {i j : List UInt8} (ho : o.op = .binOp .add t x y yt) (hx : AEv fr x (.str i)) (hy : AEv fr y (.str j)) (hb : i.length + j.length ≤ 9223372036854775807)
    : APure P n o fr (.str (i ++ j)) :=
  fun a w g hf => (⟨_, fun W => by
    have h1 := hx.eStr hf
    have h2 := hy.eStr hf
    have hm : ¬ (IntKind.i64.max < ((i.length + j.length : Nat) : Int)) := by
      have : IntKind.i64.max = 9223372036854775807 := by decide
      rw [this]; omega
    simp only [execOp, ho, h1, h2, eqGuard, binOp, Op.stringOp, bs_size]
    rw [if_neg hm]
    simp [bs_append], .str _⟩)

theorem pu_strLen {t : TypeId} {x : Operand} {s : List UInt8} (ho : o.op = .call { callee := .builtin .len, args := #[x], argTypes := #[t] }) (ht : P.underlying t = some .string) (hx : AEv fr x (.str s))
    : APure P n o fr (.int .i64 s.length) :=
  fun a w g hf => (⟨_, fun W => by
    have h1 := hx.eStr hf
    simp [execOp, ho, resolve, invoke, builtin, h1, Builtin.len_, run_underlying ht, bs_size, goInt], .int _ _⟩)

theorem pu_strIdx {t : TypeId} {x y : Operand} {s : List UInt8} {kk : IntKind} {i : Int} (ho : o.op = .index t x y) (ht : P.underlying t = some .string) (hx : AEv fr x (.str s)) (hy : AEv fr y (.int kk i))
    (h0 : 0 ≤ i) (h1 : i < s.length) : APure P n o fr (.int .u8 (s.getD i.toNat 0).toNat) :=
  fun a w g hf => (⟨_, fun W => by
    have e1 := hx.eStr hf
    have e2 := hy.eInt hf
    have hlt : i.toNat < s.length := by omega
    simp [execOp, ho, e1, e2, Instr.index, asIntOf, run_underlying ht, h0, bs_get, List.getElem?_eq_getElem hlt, List.getD], .int _ _⟩)

def OptInt (fr : Fr) (x : Option Operand) (d : Int) (v : Int) : Prop :=
  match x with
  | some y => ∃ kk, AEv fr y (.int kk v)
  | none => v = d

theorem pu_strSlice {t : TypeId} {x : Operand} {lo hi : Option Operand} {s : List UInt8} {a b : Int} (ho : o.op = .slice t x lo hi none) (ht : P.underlying t = some .string) (hx : AEv fr x (.str s))
    (hlo : OptInt fr lo 0 a) (hhi : OptInt fr hi s.length b) (h0 : 0 ≤ a) (h1 : a ≤ b) (h2 : b ≤ s.length) : APure P n o fr (.str ((s.take b.toNat).drop a.toNat)) :=
  fun ac w g hf => (⟨_, fun W => by
    have e1 := hx.eStr hf
    have hb0 : 0 ≤ b := by omega
    have hab : a.toNat ≤ b.toNat := by omega
    have hba : a ≤ (b.toNat : Int) := by omega
    cases lo with
    | none =>
      have ha : a = 0 := hlo
      subst ha
      cases hi with
      | none =>
        have hb : b = s.length := hhi
        subst hb
        simp [execOp, ho, e1, Instr.sliceAt, Instr.slice, run_underlying ht, Instr.sliceBounds, bs_size, bs_extract]
      | some y =>
        obtain ⟨kk, hy⟩ := hhi
        have e2 := hy.eInt hf
        simp [execOp, ho, e1, e2, Instr.sliceAt, Instr.slice, run_underlying ht, Instr.sliceBounds, Instr.sliceBound, asIntOf, bs_size, bs_extract, hb0, h2]
    | some z =>
      obtain ⟨kz, hz⟩ := hlo
      have e3 := hz.eInt hf
      cases hi with
      | none =>
        have hb : b = s.length := hhi
        subst hb
        simp [execOp, ho, e1, e3, Instr.sliceAt, Instr.slice, run_underlying ht, Instr.sliceBounds, Instr.sliceBound, asIntOf, bs_size, bs_extract, h0, h1]
      | some y =>
        obtain ⟨kk, hy⟩ := hhi
        have e2 := hy.eInt hf
        simp [execOp, ho, e1, e2, e3, Instr.sliceAt, Instr.slice, run_underlying ht, Instr.sliceBounds, Instr.sliceBound, asIntOf, bs_size, bs_extract, hb0, h2, h0, hba]
        intro hc; omega, .str _⟩)

/-! ### min, max -/
end
end Go.Lift
