/- Lift, part A: abstract values, what a value reads as in a world, and that this stays. -/
import Derived.Tactics
import Derived.Below
import Derived.Orders
import Derived.Laws.AppendOwn
namespace Go.Lift
open Go.RowKit

/-- What is known of the room behind a slice: nothing; there is none; it is the one of a name. -/
inductive Tok where
  | no
  | full
  | own (t : Nat)

/-- Abstract values. -/
inductive AV where
  | un
  | bool (b : Bool)
  | int (k : IntKind) (n : Int)
  | str (s : List UInt8)
  | agg (cs : List AV)
  | tup (vs : List AV)
  | sl (tok : Tok) (sz : Nat) (xs : List AV)
  | ptr (o off : Nat)
  | eptr (o i k : Nat)
  | vptr (cs : List AV)
  | vec (o : Nat)
  | vsl (o lo hi : Nat)
  | aptr (o : Nat)
  | rp (o : Nat) (p : Option (Nat × Nat))
  | rs (o : Nat) (s : Option (Nat × Nat × Nat × Nat))
  | nilp
  | fn (f : FuncId) (caps : List AV)
  | map (o : Nat)
  | lit (v : Value)
  deriving Inhabited

def AV.cells : AV → List AV
  | .agg cs => cs
  | v => [v]

def AV.isCell : AV → Bool
  | .un | .agg _ | .tup _ => false
  | .lit v => v.oneCell'
  | _ => true

/-- May it be an element of sz cells? -/
def AV.elt (sz : Nat) (x : AV) : Bool := x.cells.length == sz && x.cells.all AV.isCell

/-- Where an object of a name lies. -/
inductive Pl where
  | none
  | cells (b : Nat)
  | vec (b n c sz : Nat)
  | spare (b lo hi : Nat)
  | map (b : Nat)
  | abs (bs : List Nat) (S : Nat → Prop)
  | resv

/-- The same place; of what owns many blocks, the same first ones. -/
def Pl.sim : Pl → Pl → Prop
  | .abs bs _, q => ∃ more S, q = .abs (bs ++ more) S
  | p, q => q = p

theorem Pl.sim_of_eq {p q : Pl} (h : q = p) : p.sim q := by
  subst h
  cases q <;> first | exact ⟨[], _, by rw [List.append_nil]⟩ | rfl

theorem Pl.sim_eq {p q : Pl} (h : p.sim q) (hn : ∀ b S, p ≠ .abs b S) : q = p := by
  cases p with
  | abs b S => exact absurd rfl (hn b S)
  | _ => exact h

theorem Pl.sim_live {p q : Pl} (h : p.sim q) (h0 : p ≠ .none) (h1 : p ≠ .resv) : q ≠ .none ∧ q ≠ .resv := by
  cases p with
  | abs b S => obtain ⟨m, S', rfl⟩ := h; exact ⟨Pl.noConfusion, Pl.noConfusion⟩
  | _ => obtain rfl := h; exact ⟨h0, h1⟩

theorem Pl.sim_trans {p q r : Pl} (h : p.sim q) (k : q.sim r) : p.sim r := by
  cases p with
  | abs b S => obtain ⟨m, S', rfl⟩ := h; obtain ⟨m', S'', rfl⟩ := k; exact ⟨m ++ m', S'', by rw [List.append_assoc]⟩
  | _ => obtain rfl := h; exact k

/-- The ghost: the cells that nobody writes any more; where each name's object lies. -/
structure Gh where
  pc : Nat → Nat → Prop
  ob : Nat → Pl

def TokOk (g : Gh) (b off n c sz : Nat) : Tok → Prop
  | .no => True
  | .full => c = n
  | .own t => g.ob t = .spare b (off + n * sz) (off + c * sz)

inductive Reads (g : Gh) (w : World) : Value → AV → Prop where
  | un (v : Value) : Reads g w v .un
  | bool (b : Bool) : Reads g w (.bool b) (.bool b)
  | int (k : IntKind) (n : Int) : Reads g w (.int k n) (.int k n)
  | str (s : List UInt8) : Reads g w (.string ⟨s.toArray⟩) (.str s)
  | agg {cs : Array Value} {as : List AV} (hs : cs.size = as.length) (h : ∀ j, j < as.length → Reads g w (cs.getD j undef) (as.getD j .un)) : Reads g w (.agg cs) (.agg as)
  | tup {cs : Array Value} {as : List AV} (hs : cs.size = as.length) (h : ∀ j, j < as.length → Reads g w (cs.getD j undef) (as.getD j .un)) : Reads g w (.tuple cs) (.tup as)
  | sl {A : Option Addr} {n c : Nat} {tok : Tok} {sz : Nat} {xs : List AV} (b off : Nat) (cv : Nat → Nat → Value) (hn : n = xs.length) (hc : n ≤ c) (hm : c ≤ maxLen)
      (hA : A = some ⟨b, off, Option.none⟩ ∨ (n = 0 ∧ c = 0)) (hw : ∀ x, x ∈ xs → x.elt sz = true) (hz : 0 < sz)
      (hcell : ∀ j k, j < xs.length → k < sz → g.pc b (off + j * sz + k) ∧ w.cell? ⟨b, off + j * sz + k, Option.none⟩ = some (cv j k))
      (hr : ∀ j k, j < xs.length → k < sz → Reads g w (cv j k) ((xs.getD j .un).cells.getD k .un))
      (ht : TokOk g b off n c sz tok) : Reads g w (.slice A n c) (.sl tok sz xs)
  | ptr {b o : Nat} (off : Nat) (h : g.ob o = .cells b) : Reads g w (.pointer (some ⟨b, off, Option.none⟩)) (.ptr o off)
  | eptr {b n c sz o : Nat} (i k : Nat) (h : g.ob o = .vec b n c sz) : Reads g w (.pointer (some ⟨b, i * sz + k, Option.none⟩)) (.eptr o i k)
  | vptr {cs : List AV} (b off : Nat) (cv : Nat → Value) (hcell : ∀ k, k < cs.length → g.pc b (off + k) ∧ w.cell? ⟨b, off + k, Option.none⟩ = some (cv k))
      (hr : ∀ k, k < cs.length → Reads g w (cv k) (cs.getD k .un)) : Reads g w (.pointer (some ⟨b, off, Option.none⟩)) (.vptr cs)
  | vec {b n c sz o : Nat} (h : g.ob o = .vec b n c sz) : Reads g w (.slice (some ⟨b, 0, Option.none⟩) n c) (.vec o)
  | vec0 {A : Option Addr} {b sz o : Nat} (h : g.ob o = .vec b 0 0 sz) : Reads g w (.slice A 0 0) (.vec o)
  | vsl {A : Option Addr} {b n c sz o lo hi : Nat} (h : g.ob o = .vec b n c sz) (h1 : lo ≤ hi) (h2 : hi ≤ c) (hA : A = some ⟨b, lo * sz, Option.none⟩ ∨ lo = c) : Reads g w (.slice A (hi - lo) (c - lo)) (.vsl o lo hi)
  | aptr {b o : Nat} {bs : List Nat} {S : Nat → Prop} (h : g.ob o = .abs bs S) (hb : bs[0]? = some b) : Reads g w (.pointer (some ⟨b, 0, Option.none⟩)) (.aptr o)
  | rpn (o : Nat) : Reads g w (.pointer Option.none) (.rp o Option.none)
  | rp {b o i off : Nat} {bs : List Nat} {S : Nat → Prop} (h : g.ob o = .abs bs S) (hb : bs[i]? = some b) : Reads g w (.pointer (some ⟨b, off, Option.none⟩)) (.rp o (some (i, off)))
  | rsn (o : Nat) : Reads g w (.slice Option.none 0 0) (.rs o Option.none)
  | rs {b o i off n c : Nat} {bs : List Nat} {S : Nat → Prop} (h : g.ob o = .abs bs S) (hb : bs[i]? = some b) : Reads g w (.slice (some ⟨b, off, Option.none⟩) n c) (.rs o (some (i, off, n, c)))
  | nilp : Reads g w (.pointer Option.none) .nilp
  | fn {f : FuncId} {cs : Array Value} {as : List AV} (hs : cs.size = as.length) (h : ∀ j, j < as.length → Reads g w (cs.getD j undef) (as.getD j .un)) : Reads g w (.func (.func f) #[] cs) (.fn f as)
  | map {b o : Nat} {bs : List Nat} {S : Nat → Prop} (h : g.ob o = .abs bs S) (hb : bs[0]? = some b) : Reads g w (.map (some b)) (.map o)
  | lit (v : Value) : Reads g w v (.lit v)

/-- The ghost and the world go on: what is protected stays; names keep their places. -/
structure GLe (g : Gh) (w : World) (g' : Gh) (w' : World) : Prop where
  pc : ∀ b off, g.pc b off → g'.pc b off ∧ w'.cell? ⟨b, off, Option.none⟩ = w.cell? ⟨b, off, Option.none⟩
  sim : ∀ o, g.ob o ≠ .none → g.ob o ≠ .resv → (g.ob o).sim (g'.ob o)

theorem GLe.mk' {g g' : Gh} {w w' : World} (pc : ∀ b off, g.pc b off → g'.pc b off ∧ w'.cell? ⟨b, off, Option.none⟩ = w.cell? ⟨b, off, Option.none⟩) (ob : ∀ o, g.ob o ≠ .none → g.ob o ≠ .resv → g'.ob o = g.ob o) : GLe g w g' w' :=
  ⟨pc, fun o h0 h1 => Pl.sim_of_eq (ob o h0 h1)⟩

theorem GLe.refl (g : Gh) (w : World) : GLe g w g w := .mk' (fun _ _ h => ⟨h, rfl⟩) (fun _ _ _ => rfl)

theorem GLe.trans {g g1 g2 : Gh} {w w1 w2 : World} (h : GLe g w g1 w1) (k : GLe g1 w1 g2 w2) : GLe g w g2 w2 :=
  ⟨fun b off hp => ⟨(k.pc b off (h.pc b off hp).1).1, (k.pc b off (h.pc b off hp).1).2.trans (h.pc b off hp).2⟩,
   fun o ho hr => by
    have h1 := h.sim o ho hr
    have h2 := Pl.sim_live h1 ho hr
    exact Pl.sim_trans h1 (k.sim o h2.1 h2.2)⟩

theorem GLe.ob {g g' : Gh} {w w' : World} (hl : GLe g w g' w') {o : Nat} {p : Pl} (h : g.ob o = p) (h0 : p ≠ .none) (h1 : p ≠ .resv) (hn : ∀ b S, p ≠ .abs b S) : g'.ob o = p := by
  have := hl.sim o (by rw [h]; exact h0) (by rw [h]; exact h1)
  rw [h] at this
  exact Pl.sim_eq this hn

theorem TokOk.mono {g g' : Gh} {w w' : World} (hl : GLe g w g' w') {b off n c sz : Nat} {t : Tok} (h : TokOk g b off n c sz t) : TokOk g' b off n c sz t := by
  cases t with
  | no => trivial
  | full => exact h
  | own t => exact hl.ob (show g.ob t = _ from h) Pl.noConfusion Pl.noConfusion (fun _ _ => Pl.noConfusion)

theorem Reads.mono {g g' : Gh} {w w' : World} (hl : GLe g w g' w') {v : Value} {a : AV} (h : Reads g w v a) : Reads g' w' v a := by
  induction h with
  | un v => exact .un v
  | bool b => exact .bool b
  | int k n => exact .int k n
  | str s => exact .str s
  | agg hs _ ih => exact .agg hs ih
  | tup hs _ ih => exact .tup hs ih
  | sl b off cv hn hc hm hA hw hz hcell _ ht ih =>
    exact .sl b off cv hn hc hm hA hw hz (fun j k hj hk => ⟨(hl.pc _ _ (hcell j k hj hk).1).1, (hl.pc _ _ (hcell j k hj hk).1).2.trans (hcell j k hj hk).2⟩) ih (ht.mono hl)
  | ptr off h => exact .ptr off (hl.ob h Pl.noConfusion Pl.noConfusion (fun _ _ => Pl.noConfusion))
  | eptr i k h => exact .eptr i k (hl.ob h Pl.noConfusion Pl.noConfusion (fun _ _ => Pl.noConfusion))
  | vptr b off cv hcell _ ih =>
    exact .vptr b off cv (fun k hk => ⟨(hl.pc _ _ (hcell k hk).1).1, (hl.pc _ _ (hcell k hk).1).2.trans (hcell k hk).2⟩) ih
  | vec h => exact .vec (hl.ob h Pl.noConfusion Pl.noConfusion (fun _ _ => Pl.noConfusion))
  | vec0 h => exact .vec0 (hl.ob h Pl.noConfusion Pl.noConfusion (fun _ _ => Pl.noConfusion))
  | vsl h h1 h2 hA => exact .vsl (hl.ob h Pl.noConfusion Pl.noConfusion (fun _ _ => Pl.noConfusion)) h1 h2 hA
  | aptr h hb =>
    have := hl.sim _ (by rw [h]; exact Pl.noConfusion) (by rw [h]; exact Pl.noConfusion)
    rw [h] at this
    obtain ⟨more, S', hS⟩ := this
    exact .aptr hS (by rw [List.getElem?_append_left (List.getElem?_eq_some_iff.1 hb).1]; exact hb)
  | rpn o => exact .rpn o
  | rsn o => exact .rsn o
  | rp h hb =>
    have := hl.sim _ (by rw [h]; exact Pl.noConfusion) (by rw [h]; exact Pl.noConfusion)
    rw [h] at this
    obtain ⟨more, S', hS⟩ := this
    exact .rp hS (by rw [List.getElem?_append_left (List.getElem?_eq_some_iff.1 hb).1]; exact hb)
  | rs h hb =>
    have := hl.sim _ (by rw [h]; exact Pl.noConfusion) (by rw [h]; exact Pl.noConfusion)
    rw [h] at this
    obtain ⟨more, S', hS⟩ := this
    exact .rs hS (by rw [List.getElem?_append_left (List.getElem?_eq_some_iff.1 hb).1]; exact hb)
  | nilp => exact .nilp
  | fn hs _ ih => exact .fn hs ih
  | map h hb =>
    have := hl.sim _ (by rw [h]; exact Pl.noConfusion) (by rw [h]; exact Pl.noConfusion)
    rw [h] at this
    obtain ⟨more, S', hS⟩ := this
    exact .map hS (by rw [List.getElem?_append_left (List.getElem?_eq_some_iff.1 hb).1]; exact hb)
  | lit v => exact .lit v

/-- A value that reads as a cell's is one cell's. -/
theorem Reads.oneCell {g : Gh} {w : World} {v : Value} {a : AV} (h : Reads g w v a) (hc : a.isCell = true) : v.oneCell' = true := by
  cases h <;> first | rfl | exact hc | (simp [AV.isCell] at hc)

theorem Reads.cells_size {g : Gh} {w : World} {v : Value} {a : AV} (h : Reads g w v a) (ha : a.cells.all AV.isCell = true) : v.cells.size = a.cells.length := by
  cases h with
  | agg hs _ => exact hs
  | lit v => 
    have hv : v.oneCell' = true := by simpa [AV.cells, AV.isCell] using ha
    cases v <;> first | rfl | (simp [Value.oneCell'] at hv)
  | un v => simp [AV.cells, AV.isCell] at ha
  | tup hs _ => simp [AV.cells, AV.isCell] at ha
  | _ => rfl

theorem Reads.cells_at {g : Gh} {w : World} {v : Value} {a : AV} (h : Reads g w v a) (ha : a.cells.all AV.isCell = true) (j : Nat) (hj : j < a.cells.length) :
    Reads g w (v.cells.getD j undef) (a.cells.getD j .un) := by
  cases h with
  | agg hs hr => exact hr j hj
  | lit v =>
    have hv : v.oneCell' = true := by simpa [AV.cells, AV.isCell] using ha
    have hj0 : j = 0 := by simpa [AV.cells] using hj
    subst hj0
    cases v <;> first | exact .lit _ | (simp [Value.oneCell'] at hv)
  | un v => simp [AV.cells, AV.isCell] at ha
  | tup hs _ => simp [AV.cells, AV.isCell] at ha
  | bool b => obtain rfl : j = 0 := by simpa [AV.cells] using hj
              exact .bool b
  | int k n => obtain rfl : j = 0 := by simpa [AV.cells] using hj
               exact .int k n
  | str s => obtain rfl : j = 0 := by simpa [AV.cells] using hj
             exact .str s
  | sl b off cv hn hc hm hA hw hz hcell hr ht => 
    obtain rfl : j = 0 := by simpa [AV.cells] using hj
    exact .sl b off cv hn hc hm hA hw hz hcell hr ht
  | ptr off h => obtain rfl : j = 0 := by simpa [AV.cells] using hj
                 exact .ptr off h
  | eptr i k h => obtain rfl : j = 0 := by simpa [AV.cells] using hj
                  exact .eptr i k h
  | vptr b off cv hcell hr => obtain rfl : j = 0 := by simpa [AV.cells] using hj
                              exact .vptr b off cv hcell hr
  | vec h => obtain rfl : j = 0 := by simpa [AV.cells] using hj
             exact .vec h
  | vec0 h => obtain rfl : j = 0 := by simpa [AV.cells] using hj
              exact .vec0 h
  | vsl h h1 h2 hA => obtain rfl : j = 0 := by simpa [AV.cells] using hj
                      exact .vsl h h1 h2 hA
  | aptr h hb =>
    obtain rfl : j = 0 := by simpa [AV.cells] using hj
    exact .aptr h hb
  | rpn o =>
    obtain rfl : j = 0 := by simpa [AV.cells] using hj
    exact .rpn o
  | rsn o =>
    obtain rfl : j = 0 := by simpa [AV.cells] using hj
    exact .rsn o
  | rp h hb =>
    obtain rfl : j = 0 := by simpa [AV.cells] using hj
    exact .rp h hb
  | rs h hb =>
    obtain rfl : j = 0 := by simpa [AV.cells] using hj
    exact .rs h hb
  | nilp => obtain rfl : j = 0 := by simpa [AV.cells] using hj
            exact .nilp
  | fn hs h => obtain rfl : j = 0 := by simpa [AV.cells] using hj
               exact .fn hs h
  | map h hb => obtain rfl : j = 0 := by simpa [AV.cells] using hj
                exact .map h hb

/-- One abstract value says no more than another one. -/
def AV.Le (a a' : AV) : Prop := ∀ g w v, Reads g w v a → Reads g w v a'

theorem AV.Le.refl (a : AV) : a.Le a := fun _ _ _ h => h
theorem AV.Le.un (a : AV) : a.Le .un := fun _ _ v _ => .un v
theorem AV.Le.trans {a b c : AV} (h : a.Le b) (k : b.Le c) : a.Le c := fun g w v r => k g w v (h g w v r)
theorem AV.Le.forget (t : Tok) (sz : Nat) (xs : List AV) : (AV.sl t sz xs).Le (.sl .no sz xs) := by
  intro g w v h
  cases h with
  | sl b off cv hn hc hm hA hw hz hcell hr ht => exact .sl b off cv hn hc hm hA hw hz hcell hr trivial
theorem AV.Le.nilSlice (sz : Nat) (hz : 0 < sz) : (AV.lit (.slice Option.none 0 0)).Le (.sl .full sz []) := by
  intro g w v h
  cases h with
  | lit => exact .sl 0 0 (fun _ _ => undef) rfl (Nat.le_refl _) (by simp [maxLen]) (.inr ⟨rfl, rfl⟩) (by simp) hz (by simp) (by simp) rfl

end Go.Lift
