import Derived.Test.YtlehodoiabaaaaaFQPuRegS
import Derived.Test.YtlehodoiabaaaaaFQPuHashE
set_option maxHeartbeats 0
namespace Go.Pu
open Go.Lift

/-- A table: its two halves' places, each a list of nodes. -/
structure Tab where
 seed : Int
 s0 : Nat
 b0 : Nat
 c0 : List (List Nd)
 s1 : Nat
 b1 : Nat
 c1 : List (List Nd)
 moved : Nat
 two : Bool

def Tab.all (m : Tab) : List Nd := m.c0.flatten ++ m.c1.flatten
def slc (b n : Nat) : RS := some (b, 0, n, n)
def Tab.cells (m : Tab) (n : Nat) : List RV :=
 [.it .u64 m.seed, .it .i64 m.s0, .sc (slc m.b0 (2 ^ m.s0)), .it .i64 m.s1, .sc (if m.two then slc m.b1 (2 ^ m.s1) else none), .it .i64 m.moved, .bo m.two, .it .i64 n]
def Tab.blocks (m : Tab) : List Nat := m.b0 :: if m.two then [m.b1] else []
def Tab.foot (t : Nat) (m : Tab) : List Nat := t :: m.blocks ++ ids m.all

structure Half (r : Reg) (b : Nat) (c : List (List Nd)) : Prop where
 blk : ∃ cs, r[b]? = some cs ∧ cs.length = c.length
 cell : ∀ i xs, c[i]? = some xs → Begins r (b, i) xs

/-- Where a key stands among 2^k places. -/
def plc (seed : Int) (k : Nat) (key : List UInt8) : Nat := (ofN seed key).toNat % 2 ^ k

/-- What holds of a table as data. -/
structure Tab.ok (m : Tab) : Prop where
 l0 : m.c0.length = 2 ^ m.s0
 l1 : m.two = true → m.c1.length = 2 ^ m.s1
 no1 : m.two = false → m.c1 = [] ∧ m.s1 = 0 ∧ m.moved = 0
 z0 : 2 ≤ m.s0 ∧ m.s0 ≤ 16
 z1 : m.two = true → 2 ≤ m.s1 ∧ m.s1 ≤ 16 ∧ (m.s1 = m.s0 + 1 ∨ m.s0 = m.s1 + 1)
 mv : m.moved < 2 ^ m.s0
 low : ∀ i, i < m.moved → m.c0[i]? = some []
 p0 : ∀ i xs, m.c0[i]? = some xs → ∀ x, x ∈ xs → plc m.seed m.s0 x.key = i
 p1 : ∀ i xs, m.c1[i]? = some xs → ∀ x, x ∈ xs → plc m.seed m.s1 x.key = i
 keys : (m.all.map (·.key)).Nodup
 klen : ∀ x, x ∈ m.all → x.key.length < 1000000
 few : m.all.length < 1000000

/-- The table m lies at t; it tells that it has n keys. -/
structure TabAt (r : Reg) (t : Nat) (m : Tab) (n : Nat) : Prop where
 tab : r[t]? = some (m.cells n)
 h0 : Half r m.b0 m.c0
 h1 : m.two = true → Half r m.b1 m.c1
 nd : (m.foot t).Nodup

/-- Nothing is turned but what is in F, or new. -/
structure Ext (F : List Nat) (r r' : Reg) : Prop where
 len : r.length ≤ r'.length
 out : ∀ k, k < r.length → k ∉ F → r'[k]? = r[k]?

theorem Ext.refl (F : List Nat) (r : Reg) : Ext F r r := ⟨Nat.le_refl _, fun _ _ _ => rfl⟩

theorem Half.frame {r r' : Reg} {b : Nat} {c : List (List Nd)} (h : Half r b c) (hb : r'[b]? = r[b]?) (hf : ∀ x, x ∈ c.flatten → r'[x.id]? = r[x.id]?) : Half r' b c := by
 obtain ⟨⟨cs, h1, h2⟩, h3⟩ := h
 refine ⟨⟨cs, hb.trans h1, h2⟩, fun i xs hi => (h3 i xs hi).frame (rld_frame (a := (b, i)) hb) fun x hx => hf x ?_⟩
 exact List.mem_flatten.2 ⟨xs, List.mem_of_getElem? hi, hx⟩

theorem TabAt.frame {r r' : Reg} {t : Nat} {m : Tab} {n : Nat} (h : TabAt r t m n) (hf : ∀ k, k ∈ m.foot t → r'[k]? = r[k]?) : TabAt r' t m n := by
 have hall : ∀ x, x ∈ m.all → r'[x.id]? = r[x.id]? := fun x hx => hf _ (List.mem_append_right _ (mem_ids hx))
 refine ⟨(hf t (by simp [Tab.foot])).trans h.tab, h.h0.frame (hf _ (by simp [Tab.foot, Tab.blocks])) fun x hx => hall x (List.mem_append_left _ hx), fun h2 => (h.h1 h2).frame (hf _ (by simp [Tab.foot, Tab.blocks, h2])) fun x hx => hall x (List.mem_append_right _ hx), h.nd⟩

theorem TabAt.lt {r : Reg} {t : Nat} {m : Tab} {n : Nat} (h : TabAt r t m n) (hm : m.ok) : ∀ k, k ∈ m.foot t → k < r.length := by
 have hlt : ∀ {k : Nat} {cs : List RV}, r[k]? = some cs → k < r.length := fun h => (List.getElem?_eq_some_iff.1 h).1
 have chn : ∀ {xs : List Nd} {p : RP}, Chain r p xs → ∀ x, x ∈ xs → x.id < r.length := by
  intro xs
  induction xs with
  | nil => intro p h x hx; cases hx
  | cons y ys ih =>
   rintro p ⟨_, q, h2, h3⟩ x hx
   rcases List.mem_cons.1 hx with rfl | hx
   ·exact hlt h2
   ·exact ih h3 x hx
 have half : ∀ {b : Nat} {c : List (List Nd)}, Half r b c → ∀ x, x ∈ c.flatten → x.id < r.length := by
  intro b c hh x hx
  obtain ⟨xs, h1, h2⟩ := List.mem_flatten.1 hx
  obtain ⟨i, hi⟩ := List.mem_iff_getElem?.1 h1
  obtain ⟨p, _, h4⟩ := hh.cell i xs hi
  exact chn h4 x h2
 intro k hk
 simp only [Tab.foot, List.cons_append, List.mem_cons, List.mem_append] at hk
 rcases hk with rfl | hk | hk
 ·exact hlt h.tab
 ·simp only [Tab.blocks, List.mem_cons] at hk
  rcases hk with rfl | hk
  ·obtain ⟨cs, h1, _⟩ := h.h0.blk
   exact hlt h1
  ·split at hk
   ·rename_i h2
    obtain rfl := List.mem_singleton.1 hk
    obtain ⟨cs, h1, _⟩ := (h.h1 h2).blk
    exact hlt h1
   ·cases hk
 ·obtain ⟨x, hx, rfl⟩ := List.mem_map.1 hk
  rcases List.mem_append.1 hx with hx | hx
  ·exact half h.h0 x hx
  ·by_cases h2 : m.two = true
   ·exact half (h.h1 h2) x hx
   ·rw [(hm.no1 (by simpa using h2)).1] at hx
    cases hx

end Go.Pu
