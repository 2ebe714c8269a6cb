import Derived.Test.YtlehodoiabaaaaaLiftX
set_option maxHeartbeats 0
namespace Go.Pu
open Go.Lift

theorem whileO_ret {σ ρ : Type} {body : σ → Option (σ ⊕ ρ)} {s : σ} {r : ρ} (h : body s = some (.inr r)) : whileO body s = some r := whileO_end h
theorem whileO_step {σ ρ : Type} {body : σ → Option (σ ⊕ ρ)} {s s' : σ} (h : body s = some (.inl s')) : whileO body s = whileO body s' := by
 rw [whileO_eq, h]; rfl
theorem letO_def {α τ : Type} (a : α) (f : α → Option τ) : letO a f = f a := rfl
theorem rpAdd_some (b j k : Nat) : rpAdd (some (b, j)) k = some (b, j + k) := by simp [rpAdd]
theorem if_isSome {α τ : Type} (a : α) (x y : τ) : (if (some a).isSome = true then x else y) = x := if_pos rfl
theorem if_noSome {α τ : Type} (x y : τ) : (if (none : Option α).isSome = true then x else y) = y := if_neg (by simp)
theorem if_isNone {α τ : Type} (x y : τ) : (if (none : Option α).isNone = true then x else y) = x := if_pos rfl
theorem if_noNone {α τ : Type} (a : α) (x y : τ) : (if (some a).isNone = true then x else y) = y := if_neg (by simp)
theorem need_isSome {α τ : Type} {a : α} {x : Option τ} {inst : Decidable ((some a).isSome = true)} : @need τ ((some a).isSome = true) inst x = x := if_pos rfl

theorem rld_at {r : Reg} {b j : Nat} {cs : List RV} {v : RV} (h : r[b]? = some cs) (hv : cs[j]? = some v) : rLd r (some (b, j)) = some v := by
 show (r[b]?).bind (fun cs => cs[j]?) = some v
 rw [h]; exact hv

theorem rsto_at {r : Reg} {b j : Nat} {cs vs : List RV} (h : r[b]? = some cs) (hl : j + vs.length ≤ cs.length) : rSto r (some (b, j)) vs = some (r.set b (splice cs j vs)) := by
 show (r[b]?).bind (fun cs => if j + vs.length ≤ cs.length then some (r.set b (splice cs j vs)) else none) = some _
 rw [h]; exact if_pos hl

theorem rldI_of {k : IntKind} {r : Reg} {p : RP} {n : Int} (h : rLd r p = some (.it k n)) : rLdI k r p = some n := by
 unfold rLdI; rw [h]; exact if_pos rfl
theorem rldB_of {r : Reg} {p : RP} {n : Bool} (h : rLd r p = some (.bo n)) : rLdB r p = some n := by
 unfold rLdB; rw [h]; rfl
theorem rldS_of {r : Reg} {p : RP} {n : List UInt8} (h : rLd r p = some (.tx n)) : rLdS r p = some n := by
 unfold rLdS; rw [h]; rfl
theorem rldP_of {r : Reg} {p n : RP} (h : rLd r p = some (.pt n)) : rLdP r p = some n := by
 unfold rLdP; rw [h]; rfl
theorem rldL_of {r : Reg} {p : RP} {n : RS} (h : rLd r p = some (.sc n)) : rLdL r p = some n := by
 unfold rLdL; rw [h]; rfl

theorem set_same {r : Reg} {b : Nat} {cs x : List RV} (h : r[b]? = some cs) : (r.set b x)[b]? = some x := List.getElem?_set_self (List.getElem?_eq_some_iff.1 h).1
theorem set_ne {r : Reg} {b c : Nat} {x : List RV} (h : c ≠ b) : (r.set b x)[c]? = r[c]? := List.getElem?_set_ne (fun e => h e.symm)

/-- A node of a chain: its block, its key, its value. -/
structure Nd where
 id : Nat
 key : List UInt8
 v : (List UInt8)

def node (k : List UInt8) (v : (List UInt8)) (q : RP) : List RV := [.tx k, .tx v, .pt q]

def Chain (r : Reg) : RP → List Nd → Prop
 | p, [] => p = none
 | p, x :: xs => p = some (x.id, 0) ∧ ∃ q, r[x.id]? = some (node x.key x.v q) ∧ Chain r q xs

/-- The cell a holds where a chain begins. -/
def Begins (r : Reg) (a : Nat × Nat) (xs : List Nd) : Prop := ∃ p, rLd r (some a) = some (.pt p) ∧ Chain r p xs

theorem Chain.frame {r r' : Reg} : ∀ {xs : List Nd} {p : RP}, Chain r p xs → (∀ x, x ∈ xs → r'[x.id]? = r[x.id]?) → Chain r' p xs
 | [], _, h, _ => h
 | x :: xs, _, ⟨h1, q, h2, h3⟩, hf => ⟨h1, q, (hf x (List.mem_cons_self ..)).trans h2, h3.frame fun y hy => hf y (List.mem_cons_of_mem _ hy)⟩

theorem Chain.node {r : Reg} {q : RP} {x : Nd} {xs : List Nd} (h : Chain r (some (x.id, 0)) (x :: xs)) : ∃ q, r[x.id]? = some (Go.Pu.node x.key x.v q) ∧ Chain r q xs := h.2

theorem node_next {r : Reg} {x : Nd} {q : RP} (h : r[x.id]? = some (node x.key x.v q)) : rLd r (some (x.id, 2)) = some (.pt q) := rld_at h rfl

/-- Where what points at a key stands: from a on. -/
def seek (key : List UInt8) : Nat × Nat → List Nd → Option (Nat × Nat)
 | _, [] => none
 | a, x :: xs => if x.key = key then some a else seek key (x.id, 2) xs

def ids (xs : List Nd) : List Nat := xs.map (·.id)

theorem seek_none {key : List UInt8} : ∀ {xs : List Nd} {a : Nat × Nat}, seek key a xs = none ↔ ∀ x, x ∈ xs → x.key ≠ key
 | [], a => ⟨fun _ _ h => (List.not_mem_nil h).elim, fun _ => rfl⟩
 | x :: xs, a => by
  unfold seek
  by_cases hk : x.key = key
  ·rw [if_pos hk]
   exact ⟨fun h => (nomatch h), fun h => absurd hk (h x (List.mem_cons_self ..))⟩
  ·rw [if_neg hk, seek_none]
   exact ⟨fun h y hy => (List.mem_cons.1 hy).elim (fun e => e ▸ hk) (h y), fun h y hy => h y (List.mem_cons_of_mem _ hy)⟩

/-- What is found: the chain is cut there. -/
theorem seek_some {r : Reg} {key : List UInt8} : ∀ {xs : List Nd} {a a' : Nat × Nat}, Begins r a xs → seek key a xs = some a' →
  ∃ l x m, xs = l ++ x :: m ∧ x.key = key ∧ (∀ y, y ∈ l → y.key ≠ key) ∧ Begins r a' (x :: m) ∧ (l = [] ∧ a' = a ∨ ∃ l' y, l = l' ++ [y] ∧ a' = (y.id, 2))
 | [], a, a', _, h => by cases h
 | x :: xs, a, a', hb, h => by
  unfold seek at h
  by_cases hk : x.key = key
  ·rw [if_pos hk] at h
   obtain rfl := Option.some.inj h
   exact ⟨[], x, xs, rfl, hk, fun y hy => (List.not_mem_nil hy).elim, hb, .inl ⟨rfl, rfl⟩⟩
  ·rw [if_neg hk] at h
   obtain ⟨p, h1, h2, q, h3, h4⟩ := hb
   obtain ⟨l, y, m, e, hy, hl, hbeg, hor⟩ := seek_some (r := r) (xs := xs) ⟨q, node_next h3, h4⟩ h
   refine ⟨x :: l, y, m, by rw [e]; rfl, hy, fun z hz => (List.mem_cons.1 hz).elim (fun e => e ▸ hk) (hl z), hbeg, .inr ?_⟩
   rcases hor with ⟨rfl, rfl⟩ | ⟨l', z, rfl, rfl⟩
   ·exact ⟨[], x, rfl, rfl⟩
   ·exact ⟨x :: l', z, rfl, rfl⟩

theorem Begins.frame {r r' : Reg} {a : Nat × Nat} {xs : List Nd} (h : Begins r a xs) (ha : rLd r' (some a) = rLd r (some a)) (hf : ∀ x, x ∈ xs → r'[x.id]? = r[x.id]?) : Begins r' a xs := by
 obtain ⟨p, h1, h2⟩ := h
 exact ⟨p, ha.trans h1, h2.frame hf⟩

theorem rld_frame {r r' : Reg} {a : Nat × Nat} (h : r'[a.1]? = r[a.1]?) : rLd r' (some a) = rLd r (some a) := by
 show (r'[a.1]?).bind _ = (r[a.1]?).bind _
 rw [h]

/-- A cell is written. -/
theorem rsto_one {r r' : Reg} {a : Nat × Nat} {v : RV} (h : rSto r (some a) [v] = some r') :
  (∀ c : Nat × Nat, rLd r' (some c) = if c = a then some v else rLd r (some c)) ∧ (∀ b, b ≠ a.1 → r'[b]? = r[b]?) ∧ r'.length = r.length ∧
   (∀ cs, r[a.1]? = some cs → r'[a.1]? = some (cs.set a.2 v) ∧ a.2 < cs.length) := by
 have h : (r[a.1]?).bind (fun cs => if a.2 + 1 ≤ cs.length then some (r.set a.1 (splice cs a.2 [v])) else none) = some r' := h
 obtain ⟨cs, h1, h2⟩ := Option.bind_eq_some_iff.1 h
 split at h2
 ·rename_i hle
  obtain rfl := Option.some.inj h2
  have hs : splice cs a.2 [v] = cs.set a.2 v := by
   unfold splice
   rw [List.set_eq_take_append_cons_drop, if_pos (by omega)]
   simp
  rw [hs]
  refine ⟨fun c => ?_, fun b hb => set_ne hb, List.length_set, fun cs' hc => ?_⟩
  ·show ((r.set a.1 (cs.set a.2 v))[c.1]?).bind _ = _
   by_cases h3 : c.1 = a.1
   ·rw [h3, set_same h1]
    show (cs.set a.2 v)[c.2]? = _
    by_cases h4 : c.2 = a.2
    ·rw [h4, List.getElem?_set_self (by omega), if_pos (Prod.ext h3 h4)]
    ·rw [List.getElem?_set_ne (fun e => h4 e.symm), if_neg (fun e => h4 (by rw [e]))]
     show _ = (r[c.1]?).bind _
     rw [h3, h1]
     rfl
   ·rw [set_ne h3, if_neg (fun e => h3 (by rw [e]))]
    rfl
  ·obtain rfl : cs' = cs := Option.some.inj (hc.symm.trans h1)
   exact ⟨set_same h1, by omega⟩
 ·cases h2

theorem mem_ids {x : Nd} {xs : List Nd} (h : x ∈ xs) : x.id ∈ ids xs := List.mem_map.2 ⟨x, h, rfl⟩

/-- A node is let go: what pointed at it points behind it. -/
theorem Begins.unlink {r r' : Reg} {key : List UInt8} : ∀ {l : List Nd} {a a' : Nat × Nat} {x : Nd} {m : List Nd} {q : RP}, Begins r a (l ++ x :: m) → (ids (l ++ x :: m)).Nodup → a.1 ∉ ids (l ++ x :: m) →
  (l = [] ∧ a' = a ∨ ∃ l' y, l = l' ++ [y] ∧ a' = (y.id, 2)) → r[x.id]? = some (node x.key x.v q) → rSto r (some a') [.pt q] = some r' → Begins r' a (l ++ m)
 | [], a, a', x, m, q, hb, hn, ha, hor, hx, hs => by
  rcases hor with ⟨_, rfl⟩ | ⟨l', y, e, _⟩
  ·obtain ⟨k1, k2, k3, k4⟩ := rsto_one hs
   obtain ⟨p, h1, h2, q', h3, h4⟩ := hb
   have : q' = q := by rw [hx] at h3; simp [node] at h3; exact h3.symm
   subst this
   refine ⟨q', by rw [k1, if_pos rfl], h4.frame fun y hy => k2 _ fun e => ha ?_⟩
   rw [← e]
   exact mem_ids (List.mem_cons_of_mem _ hy)
  ·simp at e
 | y :: l, a, a', x, m, q, hb, hn, ha, hor, hx, hs => by
  obtain ⟨p, h1, h2, q', h3, h4⟩ := hb
  simp only [List.cons_append, ids, List.map_cons, List.nodup_cons] at hn
  have hor' : l = [] ∧ a' = (y.id, 2) ∨ ∃ l' z, l = l' ++ [z] ∧ a' = (z.id, 2) := by
   rcases hor with ⟨e, _⟩ | ⟨l', z, e, h5⟩
   ·cases e
   ·cases l' with
    | nil => simp only [List.nil_append, List.cons.injEq] at e; obtain ⟨rfl, rfl⟩ := e; exact .inl ⟨rfl, h5⟩
    | cons w l' => simp only [List.cons_append, List.cons.injEq] at e; exact .inr ⟨l', z, e.2, h5⟩
  have ih := Begins.unlink (r := r) (r' := r') (key := key) (l := l) (a := (y.id, 2)) ⟨q', node_next h3, h4⟩ hn.2 hn.1 hor' hx hs
  obtain ⟨k1, k2, k3, k4⟩ := rsto_one hs
  obtain ⟨q2, h6, h7⟩ := ih
  have hne : a ≠ a' := by
   rintro rfl
   rcases hor' with ⟨_, e⟩ | ⟨l', z, e1, e2⟩
   ·exact ha (by rw [e]; exact mem_ids (List.mem_cons_self ..))
   ·exact ha (by rw [e2]; exact mem_ids (by simp [e1]))
  refine ⟨p, by rw [k1, if_neg hne]; exact h1, h2, q2, ?_, h7⟩
  by_cases hy : a'.1 = y.id
  ·have hay : a' = (y.id, 2) := by
    rcases hor' with ⟨_, e⟩ | ⟨l', z, e1, e2⟩
    ·exact e
    ·exfalso
     rw [e2] at hy
     exact hn.1 (by rw [← hy]; exact mem_ids (by simp [e1]))
   subst hay
   have := (k4 _ h3).1
   rw [this]
   have h8 := k1 (y.id, 2)
   rw [if_pos rfl] at h8
   rw [h6] at h8
   simp only [Option.some.injEq, RV.pt.injEq] at h8
   rw [h8]
   rfl
  ·rw [k2 _ (fun e => hy e.symm)]
   have h8 := k1 (y.id, 2)
   rw [if_neg (fun e => hy (by rw [← e])), node_next h3, h6] at h8
   simp only [Option.some.injEq, RV.pt.injEq] at h8
   rw [h8]
   exact h3

/-- A node's value is turned. -/
theorem Chain.turn {r r' : Reg} {x : Nd} {w : (List UInt8)} (hs : rSto r (some (x.id, 1)) [.tx w] = some r') : ∀ {l : List Nd} {p : RP} {m : List Nd}, Chain r p (l ++ x :: m) → (ids (l ++ x :: m)).Nodup → Chain r' p (l ++ { x with v := w } :: m)
 | [], p, m, ⟨h1, q, h2, h3⟩, hn => by
  obtain ⟨k1, k2, k3, k4⟩ := rsto_one hs
  simp only [List.nil_append, ids, List.map_cons, List.nodup_cons] at hn
  exact ⟨h1, q, (k4 _ h2).1, h3.frame fun y hy => k2 _ fun e => hn.1 (by rw [show x.id = y.id from e.symm]; exact mem_ids hy)⟩
 | y :: l, p, m, ⟨h1, q, h2, h3⟩, hn => by
  obtain ⟨k1, k2, k3, k4⟩ := rsto_one hs
  simp only [List.cons_append, ids, List.map_cons, List.nodup_cons] at hn
  exact ⟨h1, q, (k2 _ fun e => hn.1 (by rw [e]; exact mem_ids (by simp))).trans h2, Chain.turn hs h3 hn.2⟩

end Go.Pu
