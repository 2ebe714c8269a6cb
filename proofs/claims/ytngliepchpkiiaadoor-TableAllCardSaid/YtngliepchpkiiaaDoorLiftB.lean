/- Lift, part B: the store of named objects, how it lies in a world, and how a world may go on. -/
import Derived.Test.YtngliepchpkiiaaDoorLiftA0
import Derived.Laws.CopyRow
import Derived.Laws.Tables
import Derived.Laws.Cells
import Derived.Deep.Draws
namespace Go.Lift
open Go.RowKit

/-- What is known of some blocks alone: those that are named, and which they are. -/
structure Abs where
  holds : Gh → World → List Nat → (Nat → Prop) → Prop
  loc : ∀ {g g' : Gh} {w w' : World} {b : List Nat} {S : Nat → Prop}, holds g w b S → GLe g w g' w' → (∀ k, S k → w'.heap[k]? = w.heap[k]?) → holds g' w' b S

inductive AObj where
  | cells (cs : List AV)
  | vec (sz : Nat) (xs : List AV)
  | abs (A : Abs)
  | spare
  | resv

abbrev St := List (Nat × AObj)

def Pl.owns : Pl → Nat → Nat → Prop
  | .none, _, _ => False
  | .cells b, b', _ => b' = b
  | .vec b _ c _, b', _ => 0 < c ∧ b' = b
  | .spare b lo hi, b', off => b' = b ∧ lo ≤ off ∧ off < hi
  | .map b, b', _ => b' = b
  | .abs _ S, b', _ => S b'
  | .resv, _, _ => False

structure Env where
  w0 : World
  B : Nat
  lay : ∀ x, x ∈ layL → x.1 < B ∧ w0.cell? ⟨x.1, x.2.1, Option.none⟩ = some x.2.2

/-- Block b holds the cells arr, none of them frozen. -/
def Blk (w : World) (b : Nat) (arr : Array Value) : Prop :=
  ∃ T fz, w.heap[b]? = some (.cells arr T fz) ∧ ∀ off, off < arr.size → ¬ (fz.1 ≤ off ∧ off < fz.2)

def ObjOk (E : Env) (g : Gh) (w : World) : AObj → Pl → Prop
  | .cells cs, .cells b => E.B ≤ b ∧ ∃ arr, Blk w b arr ∧ arr.size = cs.length ∧ cs.all AV.isCell = true ∧
      ∀ j, j < cs.length → Reads g w (arr.getD j undef) (cs.getD j .un)
  | .vec sz xs, .vec b n c sz' => sz' = sz ∧ n = xs.length ∧ n ≤ c ∧ c ≤ maxLen ∧ 0 < sz ∧ (∀ x, x ∈ xs → x.elt sz = true) ∧
      (0 < c → E.B ≤ b ∧ ∃ arr, Blk w b arr ∧ arr.size = c * sz ∧
      ∀ j k, j < xs.length → k < sz → Reads g w (arr.getD (j * sz + k) undef) ((xs.getD j .un).cells.getD k .un))
  | .abs A, .abs b S => (∀ k, S k → E.B ≤ k ∧ k < w.heap.size) ∧ A.holds g w b S
  | .spare, .spare b lo hi => lo = hi ∨ (lo < hi ∧ E.B ≤ b ∧ ∃ arr, Blk w b arr ∧ hi ≤ arr.size)
  | .resv, .resv => True
  | _, _ => False

structure Rel (E : Env) (st : St) (g : Gh) (w : World) : Prop where
  base : Below E.B E.w0 w
  hB : E.B ≤ w.heap.size
  nd : (st.map Prod.fst).Nodup
  ok : ∀ o ob, (o, ob) ∈ st → ObjOk E g w ob (g.ob o)
  pin : ∀ b off, g.pc b off → (w.cell? ⟨b, off, Option.none⟩).isSome = true
  dis : ∀ o x o' x', (o, x) ∈ st → (o', x') ∈ st → o ≠ o' → ∀ b off, ¬ ((g.ob o).owns b off ∧ (g.ob o').owns b off)
  npc : ∀ o x, (o, x) ∈ st → ∀ b off, (g.ob o).owns b off → ¬ g.pc b off
  fresh : ∃ N, ∀ o, N ≤ o → g.ob o = .none

/-- What is known of the beginning is known at any time. -/
theorem Rel.lay {E : Env} {st : St} {g : Gh} {w : World} (h : Rel E st g w) {x : Nat × Nat × Value} (hx : x ∈ layL) : w.cell? ⟨x.1, x.2.1, Option.none⟩ = some x.2.2 := by
  obtain ⟨h1, h2⟩ := E.lay x hx
  rw [← h2]
  exact World.cell?_of_block (h.base.block x.1 h1)

theorem ObjOk.live {E : Env} {g : Gh} {w : World} {ob : AObj} {pl : Pl} (h : ObjOk E g w ob pl) : pl ≠ .none := by
  intro e
  subst e
  cases ob <;> exact h

/-- An object of a store has one name. -/
theorem Rel.sub {E : Env} {st st' : St} {g : Gh} {w : World} (h : Rel E st g w) (hs : ∀ p, p ∈ st' → p ∈ st) (hn : (st'.map Prod.fst).Nodup) : Rel E st' g w :=
  ⟨h.base, h.hB, hn, fun o ob hm => h.ok o ob (hs _ hm), h.pin, fun o x o' x' hm hm' => h.dis o x o' x' (hs _ hm) (hs _ hm'), fun o x hm => h.npc o x (hs _ hm), h.fresh⟩

theorem Rel.perm {E : Env} {st st' : St} {g : Gh} {w : World} (h : Rel E st g w) (hp : st'.Perm st) : Rel E st' g w :=
  h.sub (fun _ hm => hp.mem_iff.1 hm) ((hp.map Prod.fst).nodup_iff.2 h.nd)

theorem Rel.drop {E : Env} {p : Nat × AObj} {st : St} {g : Gh} {w : World} (h : Rel E (p :: st) g w) : Rel E st g w :=
  h.sub (fun _ hm => List.mem_cons_of_mem _ hm) (List.nodup_cons.1 h.nd).2

theorem Rel.dropL {E : Env} : ∀ {l st : St} {g : Gh} {w : World}, Rel E (l ++ st) g w → Rel E st g w
  | [], _, _, _, h => h
  | _ :: l, _, _, _, h => Rel.dropL (l := l) h.drop

/-- A cell of a block that is there. -/
theorem cell_of_block {w : World} {b off : Nat} {arr : Array Value} {T : TypeId} {fr : Nat × Nat} (h : w.heap[b]? = some (.cells arr T fr)) : w.cell? ⟨b, off, Option.none⟩ = arr[off]? := by
  simp [World.cell?, h]

theorem Blk.cell {w : World} {b off : Nat} {arr : Array Value} (h : Blk w b arr) : w.cell? ⟨b, off, Option.none⟩ = arr[off]? := by
  obtain ⟨T, fz, h, _⟩ := h
  exact cell_of_block h

theorem Blk.frozen {w : World} {b off : Nat} {arr : Array Value} (h : Blk w b arr) (ho : off < arr.size) : w.frozen? ⟨b, off, Option.none⟩ = false := by
  obtain ⟨T, fz, h, hf⟩ := h
  have := hf off ho
  simp only [World.frozen?, h]
  by_cases h1 : fz.1 ≤ off
  · have h2 : ¬ off < fz.2 := fun h2 => this ⟨h1, h2⟩
    simp [h2]
  · simp [h1]

theorem Blk.setRow {w : World} {b : Nat} {arr arr' : Array Value} (h : Blk w b arr) (hs : arr'.size = arr.size) : Blk (w.setRow b arr') b arr' := by
  obtain ⟨T, fz, h, hf⟩ := h
  exact ⟨T, fz, setRow_heap w b arr arr' T fz h, fun off ho => hf off (by rw [← hs]; exact ho)⟩

theorem Blk.of_eq {w w' : World} {b : Nat} {arr : Array Value} (h : Blk w b arr) (he : w'.heap[b]? = w.heap[b]?) : Blk w' b arr := by
  obtain ⟨T, fz, h, hf⟩ := h
  exact ⟨T, fz, he.trans h, hf⟩

theorem Blk.lt {w : World} {b : Nat} {arr : Array Value} (h : Blk w b arr) : b < w.heap.size := by
  obtain ⟨T, fz, h, _⟩ := h
  exact (Array.getElem?_eq_some_iff.1 h).1

theorem Blk.unique {w : World} {b : Nat} {arr arr' : Array Value} (h : Blk w b arr) (h' : Blk w b arr') : arr = arr' := by
  obtain ⟨T, fz, h, _⟩ := h
  obtain ⟨T', fz', h', _⟩ := h'
  rw [h] at h'
  injection h' with h'
  injection h' with h1

theorem Blk.new (w : World) (arr : Array Value) (T : TypeId) : Blk (w.alloc (.cells arr T)) w.heap.size arr :=
  ⟨T, (0, 0), heap_alloc_new w _, fun _ _ h => Nat.not_lt_zero _ h.2⟩

theorem ObjOk.mono {E : Env} {g g' : Gh} {w w' : World} {ob : AObj} {pl : Pl} (hl : GLe g w g' w') (h : ObjOk E g w ob pl)
    (hk : ∀ b, (pl = .cells b ∨ pl = .map b ∨ (∃ n c sz, pl = .vec b n c sz ∧ 0 < c) ∨ ∃ b0 S, pl = .abs b0 S ∧ S b) → w'.heap[b]? = w.heap[b]?)
    (hsz : w.heap.size ≤ w'.heap.size)
    (hs : ∀ b lo hi, pl = .spare b lo hi → lo < hi → ∀ arr, Blk w b arr → ∃ arr', Blk w' b arr' ∧ arr'.size = arr.size) :
    ObjOk E g' w' ob pl := by
  cases ob with
  | cells cs =>
    cases pl with
    | cells b =>
      obtain ⟨h1, arr, h2, h3, h4, h5⟩ := h
      exact ⟨h1, arr, h2.of_eq (hk b (.inl rfl)), h3, h4, fun j hj => (h5 j hj).mono hl⟩
    | _ => exact h.elim
  | vec sz xs =>
    cases pl with
    | vec b n c sz' =>
      obtain ⟨h2, h3, h4, h4', h5, h6, h10⟩ := h
      refine ⟨h2, h3, h4, h4', h5, h6, fun h0 => ?_⟩
      obtain ⟨h1, arr, h7, h8, h9⟩ := h10 h0
      exact ⟨h1, arr, h7.of_eq (hk b (.inr (.inr (.inl ⟨_, _, _, rfl, h0⟩)))), h8, fun j k hj hk' => (h9 j k hj hk').mono hl⟩
    | _ => exact h.elim
  | abs A =>
    cases pl with
    | abs b S =>
      obtain ⟨h1, h2⟩ := h
      exact ⟨fun k hS => ⟨(h1 k hS).1, Nat.lt_of_lt_of_le (h1 k hS).2 hsz⟩, A.loc h2 hl fun k hS => hk k (.inr (.inr (.inr ⟨b, S, rfl, hS⟩)))⟩
    | _ => exact h.elim
  | spare =>
    cases pl with
    | spare b lo hi =>
      rcases h with h | ⟨h0, h1, arr, h2, h3⟩
      · exact .inl h
      · obtain ⟨arr', h4, h5⟩ := hs b lo hi rfl h0 arr h2
        exact .inr ⟨h0, h1, arr', h4, by omega⟩
    | _ => exact h.elim
  | resv =>
    cases pl with
    | resv => trivial
    | _ => exact h.elim

/-- The world grows: what was there is as it was; what is protected newly lies in new blocks. -/
theorem Rel.grow' {E : Env} {st : St} {g g' : Gh} {w w' : World} (h : Rel E st g w) (hos : w'.os = w.os) (htape : w'.tape = w.tape) (hout : w'.output = w.output)
    (hsize : w.heap.size ≤ w'.heap.size) (hold : ∀ k, k < w.heap.size → w'.heap[k]? = w.heap[k]?) (hpc : ∀ b off, g.pc b off → g'.pc b off)
    (hnew : ∀ b off, g'.pc b off → g.pc b off ∨ (w.heap.size ≤ b ∧ (w'.cell? ⟨b, off, Option.none⟩).isSome = true))
    (hob : ∀ o, g.ob o ≠ .none → g.ob o ≠ .resv → g'.ob o = g.ob o) (hst : ∀ o x, (o, x) ∈ st → g'.ob o = g.ob o) (hfr : ∃ N, ∀ o, N ≤ o → g'.ob o = .none) : Rel E st g' w' ∧ GLe g w g' w' := by
  have hcell : ∀ b off, b < w.heap.size → w'.cell? ⟨b, off, Option.none⟩ = w.cell? ⟨b, off, Option.none⟩ := fun b off hb => World.cell?_of_block (hold b hb)
  have plt : ∀ b off, g.pc b off → b < w.heap.size := fun b off hp => by
    obtain ⟨v, hv⟩ := Option.isSome_iff_exists.1 (h.pin b off hp)
    exact World.block_lt_of_cell? w _ hv
  have hl : GLe g w g' w' := .mk' (fun b off hp => ⟨hpc b off hp, hcell b off (plt b off hp)⟩) hob
  have lt_of : ∀ o x, (o, x) ∈ st → ∀ b off, (g.ob o).owns b off → b < w.heap.size := fun o x hm b off hown => by
    have hk := h.ok o x hm
    cases hpl : g.ob o with
    | none => rw [hpl] at hown; exact hown.elim
    | cells b' =>
      rw [hpl] at hown hk
      obtain rfl : b = b' := hown
      cases x with
      | cells cs => obtain ⟨_, arr, h2, _⟩ := hk; exact h2.lt
      | _ => exact hk.elim
    | vec b' n c sz =>
      rw [hpl] at hown hk
      obtain ⟨h0, rfl⟩ := hown
      cases x with
      | vec sz' xs => obtain ⟨_, _, _, _, _, _, hk⟩ := hk; obtain ⟨_, arr, h2, _⟩ := hk h0; exact h2.lt
      | _ => exact hk.elim
    | spare b' lo hi =>
      rw [hpl] at hown hk
      obtain ⟨rfl, h3, h4⟩ := hown
      cases x with
      | spare =>
        rcases hk with hk | ⟨_, _, arr, h2, _⟩
        · omega
        · exact h2.lt
      | _ => exact hk.elim
    | map b' => rw [hpl] at hk; cases x <;> exact hk.elim
    | abs b0 S =>
      rw [hpl] at hown hk
      cases x with
      | abs A => exact (hk.1 b hown).2
      | _ => exact hk.elim
    | resv => rw [hpl] at hown; exact hown.elim
  refine ⟨⟨h.base.trans ⟨hos, htape, hout, hsize, fun k hk => hold k (Nat.lt_of_lt_of_le hk h.hB)⟩, Nat.le_trans h.hB hsize, h.nd, ?_, ?_, ?_, ?_, hfr⟩, hl⟩
  · intro o x hm
    have hk := h.ok o x hm
    rw [hst o x hm]
    refine hk.mono hl (fun b hb => hold b ?_) hsize (fun b lo hi hb hlt arr hh => ⟨arr, hh.of_eq (hold b hh.lt), rfl⟩)
    rcases hb with hb | hb | ⟨n, c, sz, hb, h0⟩ | ⟨b0, S, hb, hS⟩
    · exact lt_of o x hm b 0 (by rw [hb]; rfl)
    · exact lt_of o x hm b 0 (by rw [hb]; rfl)
    · exact lt_of o x hm b 0 (by rw [hb]; exact ⟨h0, rfl⟩)
    · exact lt_of o x hm b 0 (by rw [hb]; exact hS)
  · intro b off hp
    rcases hnew b off hp with hp | hp
    · rw [hcell b off (plt b off hp)]; exact h.pin b off hp
    · exact hp.2
  · intro o x o' x' hm hm' hne b off
    rw [hst o x hm, hst o' x' hm']
    exact h.dis o x o' x' hm hm' hne b off
  · intro o x hm b off hown hp
    rw [hst o x hm] at hown
    rcases hnew b off hp with hp | hp
    · exact h.npc o x hm b off hown hp
    · have := lt_of o x hm b off hown
      omega

theorem Rel.grow {E : Env} {st : St} {g g' : Gh} {w w' : World} (h : Rel E st g w) (hos : w'.os = w.os) (htape : w'.tape = w.tape) (hout : w'.output = w.output)
    (hsize : w.heap.size ≤ w'.heap.size) (hold : ∀ k, k < w.heap.size → w'.heap[k]? = w.heap[k]?) (hpc : ∀ b off, g.pc b off → g'.pc b off)
    (hnew : ∀ b off, g'.pc b off → g.pc b off ∨ (w.heap.size ≤ b ∧ (w'.cell? ⟨b, off, Option.none⟩).isSome = true))
    (hob : ∀ o, g.ob o ≠ .none → g'.ob o = g.ob o) (hfr : ∃ N, ∀ o, N ≤ o → g'.ob o = .none) : Rel E st g' w' ∧ GLe g w g' w' :=
  h.grow' hos htape hout hsize hold hpc hnew (fun o ho _ => hob o ho) (fun o x hm => hob o (h.ok o x hm).live) hfr

/-- A block that an object owns is written: the object's name goes out of the store. -/
theorem Rel.write {E : Env} {st : St} {g g' : Gh} {w : World} {o : Nat} {ob : AObj} (h : Rel E ((o, ob) :: st) g w) (b : Nat) (arr arr' : Array Value)
    (hb : Blk w b arr) (hsz : arr'.size = arr.size) (hB : E.B ≤ b) (off0 : Nat) (hown : (g.ob o).owns b off0)
    (hkeep : ∀ off, g.pc b off → arr'[off]? = arr[off]?) (hpc : ∀ b off, g.pc b off → g'.pc b off)
    (hnew : ∀ b' off, g'.pc b' off → g.pc b' off ∨ (b' = b ∧ (g.ob o).owns b off ∧ off < arr.size))
    (hob : ∀ o, g.ob o ≠ .none → g'.ob o = g.ob o) (hfr : ∃ N, ∀ o, N ≤ o → g'.ob o = .none) : Rel E st g' (w.setRow b arr') ∧ GLe g w g' (w.setRow b arr') := by
  have hnd := List.nodup_cons.1 h.nd
  have hne : ∀ o' x, (o', x) ∈ st → o ≠ o' := fun o' x hm e => hnd.1 (by rw [e]; exact List.mem_map.2 ⟨_, hm, rfl⟩)
  have hin : w.heap.size = (w.setRow b arr').heap.size := by simp
  have hnb := hb.setRow hsz
  have hl : GLe g w g' (w.setRow b arr') := .mk' (fun b' off hp => ⟨hpc b' off hp, by
    by_cases e : b' = b
    · subst e
      rw [hnb.cell, hb.cell, hkeep off hp]
    · exact World.cell?_of_block (setRow_other w b b' arr' e)⟩) (fun o ho _ => hob o ho)
  refine ⟨⟨h.base.trans ⟨by simp, by simp, by simp, by simp, fun k hk => setRow_other w b k arr' (by omega)⟩, by rw [← hin]; exact h.hB, hnd.2, ?_, ?_, ?_, ?_, hfr⟩, hl⟩
  · intro o' x hm
    have hm' := List.mem_cons_of_mem (o, ob) hm
    have hk := h.ok o' x hm'
    have hd := fun off => h.dis o ob o' x (List.mem_cons_self ..) hm' (hne o' x hm) b off
    rw [hob o' hk.live]
    refine hk.mono hl (fun b' hb' => setRow_other w b b' arr' ?_) (by rw [← hin]; exact Nat.le_refl _) (fun b' lo hi hb' hlt arr2 hh => ?_)
    · rintro rfl
      refine hd off0 ⟨hown, ?_⟩
      rcases hb' with hb' | hb' | ⟨n, c, sz, hb', h0⟩ | ⟨b0, S, hb', hS⟩
      · rw [hb']; rfl
      · rw [hb']; rfl
      · rw [hb']; exact ⟨h0, rfl⟩
      · rw [hb']; exact hS
    · by_cases e : b' = b
      · subst e
        exact ⟨arr', hnb, by rw [hsz, hb.unique hh]⟩
      · exact ⟨arr2, hh.of_eq (setRow_other w b b' arr' e), rfl⟩
  · intro b' off hp
    rcases hnew b' off hp with hp | ⟨rfl, _, hlt⟩
    · have := h.pin b' off hp
      rw [(hl.pc b' off hp).2]
      exact this
    · rw [hnb.cell]
      simp [hsz, hlt]
  · intro o1 x1 o2 x2 hm1 hm2 hne' b' off
    rw [hob o1 (h.ok o1 x1 (List.mem_cons_of_mem _ hm1)).live, hob o2 (h.ok o2 x2 (List.mem_cons_of_mem _ hm2)).live]
    exact h.dis o1 x1 o2 x2 (List.mem_cons_of_mem _ hm1) (List.mem_cons_of_mem _ hm2) hne' b' off
  · intro o' x hm b' off hown' hp
    rw [hob o' (h.ok o' x (List.mem_cons_of_mem _ hm)).live] at hown'
    rcases hnew b' off hp with hp | ⟨rfl, ho, _⟩
    · exact h.npc o' x (List.mem_cons_of_mem _ hm) b' off hown' hp
    · exact h.dis o ob o' x (List.mem_cons_self ..) (List.mem_cons_of_mem _ hm) (hne o' x hm) b' off ⟨ho, hown'⟩

/-- A new name. -/
theorem Rel.cons {E : Env} {st : St} {g : Gh} {w : World} (h : Rel E st g w) (o : Nat) (ob : AObj) (hn : ∀ x, (o, x) ∉ st) (hk : ObjOk E g w ob (g.ob o))
    (hd : ∀ o' x, (o', x) ∈ st → ∀ b off, ¬ ((g.ob o).owns b off ∧ (g.ob o').owns b off)) (hp : ∀ b off, (g.ob o).owns b off → ¬ g.pc b off) : Rel E ((o, ob) :: st) g w := by
  refine ⟨h.base, h.hB, ?_, ?_, h.pin, ?_, ?_, h.fresh⟩
  · rw [List.map_cons, List.nodup_cons]
    refine ⟨fun hm => ?_, h.nd⟩
    obtain ⟨⟨o', x⟩, hm2, he⟩ := List.mem_map.1 hm
    have he' : o' = o := he
    subst he'
    exact hn x hm2
  · intro o' x hm
    rcases List.mem_cons.1 hm with e | hm
    · cases e; exact hk
    · exact h.ok o' x hm
  · intro o1 x1 o2 x2 hm1 hm2 hne b off
    rcases List.mem_cons.1 hm1 with e1 | hm1 <;> rcases List.mem_cons.1 hm2 with e2 | hm2
    · cases e1; cases e2; exact absurd rfl hne
    · cases e1; exact hd o2 x2 hm2 b off
    · cases e2; exact fun ⟨a, b'⟩ => hd o1 x1 hm1 b off ⟨b', a⟩
    · exact h.dis o1 x1 o2 x2 hm1 hm2 hne b off
  · intro o' x hm
    rcases List.mem_cons.1 hm with e | hm
    · cases e; exact hp
    · exact h.npc o' x hm

/-- What a live name owns lies in a block that is there. -/
theorem Rel.owns_lt {E : Env} {st : St} {g : Gh} {w : World} (h : Rel E st g w) {o : Nat} {x : AObj} (hm : (o, x) ∈ st) {b off : Nat} (hown : (g.ob o).owns b off) : b < w.heap.size := by
  have hk := h.ok o x hm
  cases hpl : g.ob o with
  | none => rw [hpl] at hown; exact hown.elim
  | cells b' =>
    rw [hpl] at hown hk
    obtain rfl : b = b' := hown
    cases x with
    | cells cs => obtain ⟨_, arr, h2, _⟩ := hk; exact h2.lt
    | _ => exact hk.elim
  | vec b' n c sz =>
    rw [hpl] at hown hk
    obtain ⟨h0, rfl⟩ := hown
    cases x with
    | vec sz' xs => obtain ⟨_, _, _, _, _, _, hk⟩ := hk; obtain ⟨_, arr, h2, _⟩ := hk h0; exact h2.lt
    | _ => exact hk.elim
  | spare b' lo hi =>
    rw [hpl] at hown hk
    obtain ⟨rfl, h3, h4⟩ := hown
    cases x with
    | spare =>
      rcases hk with hk | ⟨_, _, arr, h2, _⟩
      · omega
      · exact h2.lt
    | _ => exact hk.elim
  | map b' => rw [hpl] at hk; cases x <;> exact hk.elim
  | abs b0 S =>
    rw [hpl] at hown hk
    cases x with
    | abs A => exact (hk.1 b hown).2
    | _ => exact hk.elim
  | resv => rw [hpl] at hown; exact hown.elim

theorem Rel.pc_lt {E : Env} {st : St} {g : Gh} {w : World} (h : Rel E st g w) {b off : Nat} (hp : g.pc b off) : b < w.heap.size := by
  obtain ⟨v, hv⟩ := Option.isSome_iff_exists.1 (h.pin b off hp)
  exact World.block_lt_of_cell? w _ hv

/-- A draw. -/
theorem Rel.drew {E : Env} {st : St} {g : Gh} {w : World} (h : Rel E st g w) : Rel E st g w.drew ∧ GLe g w g w.drew :=
  h.grow rfl rfl rfl (Nat.le_refl _) (fun _ _ => rfl) (fun _ _ h => h) (fun _ _ h => .inl h) (fun _ _ => rfl) h.fresh

/-- The ghost with a name's place, and with cells protected. -/
def Gh.put (g : Gh) (o : Nat) (pl : Pl) : Gh := ⟨g.pc, fun x => if x = o then pl else g.ob x⟩
def Gh.prot (g : Gh) (S : Nat → Nat → Prop) : Gh := ⟨fun b off => g.pc b off ∨ S b off, g.ob⟩

theorem Gh.put_same (g : Gh) (o : Nat) (pl : Pl) : (g.put o pl).ob o = pl := by simp [Gh.put]
theorem Gh.put_other (g : Gh) {o o' : Nat} (pl : Pl) (h : o' ≠ o) : (g.put o pl).ob o' = g.ob o' := by simp [Gh.put, h]
theorem Gh.put_old (g : Gh) {o : Nat} (pl : Pl) (h : g.ob o = .none) : ∀ o', g.ob o' ≠ .none → (g.put o pl).ob o' = g.ob o' := fun o' ho => Gh.put_other g pl (fun e => ho (by rw [e]; exact h))
theorem Gh.put_fresh (g : Gh) (o : Nat) (pl : Pl) (h : ∃ N, ∀ o, N ≤ o → g.ob o = .none) : ∃ N, ∀ x, N ≤ x → (g.put o pl).ob x = .none := by
  obtain ⟨N, hN⟩ := h
  exact ⟨max N (o + 1), fun x hx => by rw [Gh.put_other g pl (by omega)]; exact hN x (by omega)⟩

theorem Rel.newName {E : Env} {st : St} {g : Gh} {w : World} (h : Rel E st g w) : ∃ o, g.ob o = .none ∧ ∀ x, (o, x) ∉ st := by
  obtain ⟨N, hN⟩ := h.fresh
  exact ⟨N, hN N (Nat.le_refl _), fun x hm => (h.ok N x hm).live (hN N (Nat.le_refl _))⟩

/-- A new block of cells, under a new name. -/
theorem Rel.box {E : Env} {st : St} {g : Gh} {w : World} (h : Rel E st g w) (arr : Array Value) (T : TypeId) (cs : List AV) (hs : arr.size = cs.length) (hc : cs.all AV.isCell = true)
    (hr : ∀ j, j < cs.length → Reads g w (arr.getD j undef) (cs.getD j .un)) :
    ∃ o g', g'.ob o = .cells w.heap.size ∧ Rel E ((o, .cells cs) :: st) g' (w.alloc (.cells arr T)) ∧ GLe g w g' (w.alloc (.cells arr T)) := by
  obtain ⟨o, ho, hn⟩ := h.newName
  have hold : ∀ k, k < w.heap.size → (w.alloc (.cells arr T)).heap[k]? = w.heap[k]? := fun k hk => Below.heap_alloc w _ k hk
  obtain ⟨h1, hl⟩ := h.grow (g' := g.put o (.cells w.heap.size)) (w' := w.alloc (.cells arr T)) rfl rfl rfl (by simp) hold (fun _ _ hp => hp) (fun _ _ hp => .inl hp) (g.put_old _ ho) (g.put_fresh _ _ h.fresh)
  refine ⟨o, _, g.put_same _ _, h1.cons o _ hn ?_ ?_ ?_, hl⟩
  · rw [g.put_same]
    exact ⟨h.hB, arr, Blk.new w arr T, hs, hc, fun j hj => (hr j hj).mono hl⟩
  · intro o' x hm b off
    rw [g.put_same]
    rintro ⟨rfl, h2⟩
    rw [g.put_other _ (fun e => hn x (by rw [← e]; exact hm))] at h2
    exact Nat.lt_irrefl _ (h.owns_lt hm h2)
  · intro b off
    rw [g.put_same]
    rintro rfl hp
    exact Nat.lt_irrefl _ (h.pc_lt hp)

/-- A name for later. -/
theorem Rel.reserve {E : Env} {st : St} {g : Gh} {w : World} (h : Rel E st g w) : ∃ p g', Rel E ((p, .resv) :: st) g' w ∧ GLe g w g' w := by
  obtain ⟨o, ho, hn⟩ := h.newName
  obtain ⟨h1, hl⟩ := h.grow (g' := g.put o .resv) (w' := w) rfl rfl rfl (Nat.le_refl _) (fun _ _ => rfl) (fun _ _ hp => hp) (fun _ _ hp => .inl hp) (g.put_old _ ho) (g.put_fresh _ _ h.fresh)
  refine ⟨o, _, h1.cons o _ hn ?_ ?_ ?_, hl⟩
  · rw [g.put_same]; trivial
  · intro o' x hm b off; rw [g.put_same]; exact fun h => h.1
  · intro b off; rw [g.put_same]; exact fun h _ => h

/-- What a reserved name is put to does not touch the others. -/
theorem Rel.put_resv {E : Env} {st : St} {g : Gh} {w : World} {p : Nat} (h : Rel E ((p, .resv) :: st) g w) (pl : Pl) :
    g.ob p = .resv ∧ (∀ x, (p, x) ∉ st) ∧ (∀ o, g.ob o ≠ .none → g.ob o ≠ .resv → (g.put p pl).ob o = g.ob o) ∧ (∀ o x, (o, x) ∈ st → (g.put p pl).ob o = g.ob o) := by
  have hk := h.ok p _ (List.mem_cons_self ..)
  have hp : g.ob p = .resv := by
    cases hpl : g.ob p <;> rw [hpl] at hk <;> first | rfl | exact hk.elim
  have hn : ∀ x, (p, x) ∉ st := fun x hm => (List.nodup_cons.1 h.nd).1 (List.mem_map.2 ⟨_, hm, rfl⟩)
  exact ⟨hp, hn, fun o _ hr => Gh.put_other g pl (fun e => hr (by rw [e]; exact hp)), fun o x hm => Gh.put_other g pl (fun e => hn x (by rw [← e]; exact hm))⟩

end Go.Lift
