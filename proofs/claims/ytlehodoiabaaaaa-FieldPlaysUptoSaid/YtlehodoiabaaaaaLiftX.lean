/- Lift, part X: a region: blocks that refer to one another, as data. -/
import Derived.Test.YtlehodoiabaaaaaLiftV
namespace Go.Lift
open Go.RowKit

/-- A pointer into the region: the block's number, the cell. A slice: the block's number, the first cell, its length, its room. -/
abbrev RP := Option (Nat × Nat)
abbrev RS := Option (Nat × Nat × Nat × Nat)

/-- A cell of the region. -/
inductive RV where
  | bo (b : Bool)
  | it (k : IntKind) (n : Int)
  | tx (s : List UInt8)
  | pt (a : RP)
  | sc (a : RS)
  deriving Inhabited

abbrev Reg := List (List RV)

def rpAdd (p : RP) (n : Nat) : RP := p.map fun a => (a.1, a.2 + n)
def rLd (r : Reg) (p : RP) : Option RV := p.bind fun a => (r[a.1]?).bind fun cs => cs[a.2]?
def rSto (r : Reg) (p : RP) (vs : List RV) : Option Reg :=
  p.bind fun a => (r[a.1]?).bind fun cs => if a.2 + vs.length ≤ cs.length then some (r.set a.1 (splice cs a.2 vs)) else none
def rsLen (s : RS) : Nat := match s with
  | none => 0
  | some a => a.2.2.1
def rsPtr (s : RS) (i : Int) (sz : Nat) : RP := s.map fun a => (a.1, a.2.1 + i.toNat * sz)

def RV.int? (k : IntKind) : RV → Option Int
  | .it k' n => if k' = k then some n else none
  | _ => none
def RV.bool? : RV → Option Bool
  | .bo x => some x
  | _ => none
def RV.str? : RV → Option (List UInt8)
  | .tx x => some x
  | _ => none
def RV.ptr? : RV → Option RP
  | .pt x => some x
  | _ => none
def RV.sl? : RV → Option RS
  | .sc x => some x
  | _ => none
def rLdI (k : IntKind) (r : Reg) (p : RP) : Option Int := (rLd r p).bind (RV.int? k)
def rLdB (r : Reg) (p : RP) : Option Bool := (rLd r p).bind RV.bool?
def rLdS (r : Reg) (p : RP) : Option (List UInt8) := (rLd r p).bind RV.str?
def rLdP (r : Reg) (p : RP) : Option RP := (rLd r p).bind RV.ptr?
def rLdL (r : Reg) (p : RP) : Option RS := (rLd r p).bind RV.sl?

theorem rLdI_eq {k : IntKind} {r : Reg} {p : RP} {n : Int} (h : rLdI k r p = some n) : rLd r p = some (.it k n) := by
  obtain ⟨v, h1, h2⟩ := Option.bind_eq_some_iff.1 h
  cases v with
  | it k' m =>
    simp only [RV.int?] at h2
    split at h2
    · rename_i hk
      subst hk
      rw [h1, Option.some.inj h2]
    · cases h2
  | _ => cases h2
theorem rLdB_eq {r : Reg} {p : RP} {n : Bool} (h : rLdB r p = some n) : rLd r p = some (.bo n) := by
  obtain ⟨v, h1, h2⟩ := Option.bind_eq_some_iff.1 h
  cases v <;> cases h2
  exact h1
theorem rLdS_eq {r : Reg} {p : RP} {n : List UInt8} (h : rLdS r p = some n) : rLd r p = some (.tx n) := by
  obtain ⟨v, h1, h2⟩ := Option.bind_eq_some_iff.1 h
  cases v <;> cases h2
  exact h1
theorem rLdP_eq {r : Reg} {p : RP} {n : RP} (h : rLdP r p = some n) : rLd r p = some (.pt n) := by
  obtain ⟨v, h1, h2⟩ := Option.bind_eq_some_iff.1 h
  cases v <;> cases h2
  exact h1
theorem rLdL_eq {r : Reg} {p : RP} {n : RS} (h : rLdL r p = some n) : rLd r p = some (.sc n) := by
  obtain ⟨v, h1, h2⟩ := Option.bind_eq_some_iff.1 h
  cases v <;> cases h2
  exact h1

/-! ### What it is in a world -/
def RV.val (bs : List Nat) : RV → Value
  | .bo b => .bool b
  | .it k n => .int k n
  | .tx s => .string ⟨s.toArray⟩
  | .pt none => .pointer none
  | .pt (some a) => .pointer (some ⟨bs.getD a.1 0, a.2, none⟩)
  | .sc none => .slice none 0 0
  | .sc (some a) => .slice (some ⟨bs.getD a.1 0, a.2.1, none⟩) a.2.2.1 a.2.2.2

def RV.fits (m : Nat) : RV → Bool
  | .pt (some a) => decide (a.1 < m)
  | .sc (some a) => decide (a.1 < m)
  | _ => true

/-- Is it the same wherever it lies? -/
def RV.const : RV → Bool
  | .pt (some _) => false
  | .sc (some _) => false
  | _ => true

def rvAV (o : Nat) : RV → AV
  | .bo b => .bool b
  | .it k n => .int k n
  | .tx s => .str s
  | .pt p => AV.rp o p
  | .sc s => AV.rs o s

theorem RV.val_append {bs more : List Nat} : ∀ {v : RV}, v.fits bs.length = true → v.val (bs ++ more) = v.val bs
  | .bo _, _ => rfl
  | .it _ _, _ => rfl
  | .tx _, _ => rfl
  | .pt none, _ => rfl
  | .pt (some a), h => by
    have h1 : a.1 < bs.length := of_decide_eq_true h
    simp [RV.val, List.getD, List.getElem?_append_left h1]
  | .sc none, _ => rfl
  | .sc (some a), h => by
    have h1 : a.1 < bs.length := of_decide_eq_true h
    simp [RV.val, List.getD, List.getElem?_append_left h1]

theorem RV.fits_mono {m m' : Nat} (hm : m ≤ m') : ∀ {v : RV}, v.fits m = true → v.fits m' = true
  | .bo _, _ => rfl
  | .it _ _, _ => rfl
  | .tx _, _ => rfl
  | .pt none, _ => rfl
  | .pt (some a), h => decide_eq_true (Nat.lt_of_lt_of_le (of_decide_eq_true h) hm)
  | .sc none, _ => rfl
  | .sc (some a), h => decide_eq_true (Nat.lt_of_lt_of_le (of_decide_eq_true h) hm)

theorem RV.const_fits (m : Nat) : ∀ {v : RV}, v.const = true → v.fits m = true
  | .bo _, _ => rfl
  | .it _ _, _ => rfl
  | .tx _, _ => rfl
  | .pt none, _ => rfl
  | .pt (some a), h => by cases h
  | .sc none, _ => rfl
  | .sc (some a), h => by cases h

theorem RV.oneCell (bs : List Nat) : ∀ v : RV, (v.val bs).oneCell' = true
  | .bo _ => rfl
  | .it _ _ => rfl
  | .tx _ => rfl
  | .pt none => rfl
  | .pt (some _) => rfl
  | .sc none => rfl
  | .sc (some _) => rfl

theorem rvAV_isCell (o : Nat) : ∀ v : RV, (rvAV o v).isCell = true
  | .bo _ => rfl
  | .it _ _ => rfl
  | .tx _ => rfl
  | .pt none => rfl
  | .pt (some _) => rfl
  | .sc none => rfl
  | .sc (some _) => rfl

theorem reads_rv {g : Gh} {w : World} {o : Nat} {bs : List Nat} {S : Nat → Prop} (ho : g.ob o = .abs bs S) : ∀ {v : RV}, v.fits bs.length = true → Reads g w (v.val bs) (rvAV o v)
  | .bo _, _ => .bool _
  | .it _ _, _ => .int _ _
  | .tx _, _ => .str _
  | .pt none, _ => .rpn _
  | .pt (some a), h => by
    have h1 : a.1 < bs.length := of_decide_eq_true h
    have h2 : bs[a.1]? = some (bs.getD a.1 0) := by simp [List.getD, List.getElem?_eq_getElem h1]
    exact .rp ho h2
  | .sc none, _ => .rsn _
  | .sc (some a), h => by
    have h1 : a.1 < bs.length := of_decide_eq_true h
    have h2 : bs[a.1]? = some (bs.getD a.1 0) := by simp [List.getD, List.getElem?_eq_getElem h1]
    exact .rs ho h2

theorem abs_inj {bs bs' : List Nat} {S S' : Nat → Prop} (h : Pl.abs bs S = Pl.abs bs' S') : bs = bs' := by cases h; rfl

theorem rv_reads {g : Gh} {w : World} {o : Nat} {bs : List Nat} {S : Nat → Prop} (ho : g.ob o = .abs bs S) {x : Value} : ∀ {v : RV}, Reads g w x (rvAV o v) → x = v.val bs ∧ v.fits bs.length = true
  | .bo _, h => by cases h; exact ⟨rfl, rfl⟩
  | .it _ _, h => by cases h; exact ⟨rfl, rfl⟩
  | .tx _, h => by cases h; exact ⟨rfl, rfl⟩
  | .pt none, h => by cases h; exact ⟨rfl, rfl⟩
  | .pt (some a), h => by
    have h : Reads g w x (.rp o (some (a.1, a.2))) := h
    cases h with
    | @rp b _ _ _ bs' S' h1 hb =>
      obtain rfl := abs_inj (ho.symm.trans h1)
      have h2 := (List.getElem?_eq_some_iff.1 hb).1
      exact ⟨by simp [RV.val, List.getD, hb], decide_eq_true h2⟩
  | .sc none, h => by cases h; exact ⟨rfl, rfl⟩
  | .sc (some a), h => by
    have h : Reads g w x (.rs o (some (a.1, a.2.1, a.2.2.1, a.2.2.2))) := h
    cases h with
    | @rs b _ _ _ _ _ bs' S' h1 hb =>
      obtain rfl := abs_inj (ho.symm.trans h1)
      have h2 := (List.getElem?_eq_some_iff.1 hb).1
      exact ⟨by simp [RV.val, List.getD, hb], decide_eq_true h2⟩

/-- The region r lies in the blocks bs. -/
structure RegAt (r : Reg) (w : World) (bs : List Nat) (S : Nat → Prop) : Prop where
  len : bs.length = r.length
  nd : bs.Nodup
  own : ∀ k, S k ↔ k ∈ bs
  blk : ∀ (i : Nat) (cs : List RV) (b : Nat), r[i]? = some cs → bs[i]? = some b → Blk w b (cs.map (RV.val bs)).toArray
  fits : ∀ (cs : List RV), cs ∈ r → ∀ (v : RV), v ∈ cs → v.fits bs.length = true

def regAbs (r : Reg) : Abs where
  holds := RegAt r
  loc := fun h hk => ⟨h.len, h.nd, h.own, fun i cs b h1 h2 => (h.blk i cs b h1 h2).of_eq (hk b ((h.own b).2 (List.mem_of_getElem? h2))), h.fits⟩

theorem rLd_inv {r : Reg} {p : RP} {v : RV} (h : rLd r p = some v) : ∃ a cs, p = some a ∧ r[a.1]? = some cs ∧ cs[a.2]? = some v := by
  cases p with
  | none => cases h
  | some a =>
    have h : (r[a.1]?).bind (fun cs => cs[a.2]?) = some v := h
    obtain ⟨cs, h1, h2⟩ := Option.bind_eq_some_iff.1 h
    exact ⟨a, cs, rfl, h1, h2⟩

/-- The cells of a place, one after the other. -/
def RLds (r : Reg) (p : RP) : Nat → List RV → Prop
  | _, [] => True
  | j, v :: vs => rLd r (rpAdd p j) = some v ∧ RLds r p (j + 1) vs

theorem rlds_get {r : Reg} {p : RP} : ∀ {vs : List RV} {j : Nat}, RLds r p j vs → ∀ q, (h : q < vs.length) → rLd r (rpAdd p (j + q)) = some vs[q]
  | v :: vs, j, h, 0, _ => h.1
  | v :: vs, j, h, q + 1, hq => by
    have := rlds_get h.2 q (by simpa using hq)
    rw [show j + 1 + q = j + (q + 1) by omega] at this
    simpa using this

section
variable {P : Program} {n : Nat} {o : Oper} {fr : Fr} {st : St} {k : AV → St → Prop}

/-- A pointer into the region that is none of nil. -/
theorem rp_at {fr : Fr} {n : Nat} {E : Env} {F : St} {g : Gh} {w : World} {a : Act} {x : Operand} {q i : Nat} {r : Reg} {p : Nat × Nat} (hf : FRel n g w a fr) (hr : Rel E (st ++ F) g w) (hx : AEv fr x (AV.rp q (some p))) (hg : st[i]? = some (q, .abs (regAbs r))) :
    ∃ bs S b, g.ob q = .abs bs S ∧ RegAt r w bs S ∧ bs[p.1]? = some b ∧ a.eval x = .pointer (some ⟨b, p.2, none⟩) := by
  have h : Reads g w (a.eval x) (.rp q (some (p.1, p.2))) := hx n g w a hf
  have hok := hr.ok q _ (mem_of_get hg)
  generalize a.eval x = cv at h
  cases h with
  | @rp b _ _ _ bs S ho hb =>
    rw [ho] at hok
    exact ⟨bs, S, b, ho, hok.2, hb, rfl⟩

theorem op_regLoad {T : TypeId} {x : Operand} {q i : Nat} {r : Reg} {p : RP} {v : RV} {av : AV} (ho : o.op = .load T x) (hag : ∀ w, (isAgg T).run P w = .ok false w) (hx : AEv fr x (AV.rp q p)) (hg : st[i]? = some (q, .abs (regAbs r)))
    (hl : rLd r p = some v) (hv : rvAV q v = av) (hk : k av st) : AOp P n o fr st k :=
  AOp.of_run fun E F a w g hf hr => by
    subst hv
    obtain ⟨p, cs, rfl, h1, h2⟩ := rLd_inv hl
    obtain ⟨bs, S, b, hob, hR, hb, hcv⟩ := rp_at hf hr hx hg
    have hB := hR.blk _ _ _ h1 hb
    have hcell : w.cell? ⟨b, p.2, none⟩ = some (v.val bs) := by
      rw [hB.cell]; simp [h2]
    refine ⟨v.val bs, w, g, _, st, ?_, hk, reads_rv hob (hR.fits cs (List.mem_of_getElem? h1) v (List.mem_of_getElem? h2)), hr, GLe.refl _ _⟩
    simp [execOp, ho, hcv, Instr.loadAt, Instr.sureAddr, loadVar, hag, load, Sem.run, hcell]

theorem op_regLoadN {T : TypeId} {x : Operand} {q i sz : Nat} {r : Reg} {p : RP} {vs : List RV} {avs : List AV} (ho : o.op = .load T x) (hag : ∀ w, (isAgg T).run P w = .ok true w) (hsz : ∀ w, (sizeOf T).run P w = .ok sz w) (hx : AEv fr x (AV.rp q p)) (hg : st[i]? = some (q, .abs (regAbs r)))
    (hl : RLds r p 0 vs) (hlen : vs.length = sz) (h0 : 0 < sz) (hv : vs.map (rvAV q) = avs) (hk : k (.agg avs) st) : AOp P n o fr st k :=
  AOp.of_run fun E F a w g hf hr => by
    subst hv hlen
    have hget := rlds_get hl
    have hp : ∃ p0, p = some p0 := by
      cases p with
      | none => have := hget 0 h0; cases this
      | some p0 => exact ⟨p0, rfl⟩
    obtain ⟨p, rfl⟩ := hp
    obtain ⟨bs, S, b, hob, hR, hb, hcv⟩ := rp_at hf hr hx hg
    have hget2 : ∀ j, (hj : j < vs.length) → w.cell? ⟨b, p.2 + j, none⟩ = some (vs[j].val bs) ∧ vs[j].fits bs.length = true := fun j hj => by
      obtain ⟨p', cs, hp', h1, h2⟩ := rLd_inv (hget j hj)
      have hp'' : p' = (p.1, p.2 + (0 + j)) := (Option.some.inj hp').symm
      subst hp''
      simp only [Nat.zero_add] at h2
      have hB := hR.blk _ _ _ h1 hb
      refine ⟨?_, hR.fits cs (List.mem_of_getElem? h1) _ (List.mem_of_getElem? h2)⟩
      rw [hB.cell]; simp [h2]
    have hcell : ∀ j, j < vs.length → w.cell? ((⟨b, p.2, none⟩ : Addr).add j) = some ((vs.map (RV.val bs)).getD j undef) := fun j hj => by
      rw [add_addr, (hget2 j hj).1]
      simp [List.getD, hj]
    refine ⟨.agg ((List.range vs.length).map fun j => (vs.map (RV.val bs)).getD j undef).toArray, w, g, _, st, ?_, hk, ?_, hr, GLe.refl _ _⟩
    · simp only [execOp, ho, hcv, Instr.loadAt, Instr.sureAddr, loadVar, Sem.run_bind, Sem.run_pure, Result.andThen_ok, hag, hsz, if_true, run_loadCells w _ _ _ hcell]
    · refine .agg (by simp) fun j hj => ?_
      rw [List.length_map] at hj
      have e1 : (((List.range vs.length).map fun j => (vs.map (RV.val bs)).getD j undef).toArray).getD j undef = vs[j].val bs := by
        simp [Array.getD_eq_getD_getElem?, hj, List.getD]
      have e2 : (vs.map (rvAV q)).getD j .un = rvAV q vs[j] := by simp [List.getD, hj]
      rw [e1, e2]
      exact reads_rv hob (hget2 j hj).2

/-- What is written, cell by cell. -/
theorem cells_rv {g : Gh} {w : World} {q : Nat} {bs : List Nat} {S : Nat → Prop} (hob : g.ob q = .abs bs S) {x : Value} {v : AV} {vs : List RV} (hv : Reads g w x v) (hvs : v.cells = vs.map (rvAV q)) :
    x.cells.toList = vs.map (RV.val bs) ∧ ∀ u, u ∈ vs → u.fits bs.length = true := by
  have hall : v.cells.all AV.isCell = true := by
    rw [hvs, List.all_eq_true]
    intro y hy
    obtain ⟨u, _, rfl⟩ := List.mem_map.1 hy
    exact rvAV_isCell q u
  have hs := hv.cells_size hall
  have key : ∀ j, (hj : j < vs.length) → x.cells.getD j undef = vs[j].val bs ∧ vs[j].fits bs.length = true := fun j hj => by
    have h1 := hv.cells_at hall j (by rw [hvs, List.length_map]; exact hj)
    have e : v.cells.getD j .un = rvAV q vs[j] := by rw [hvs]; simp [List.getD, hj]
    rw [e] at h1
    exact rv_reads hob h1
  have hl : x.cells.size = vs.length := by rw [hs, hvs, List.length_map]
  refine ⟨?_, fun u hu => ?_⟩
  · apply List.ext_getElem
    · simp [hl]
    · intro j h1 h2
      have hj : j < vs.length := by simpa using h2
      have := (key j hj).1
      rw [Array.getD_eq_getD_getElem?, Array.getElem?_eq_getElem (by omega)] at this
      simpa using this
  · obtain ⟨j, hj, rfl⟩ := List.mem_iff_getElem.1 hu
    exact (key j hj).2

theorem map_splice {α β : Type} (f : α → β) (l : List α) (off : Nat) (vs : List α) : (splice l off vs).map f = splice (l.map f) off (vs.map f) := by
  simp [splice, List.map_take, List.map_drop]

/-- Something is written into the region. -/
theorem RegAt.store {r r' : Reg} {w : World} {bs : List Nat} {S : Nat → Prop} (h : RegAt r w bs S) {a : Nat × Nat} {b : Nat} {vs : List RV} (hb : bs[a.1]? = some b) (hs : rSto r (some a) vs = some r') (hf : ∀ u, u ∈ vs → u.fits bs.length = true) (P : Program) :
    ∃ w', (storeCells ⟨b, a.2, none⟩ (vs.map (RV.val bs))).run P w = .ok () w' ∧ RegAt r' w' bs S ∧ Turned w w' S S := by
  have hs : (r[a.1]?).bind (fun cs => if a.2 + vs.length ≤ cs.length then some (r.set a.1 (splice cs a.2 vs)) else none) = some r' := hs
  obtain ⟨cs, h1, h2⟩ := Option.bind_eq_some_iff.1 hs
  split at h2
  · rename_i hle
    obtain rfl := Option.some.inj h2
    have hB := h.blk _ _ _ h1 hb
    have run := run_storeCells_blk P b a.2 (vs.map (RV.val bs)) 0 _ w hB (by simp; omega) (fun v hv => by obtain ⟨u, _, rfl⟩ := List.mem_map.1 hv; exact u.oneCell bs)
    rw [Nat.add_zero] at run
    have hbS : S b := (h.own b).2 (List.mem_of_getElem? hb)
    obtain ⟨T, fz, hh, _⟩ := id hB
    have hlt : b < w.heap.size := hB.lt
    refine ⟨_, run, ⟨by rw [List.length_set]; exact h.len, h.nd, h.own, fun i cs' b' h3 h4 => ?_, fun cs' hc v hv => ?_⟩, rfl, rfl, rfl, by simp [World.setRow], fun k hk hSk => setRow_other _ _ _ _ (fun e => hSk (e ▸ hbS)), fun k hk => .inl hk, fun k hk => ?_⟩
    · by_cases hi : i = a.1
      · subst hi
        have : b' = b := Option.some.inj (h4.symm.trans hb)
        subst this
        rw [List.getElem?_set_self (List.getElem?_eq_some_iff.1 h1).1] at h3
        obtain rfl := Option.some.inj h3
        have hsz : (spliceA (cs.map (RV.val bs)).toArray a.2 (vs.map (RV.val bs))).size = (cs.map (RV.val bs)).toArray.size := spliceA_size (by simp; omega)
        have := hB.setRow hsz
        rw [map_splice]
        exact this
      · rw [List.getElem?_set_ne (fun e => hi e.symm)] at h3
        have hne : b' ≠ b := fun e => by
          subst e
          have h5 := List.getElem?_eq_some_iff.1 h4
          exact hi ((List.getElem?_inj h5.1 h.nd).1 (h4.trans hb.symm))
        exact (h.blk i cs' b' h3 h4).of_eq (setRow_other _ _ _ _ hne)
    · rcases List.mem_or_eq_of_mem_set hc with hc | rfl
      · exact h.fits cs' hc v hv
      · simp only [splice, List.mem_append] at hv
        rcases hv with (hv | hv) | hv
        · exact h.fits cs (List.mem_of_getElem? h1) v (List.mem_of_mem_take hv)
        · exact hf v hv
        · exact h.fits cs (List.mem_of_getElem? h1) v (List.mem_of_mem_drop hv)
    · obtain ⟨i, hi⟩ := List.mem_iff_getElem?.1 ((h.own k).1 hk)
      have hi' := (List.getElem?_eq_some_iff.1 hi).1
      have := (h.blk i _ k (List.getElem?_eq_getElem (by rw [← h.len]; exact hi')) hi).lt
      simpa [World.setRow] using this
  · cases h2

theorem op_regStore {T : TypeId} {x y : Operand} {q i m : Nat} {r r' : Reg} {p : RP} {v : AV} (vs : List RV) (ho : o.op = .store T x y) (hsz : ∀ w, (sizeOf T).run P w = .ok m w) (hx : AEv fr x (AV.rp q p)) (hy : AEv fr y v) (hg : st[i]? = some (q, .abs (regAbs r)))
    (hv : v.cells = vs.map (rvAV q)) (hm : vs.length = m) (hs : rSto r p vs = some r') (hk : k .un (st.set i (q, .abs (regAbs r')))) : AOp P n o fr st k :=
  AOp.of_skip fun E F a w g hf hr => by
    have hp : ∃ p0, p = some p0 := by
      cases p with
      | none => cases hs
      | some p0 => exact ⟨p0, rfl⟩
    obtain ⟨p, rfl⟩ := hp
    obtain ⟨bs, S, b, hob, hR, hb, hcv⟩ := rp_at hf hr hx hg
    obtain ⟨hc, hfit⟩ := cells_rv hob (hy n g w a hf) hv
    obtain ⟨w', run, hR', ht⟩ := hR.store hb hs hfit P
    obtain ⟨g', h1, h2, h3⟩ := Rel.absTurn (A' := regAbs r') [] (hr.focus hg) hob ht (by rw [List.append_nil]; exact hR')
    refine ⟨w', g', _, ?_, hk, h2.unfocus hg, h3⟩
    have hsize : (a.eval y).cells.size = m := by rw [← hm, ← Array.length_toList, hc, List.length_map]
    rw [← hc] at run
    simp [execOp, ho, hcv, Instr.storeAt, Instr.sureAddr, storeVar, hsz, hsize, run]

/-- A new block of the region. -/
theorem RegAt.new {r : Reg} {w : World} {bs : List Nat} {S : Nat → Prop} (h : RegAt r w bs S) (hlt : ∀ k, S k → k < w.heap.size) (vs : List RV) (hf : ∀ u, u ∈ vs → u.fits bs.length = true) (T : TypeId) :
    RegAt (r ++ [vs]) (w.alloc (.cells (vs.map (RV.val bs)).toArray T)) (bs ++ [w.heap.size]) (fun k => S k ∨ k = w.heap.size) ∧ Turned w (w.alloc (.cells (vs.map (RV.val bs)).toArray T)) S (fun k => S k ∨ k = w.heap.size) := by
  have hv : ∀ u : RV, u.fits bs.length = true → u.val (bs ++ [w.heap.size]) = u.val bs := fun u hu => RV.val_append hu
  have hold : ∀ k, k < w.heap.size → (w.alloc (.cells (vs.map (RV.val bs)).toArray T)).heap[k]? = w.heap[k]? := fun k hk => Below.heap_alloc w _ k hk
  refine ⟨⟨by simp [h.len], ?_, fun k => ?_, fun i cs b h1 h2 => ?_, fun cs hc v hvc => ?_⟩, rfl, rfl, rfl, by simp, fun k hk _ => hold k hk, fun k hk => ?_, fun k hk => ?_⟩
  · rw [List.nodup_append]
    refine ⟨h.nd, by simp, fun a ha b hb e => ?_⟩
    subst e
    obtain rfl := List.mem_singleton.1 hb
    exact Nat.lt_irrefl _ (hlt _ ((h.own _).2 ha))
  · rw [h.own k, List.mem_append, List.mem_singleton]
  · by_cases hi : i < r.length
    · rw [List.getElem?_append_left hi] at h1
      rw [List.getElem?_append_left (by rw [h.len]; exact hi)] at h2
      have hB := h.blk i cs b h1 h2
      have e : cs.map (RV.val (bs ++ [w.heap.size])) = cs.map (RV.val bs) := List.map_congr_left fun u hu => hv u (h.fits cs (List.mem_of_getElem? h1) u hu)
      rw [e]
      exact hB.of_eq (hold b hB.lt)
    · have hi' : i = r.length := by
        have := (List.getElem?_eq_some_iff.1 h1).1
        simp at this
        omega
      subst hi'
      rw [List.getElem?_append_right (Nat.le_refl _), Nat.sub_self] at h1
      rw [List.getElem?_append_right (by rw [h.len]; exact Nat.le_refl _), h.len, Nat.sub_self] at h2
      obtain rfl := Option.some.inj h1
      obtain rfl := Option.some.inj h2
      have e : vs.map (RV.val (bs ++ [w.heap.size])) = vs.map (RV.val bs) := List.map_congr_left fun u hu => hv u (hf u hu)
      rw [e]
      exact Blk.new w _ T
  · rw [List.length_append]
    rcases List.mem_append.1 hc with hc | hc
    · exact RV.fits_mono (Nat.le_add_right _ _) (h.fits cs hc v hvc)
    · obtain rfl := List.mem_singleton.1 hc
      exact RV.fits_mono (Nat.le_add_right _ _) (hf v hvc)
  · rcases hk with hk | rfl
    · exact .inl hk
    · exact .inr (Nat.le_refl _)
  · rcases hk with hk | rfl
    · exact Nat.lt_trans (hlt k hk) (by simp)
    · simp

/-- A new block, made by an operation. -/
theorem op_regNew {q i : Nat} {r r' : Reg} (vs : List RV) {pv : Nat → Value} {av : AV} (hg : st[i]? = some (q, .abs (regAbs r)))
    (hrun : ∀ (a : Act) (w : World) (g : Gh) (bs : List Nat) (S : Nat → Prop), FRel n g w a fr → g.ob q = .abs bs S → (∀ u, u ∈ vs → u.fits bs.length = true) ∧ ∃ T, (execOp a.eval o).run P w = .ok (.value (pv w.heap.size)) (w.alloc (.cells (vs.map (RV.val bs)).toArray T)))
    (hrd : ∀ (g : Gh) (w : World) (bs : List Nat) (b : Nat) (S : Nat → Prop), g.ob q = .abs bs S → bs[r.length]? = some b → Reads g w (pv b) av)
    (hr' : r' = r ++ [vs]) (hk : k av (st.set i (q, .abs (regAbs r')))) : AOp P n o fr st k :=
  AOp.of_run fun E F a w g hf hr => by
    subst hr'
    have hok := hr.ok q _ (mem_of_get hg)
    cases hob : g.ob q with
    | abs bs S =>
      rw [hob] at hok
      obtain ⟨hS, hR⟩ := hok
      obtain ⟨hfit, T, hrun⟩ := hrun a w g bs S hf hob
      obtain ⟨hR', ht⟩ := RegAt.new hR (fun k hk => (hS k hk).2) vs hfit T
      obtain ⟨g', h1, h2, h3⟩ := Rel.absTurn (A' := regAbs (r ++ [vs])) [w.heap.size] (hr.focus hg) hob ht hR'
      refine ⟨_, _, g', av, _, hrun, hk, hrd g' _ _ _ _ h1 ?_, h2.unfocus hg, h3⟩
      have hl : bs.length = r.length := hR.len
      rw [List.getElem?_append_right (by omega), hl, Nat.sub_self]
      rfl
    | _ => rw [hob] at hok; exact hok.elim

theorem op_regAlloc {T : TypeId} {q i : Nat} {r r' : Reg} {zv : Value} (vs : List RV) (ho : o.op = .alloc T) (hz : ∀ w, (zeroValue T).run P w = .ok zv w) (hg : st[i]? = some (q, .abs (regAbs r))) (hc : vs.all RV.const = true) (hv : ∀ bs, zv.cells = (vs.map (RV.val bs)).toArray)
    (hr' : r' = r ++ [vs]) (hk : k (AV.rp q (some (r.length, 0))) (st.set i (q, .abs (regAbs r')))) : AOp P n o fr st k :=
  op_regNew vs (pv := fun b => .pointer (some ⟨b, 0, none⟩)) hg (fun a w g bs S hf hob => ⟨fun u hu => RV.const_fits _ (List.all_eq_true.1 hc u hu), T, by
    rw [← hv bs]
    simp [execOp, ho, Instr.alloc, hz, newVar, newRow, newObj, Sem.run]⟩) (fun g w bs b S h1 h2 => .rp h1 h2) hr' hk

theorem op_regBox {T : TypeId} {x : Operand} {q i : Nat} {r r' : Reg} {v : AV} (vs : List RV) (ho : o.op = .box T x) (hx : AEv fr x v) (hg : st[i]? = some (q, .abs (regAbs r))) (hv : v.cells = vs.map (rvAV q))
    (hr' : r' = r ++ [vs]) (hk : k (AV.rp q (some (r.length, 0))) (st.set i (q, .abs (regAbs r')))) : AOp P n o fr st k :=
  op_regNew vs (pv := fun b => .pointer (some ⟨b, 0, none⟩)) hg (fun a w g bs S hf hob => by
    obtain ⟨h1, h2⟩ := cells_rv hob (hx n g w a hf) hv
    refine ⟨h2, T, ?_⟩
    rw [← h1]
    simp [execOp, ho, Instr.box, newVar, newRow, newObj, Sem.run]) (fun g w bs b S h1 h2 => .rp h1 h2) hr' hk

theorem op_regMake {t e : TypeId} {x y : Operand} {kl kc : IntKind} {ti : TypeInfo} {q i : Nat} {r r' : Reg} {z : Value} (zv : RV) {m : Int} (ho : o.op = .makeSlice t x y) (ht : P.underlying t = some (.slice e)) (hi : ∀ w, (typeInfo e).run P w = .ok ti w) (hz : ti.zero = some z) (hsz : ti.size = 1)
    (hb0 : 0 < ti.bytes) (hg : st[i]? = some (q, .abs (regAbs r))) (hzc : zv.const = true) (hzv : ∀ bs, z = zv.val bs) (hx : AEv fr x (.int kl m)) (hy : AEv fr y (.int kc m)) (h : 0 ≤ m ∧ m * ti.bytes ≤ 140737488355328)
    (hr' : r' = r ++ [List.replicate m.toNat zv]) (hk : k (AV.rs q (some (r.length, 0, m.toNat, m.toNat))) (st.set i (q, .abs (regAbs r')))) : AOp P n o fr st k :=
  op_regNew (List.replicate m.toNat zv) (pv := fun b => .slice (some ⟨b, 0, none⟩) m.toNat m.toNat) hg (fun a w g bs S hf hob => by
    refine ⟨fun u hu => by obtain ⟨_, rfl⟩ := List.mem_replicate.1 hu; exact RV.const_fits _ hzc, e, ?_⟩
    obtain ⟨h0, hb⟩ := h
    have hm : m ≤ 140737488355328 := by
      have : m * 1 ≤ m * (ti.bytes : Int) := Int.mul_le_mul_of_nonneg_left (by omega) h0
      omega
    have run := run_make (P := P) w t e ti z ht (info_of_run hi) hz kl kc m m h0 (Int.le_refl _) (by rw [Int.mul_comm]; omega) (by omega)
    have hzcell : z.cells = #[zv.val bs] := by
      rw [hzv bs]
      have := zv.oneCell bs
      generalize zv.val bs = u at this
      cases u <;> first | rfl | cases this
    have hmade : madeCells z.cells (m.toNat * ti.size) = ((List.replicate m.toNat zv).map (RV.val bs)).toArray := by
      apply Array.ext
      · rw [size_madeCells, hsz]; simp
      · intro j h1 h2
        have hj : j < m.toNat * ti.size := by rw [size_madeCells] at h1; exact h1
        have := madeCells_get (z := z.cells) hj (by rw [hzcell]; simp)
        rw [Array.getD_eq_getD_getElem?, Array.getElem?_eq_getElem h1, Option.getD_some] at this
        rw [this, hzcell]
        simp [Nat.mod_one]
    rw [hmade] at run
    simp [execOp, ho, hx.eInt hf, hy.eInt hf, run]) (fun g w bs b S h1 h2 => .rs h1 h2) hr' hk

/-! ### Places in the region -/
theorem pu_regCheck {x : Operand} {q : Nat} {p : RP} (ho : o.op = .nilCheck x) (hx : AEv fr x (AV.rp q p)) (hp : p.isSome = true) : APure P n o fr (AV.rp q p) :=
  fun a w g hf => ⟨a.eval x, fun W => by
    have h := hx n g w a hf
    cases p with
    | none => cases hp
    | some p0 =>
      have h : Reads g w (a.eval x) (.rp q (some (p0.1, p0.2))) := h
      generalize hcv : a.eval x = cv at h
      cases h
      simp [execOp, ho, hcv], hx n g w a hf⟩

theorem pu_regField {S : TypeId} {x : Operand} {i q : Nat} {fields : Array Field} {fd : Field} {sz : Nat} {p : RP} (ho : o.op = .fieldAddr S x i) (hu : P.underlying S = some (.struct fields)) (hi : fields[i]? = some fd)
    (hsz : ∀ w, (sizeOf fd.type).run P w = .ok sz w) (h0 : sz ≠ 0) (hx : AEv fr x (AV.rp q p)) (hp : p.isSome = true) {off : Nat} (hoff : fd.offset = off) : APure P n o fr (AV.rp q (rpAdd p off)) :=
  fun a w g hf => by
    subst hoff
    have h := hx n g w a hf
    cases p with
    | none => cases hp
    | some p0 =>
      have h : Reads g w (a.eval x) (.rp q (some (p0.1, p0.2))) := h
      generalize hcv : a.eval x = cv at h
      cases h with
      | @rp b _ _ _ bs S' h hb =>
        refine ⟨.pointer (some ⟨b, p0.2 + fd.offset, none⟩), fun W => ?_, ?_⟩
        · simp [execOp, ho, hcv, Instr.fieldAt, run_underlying hu, hi, Instr.sureAddr, fieldPlace, hsz, h0, add_addr]
        · exact .rp h hb

theorem pu_regLen {t e : TypeId} {x : Operand} {q : Nat} {s : RS} (ho : o.op = .call { callee := .builtin .len, args := #[x], argTypes := #[t] }) (ht : P.underlying t = some (.slice e)) (hx : AEv fr x (AV.rs q s)) : APure P n o fr (.int .i64 (rsLen s)) :=
  fun a w g hf => by
    have h := hx n g w a hf
    generalize hcv : a.eval x = cv at h
    cases s with
    | none =>
      cases h
      refine ⟨_, fun W => ?_, .int _ _⟩
      simp [execOp, ho, resolve, invoke, builtin, hcv, Builtin.len_, run_underlying ht, goInt, rsLen]
    | some s0 =>
      have h : Reads g w cv (.rs q (some (s0.1, s0.2.1, s0.2.2.1, s0.2.2.2))) := h
      cases h
      refine ⟨_, fun W => ?_, .int _ _⟩
      simp [execOp, ho, resolve, invoke, builtin, hcv, Builtin.len_, run_underlying ht, goInt, rsLen]

theorem pu_regIndexS {t e : TypeId} {x y : Operand} {q sz : Nat} {s : RS} {kk : IntKind} {i : Int} (ho : o.op = .indexAddr t x y) (ht : P.underlying t = some (.slice e)) (hsz : ∀ w, (sizeOf e).run P w = .ok sz w)
    (hx : AEv fr x (AV.rs q s)) (hy : AEv fr y (.int kk i)) (h : 0 ≤ i ∧ i < (rsLen s : Int)) : APure P n o fr (AV.rp q (rsPtr s i sz)) :=
  fun a w g hf => by
    have hi := hy.eInt hf
    have h1 := hx n g w a hf
    generalize hcv : a.eval x = cv at h1
    cases s with
    | none => exfalso; simp [rsLen] at h; omega
    | some s0 =>
      have h1 : Reads g w cv (.rs q (some (s0.1, s0.2.1, s0.2.2.1, s0.2.2.2))) := h1
      cases h1 with
      | @rs b _ _ _ _ _ bs S' h2 hb =>
        have h3 : i < (s0.2.2.1 : Int) := h.2
        refine ⟨.pointer (some ⟨b, s0.2.1 + i.toNat * sz, none⟩), fun W => ?_, .rp h2 hb⟩
        simp [execOp, ho, hcv, hi, Instr.indexAt, asIntOf, run_underlying ht, h.1, h3, hsz, add_addr]

theorem pu_regIndexA {t e : TypeId} {len : Nat} {x y : Operand} {q sz : Nat} {p : RP} {kk : IntKind} {i : Int} (ho : o.op = .indexAddr t x y) (ht : P.underlying t = some (.array len e)) (hsz : ∀ w, (sizeOf e).run P w = .ok sz w)
    (hx : AEv fr x (AV.rp q p)) (hy : AEv fr y (.int kk i)) (hp : p.isSome = true) (h : 0 ≤ i ∧ i < (len : Int)) : APure P n o fr (AV.rp q (rpAdd p (i.toNat * sz))) :=
  fun a w g hf => by
    have hi := hy.eInt hf
    have h1 := hx n g w a hf
    cases p with
    | none => cases hp
    | some p0 =>
      have h1 : Reads g w (a.eval x) (.rp q (some (p0.1, p0.2))) := h1
      generalize hcv : a.eval x = cv at h1
      cases h1 with
      | @rp b _ _ _ bs S' h2 hb =>
        refine ⟨.pointer (some ⟨b, p0.2 + i.toNat * sz, none⟩), fun W => ?_, .rp h2 hb⟩
        simp [execOp, ho, hcv, hi, Instr.indexAt, asIntOf, run_underlying ht, h.1, h.2, hsz, add_addr, Instr.sureAddr]

theorem pu_regNil {t yt : TypeId} {x y : Operand} {q : Nat} {p : RP} (ho : o.op = .binOp .eql t x y yt) (ht : P.underlying t = some (.pointer (P.pointee t))) (hx : AEv fr x (AV.rp q p)) (hy : AEv fr y .nilp) : APure P n o fr (.bool p.isNone) :=
  fun a w g hf => by
    have h := hx n g w a hf
    generalize hcv : a.eval x = cv at h
    cases p with
    | none =>
      cases h
      exact ⟨.bool true, fun W => by simp [execOp, ho, hcv, hy.eNilp hf, eqGuard, run_eql_pointer_nil W t _ ht], .bool _⟩
    | some p0 =>
      have h : Reads g w cv (.rp q (some (p0.1, p0.2))) := h
      cases h
      exact ⟨.bool false, fun W => by simp [execOp, ho, hcv, hy.eNilp hf, eqGuard, run_eql_pointer_nil W t _ ht], .bool _⟩

theorem pu_regNilS {t e yt : TypeId} {x : Operand} {q : Nat} {s : RS} (ho : o.op = .binOp .eql t x (.const (.slice none 0 0)) yt) (ht : P.underlying t = some (.slice e)) (hx : AEv fr x (AV.rs q s)) : APure P n o fr (.bool s.isNone) :=
  fun a w g hf => by
    have h := hx n g w a hf
    generalize hcv : a.eval x = cv at h
    have hev : a.eval (.const (.slice none 0 0)) = .slice none 0 0 := rfl
    cases s with
    | none =>
      cases h
      exact ⟨.bool true, fun W => by simp [execOp, ho, hcv, hev, eqGuard, Go.run_eql_slice_nil (P := P) W t e none 0 0 ht], .bool _⟩
    | some s0 =>
      have h : Reads g w cv (.rs q (some (s0.1, s0.2.1, s0.2.2.1, s0.2.2.2))) := h
      cases h
      exact ⟨.bool false, fun W => by simp [execOp, ho, hcv, hev, eqGuard, Go.run_eql_slice_nil (P := P) W t e _ _ _ ht], .bool _⟩

theorem pu_regNotNil {t yt : TypeId} {x y : Operand} {q : Nat} {p : RP} (ho : o.op = .binOp .neq t x y yt) (ht : P.underlying t = some (.pointer (P.pointee t))) (hx : AEv fr x (AV.rp q p)) (hy : AEv fr y .nilp) : APure P n o fr (.bool p.isSome) :=
  fun a w g hf => by
    have h := hx n g w a hf
    generalize hcv : a.eval x = cv at h
    cases p with
    | none =>
      cases h
      exact ⟨.bool false, fun W => by simp [execOp, ho, hcv, hy.eNilp hf, eqGuard, run_neq_pointer_nil W t _ ht], .bool _⟩
    | some p0 =>
      have h : Reads g w cv (.rp q (some (p0.1, p0.2))) := h
      cases h
      exact ⟨.bool true, fun W => by simp [execOp, ho, hcv, hy.eNilp hf, eqGuard, run_neq_pointer_nil W t _ ht], .bool _⟩

end

section
variable {P : Program} {n : Nat} {c : Code} {fr : Fr} {st : St} {Q : Post}

/-- A region of its own, with nothing in it. -/
theorem aw_regNew (h : ∀ q, AW P n c fr ((q, .abs (regAbs [])) :: st) Q) : AW P n c fr st Q := by
  intro E F a w g Q' hf hr q1 q2 q3
  obtain ⟨o, ho, hn⟩ := hr.newName
  obtain ⟨h1, hl⟩ := hr.grow (g' := g.put o (.abs [] (fun _ => False))) (w' := w) rfl rfl rfl (Nat.le_refl _) (fun _ _ => rfl) (fun _ _ hp => hp) (fun _ _ hp => .inl hp) (g.put_old _ ho) (g.put_fresh _ _ hr.fresh)
  have h2 : Rel E (((o, .abs (regAbs [])) :: st) ++ F) (g.put o (.abs [] (fun _ => False))) w := h1.cons o _ hn (by
    rw [g.put_same]
    exact ⟨fun k hk => hk.elim, rfl, List.nodup_nil, fun k => by simp, fun i cs b hh => (by simp at hh), fun cs hc => absurd hc (by simp)⟩) (fun o' x hm b off => by
      rw [g.put_same]
      rintro ⟨h3, _⟩
      exact h3) (fun b off => by rw [g.put_same]; exact fun h3 => h3.elim)
  exact h o E F a w _ Q' (hf.mono hl) h2 (fun _ _ _ _ _ k hf hr hle => q1 _ _ _ _ _ k hf hr (hl.trans hle)) (fun _ _ _ _ _ _ k hf hr hle => q2 _ _ _ _ _ _ k hf hr (hl.trans hle)) (fun _ _ _ _ _ k hf hr hle => q3 _ _ _ _ _ k hf hr (hl.trans hle))

end
end Go.Lift
