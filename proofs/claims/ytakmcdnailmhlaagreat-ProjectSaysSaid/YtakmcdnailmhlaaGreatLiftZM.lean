/- Lift, part ZM: maps of one's own. -/
import Derived.Test.YtakmcdnailmhlaaGreatLiftZ
import Derived.Test.YtakmcdnailmhlaaGreatLiftV
import Derived.Maps.OwnSet
import Derived.Maps.Own
import Derived.Maps.Views
namespace Go.Lift
open Go.RowKit Go.Maps

/-! ### Lists of keys and values, as data -/
/-- How keys are written, and ordered. -/
structure MK (K : Type) where
  kf : K → Lit
  lt : K → K → Bool
  wf : K → Bool
def mkI : MK Int := ⟨.int .i64, fun a b => decide (a < b), fun a => (Lit.int .i64 a).wf⟩
section
variable {K V : Type} [DecidableEq K]
def mpIns (m : MK K) (x : K × V) : List (K × V) → List (K × V)
  | [] => [x]
  | y :: r => if m.lt x.1 y.1 then x :: y :: r else y :: mpIns m x r
/-- A key's value; none: it is not there. -/
def mpGet (l : List (K × V)) (k : K) : Option V := (l.find? fun p => decide (p.1 = k)).map Prod.snd
def mpDel (l : List (K × V)) (k : K) : List (K × V) := l.filter fun p => !decide (p.1 = k)
def mpPut (m : MK K) (l : List (K × V)) (k : K) (v : V) : List (K × V) := mpIns m (k, v) (mpDel l k)
def mpHas (l : List (K × V)) (k : K) : Bool := (mpGet l k).isSome
end

/-- What is known of a way to write keys. -/
structure MKOk {K : Type} [DecidableEq K] (P : Program) (kt : TypeId) (m : MK K) (af : K → AV) : Prop where
  keyed : Keyed P kt
  same : ∀ a b, (m.kf a).sameKey (m.kf b) = decide (a = b)
  before : ∀ a b, (m.kf a).before (m.kf b) = m.lt a b
  key : ∀ {g : Gh} {w : World} {v : Value} {x : K}, Reads g w v (af x) → m.wf x = true → keyOf P kt v = some (m.kf x)

theorem mkI_ok {P : Program} {kt : TypeId} (h : P.underlying kt = some (.int .i64)) : MKOk P kt mkI (AV.int .i64) where
  keyed := int_keyed h
  same a b := by simp [mkI, Lit.sameKey]
  before a b := rfl
  key := by
    intro g w v x hr hw
    cases hr with
    | int k n => exact keyOf_int_mk h hw

/-! ### The object -/
/-- Every value reads as itself. -/
def rawR (v : Value) : Option (DataW Value × List MemPlace) := some (.held v, [])
def rawE (p : Lit × Value) : Lit × DataW Value := (p.1, .held p.2)

/-- Values under keys that read as what is said. -/
def RdM (g : Gh) (w : World) : List (Lit × Value) → List (Lit × AV) → Prop
  | [], [] => True
  | x :: es, y :: l => x.1 = y.1 ∧ Reads g w x.2 y.2 ∧ RdM g w es l
  | _, _ => False

theorem RdM.mono {g g' : Gh} {w w' : World} (hl : GLe g w g' w') : ∀ {es : List (Lit × Value)} {l : List (Lit × AV)}, RdM g w es l → RdM g' w' es l
  | [], [], _ => trivial
  | _ :: _, _ :: _, ⟨h1, h2, h3⟩ => ⟨h1, h2.mono hl, RdM.mono hl h3⟩
  | [], _ :: _, h => h.elim
  | _ :: _, [], h => h.elim

theorem RdM.length {g : Gh} {w : World} : ∀ {es : List (Lit × Value)} {l : List (Lit × AV)}, RdM g w es l → es.length = l.length
  | [], [], _ => rfl
  | _ :: _, _ :: _, ⟨_, _, h3⟩ => by rw [List.length_cons, List.length_cons, RdM.length h3]
  | [], _ :: _, h => h.elim
  | _ :: _, [], h => h.elim

theorem RdM.find {g : Gh} {w : World} (f : Lit → Bool) : ∀ {es : List (Lit × Value)} {l : List (Lit × AV)}, RdM g w es l →
    (es.find? (fun p => f p.1) = none ∧ l.find? (fun p => f p.1) = none) ∨ ∃ x y, es.find? (fun p => f p.1) = some x ∧ l.find? (fun p => f p.1) = some y ∧ Reads g w x.2 y.2
  | [], [], _ => .inl ⟨rfl, rfl⟩
  | x :: es, y :: l, ⟨h1, h2, h3⟩ => by
    rw [List.find?_cons, List.find?_cons, ← h1]
    cases f x.1 with
    | true => exact .inr ⟨x, y, rfl, rfl, h2⟩
    | false => exact RdM.find f h3
  | [], _ :: _, h => h.elim
  | _ :: _, [], h => h.elim

theorem RdM.filter {g : Gh} {w : World} (f : Lit → Bool) : ∀ {es : List (Lit × Value)} {l : List (Lit × AV)}, RdM g w es l → RdM g w (es.filter fun p => f p.1) (l.filter fun p => f p.1)
  | [], [], _ => trivial
  | x :: es, y :: l, ⟨h1, h2, h3⟩ => by
    rw [List.filter_cons, List.filter_cons, ← h1]
    cases f x.1 with
    | true => exact ⟨h1, h2, RdM.filter f h3⟩
    | false => exact RdM.filter f h3
  | [], _ :: _, h => h.elim
  | _ :: _, [], h => h.elim

/-- The insertion, of values. -/
def insV {α : Type} (x : Lit × α) : List (Lit × α) → List (Lit × α)
  | [] => [x]
  | y :: r => if x.1.before y.1 then x :: y :: r else y :: insV x r

theorem RdM.ins {g : Gh} {w : World} {x : Lit × Value} {y : Lit × AV} (h0 : x.1 = y.1) (h1 : Reads g w x.2 y.2) : ∀ {es : List (Lit × Value)} {l : List (Lit × AV)}, RdM g w es l → RdM g w (insV x es) (insV y l)
  | [], [], _ => ⟨h0, h1, trivial⟩
  | a :: es, b :: l, ⟨h2, h3, h4⟩ => by
    unfold insV
    rw [← h0, ← h2]
    cases x.1.before a.1 with
    | true => exact ⟨h0, h1, h2, h3, h4⟩
    | false => exact ⟨h2, h3, RdM.ins h0 h1 h4⟩
  | [], _ :: _, h => h.elim
  | _ :: _, [], h => h.elim

theorem insV_raw (x : Lit × Value) : ∀ es : List (Lit × Value), (insV x es).map rawE = DataW.insert (rawE x) (es.map rawE)
  | [] => rfl
  | y :: r => by
    unfold insV
    rw [List.map_cons]
    unfold DataW.insert
    show _ = if x.1.before y.1 then _ else _
    split
    · rfl
    · rw [List.map_cons, insV_raw x r]

/-- A map of keys of type kt with values that read so. -/
def mapAbs (P : Program) (kt : TypeId) (l : List (Lit × AV)) : Abs where
  holds g w bs S := ∃ b es, bs = [b] ∧ (∀ j, S j ↔ j = b) ∧ w.ownsMap P kt rawR b l.length (.map (es.map rawE)) ∧ RdM g w es l
  loc := by
    rintro g g' w w' bs S ⟨b, es, rfl, hS, ⟨a, c, hb, hf⟩, hr⟩ hl hk
    exact ⟨b, es, rfl, hS, ⟨a, c, (hk b ((hS b).2 rfl)).trans hb, hf⟩, hr.mono hl⟩

theorem ownsMap_tight {P : Program} {kt : TypeId} {R : Value → Option (DataW Value × List MemPlace)} {w : World} {b n : Nat} {es : List (Lit × DataW Value)} (h : w.ownsMap P kt R b n (.map es)) : w.ownsMap P kt R b es.length (.map es) := by
  obtain ⟨a, c, hb, F, hs, hD⟩ := h
  have e := DataW.map.inj hD
  exact ⟨a, c, hb, F, by rw [e, length_sorted]; simp, hD⟩

theorem map_inv {g : Gh} {w : World} {v : Value} {o : Nat} (h : Reads g w v (.map o)) : ∃ b bs S, v = .map (some b) ∧ g.ob o = .abs bs S ∧ bs[0]? = some b := by
  cases h with
  | map h hb => exact ⟨_, _, _, rfl, h, hb⟩

theorem Rel.absNewO {E : Env} {st : St} {g : Gh} {w : World} (h : Rel E st g w) (ob : Obj) (A : Abs) (hA : ∀ g', A.holds g' (w.alloc ob) [w.heap.size] (fun k => k = w.heap.size)) :
    ∃ o g' S, g'.ob o = .abs [w.heap.size] S ∧ Rel E ((o, .abs A) :: st) g' (w.alloc ob) ∧ GLe g w g' (w.alloc ob) := by
  obtain ⟨o, ho, hn⟩ := h.newName
  have hold : ∀ k, k < w.heap.size → (w.alloc ob).heap[k]? = w.heap[k]? := fun k hk => Below.heap_alloc w _ k hk
  obtain ⟨h1, hl⟩ := h.grow (g' := g.put o (.abs [w.heap.size] (fun k => k = w.heap.size))) (w' := w.alloc ob) rfl rfl rfl (by simp) hold (fun _ _ hp => hp) (fun _ _ hp => .inl hp) (g.put_old _ ho) (g.put_fresh _ _ h.fresh)
  refine ⟨o, _, _, g.put_same _ _, h1.cons o _ hn ?_ ?_ ?_, hl⟩
  · rw [g.put_same]
    exact ⟨fun k hk => by subst hk; exact ⟨h.hB, by simp⟩, hA _⟩
  · intro o' x hm b off
    rw [g.put_same]
    rintro ⟨rfl, h2⟩
    rw [g.put_other _ (fun e => hn x (by rw [← e]; exact hm))] at h2
    exact Nat.lt_irrefl _ (h.owns_lt hm h2)
  · intro b off
    rw [g.put_same]
    rintro rfl hp
    exact Nat.lt_irrefl _ (h.pc_lt hp)

theorem turned_of_map {w w' : World} {b : Nat} {S : Nat → Prop} (h : w.mapTurned w' b) (hS : ∀ j, S j ↔ j = b) : Turned w w' S S := by
  have hb : b < w.heap.size := by
    obtain ⟨_, _, _, _, hb, _⟩ := h
    exact (Array.getElem?_eq_some_iff.1 hb).1
  have hg := h.grown
  refine ⟨hg.os, hg.tape, hg.output, hg.size, fun k hk hn => hg.block k hk (fun e => hn ((hS k).2 (by cases e; rfl))), fun k hk => .inl hk, fun k hk => ?_⟩
  rw [(hS k).1 hk]
  exact Nat.lt_of_lt_of_le hb hg.size

/-! ### Operations -/
section
variable {K V : Type} [DecidableEq K] {P : Program} {n : Nat} {o : Oper} {fr : Fr} {st : St} {k : AV → St → Prop} {kt : TypeId} {m : MK K} {af : K → AV} {vf : V → AV}

/-- What a map has, in words of its keys. -/
abbrev mpE (m : MK K) (vf : V → AV) (l : List (K × V)) : List (Lit × AV) := l.map fun p => (m.kf p.1, vf p.2)

theorem mpE_find (hm : MKOk P kt m af) (l : List (K × V)) (x : K) : (mpE m vf l).find? (fun p => p.1.sameKey (m.kf x)) = (l.find? fun p => decide (p.1 = x)).map fun p => (m.kf p.1, vf p.2) := by
  unfold mpE
  rw [List.find?_map]
  congr 2
  funext p
  exact hm.same p.1 x
theorem mpE_del (hm : MKOk P kt m af) (l : List (K × V)) (x : K) : (mpE m vf l).filter (fun p => !p.1.sameKey (m.kf x)) = mpE m vf (mpDel l x) := by
  unfold mpE mpDel
  rw [List.filter_map]
  congr 2
  funext p
  show (!(m.kf p.1).sameKey (m.kf x)) = _
  rw [hm.same]
theorem mpE_ins (hm : MKOk P kt m af) (x : K × V) : ∀ l : List (K × V), insV (m.kf x.1, vf x.2) (mpE m vf l) = mpE m vf (mpIns m x l)
  | [] => rfl
  | y :: r => by
    unfold mpE at *
    rw [List.map_cons]
    unfold insV mpIns
    show (if (m.kf x.1).before (m.kf y.1) then _ else _) = _
    rw [hm.before]
    cases m.lt x.1 y.1 with
    | true => rfl
    | false =>
      show (m.kf y.1, vf y.2) :: insV (m.kf x.1, vf x.2) (r.map fun p => (m.kf p.1, vf p.2)) = _
      rw [mpE_ins hm x r]
      rfl

theorem op_makeMap {T : TypeId} (ho : o.op = .makeMap T none) (hk : ∀ p, k (.map p) ((p, .abs (mapAbs P kt [])) :: st)) : AOp P n o fr st k :=
  AOp.of_run fun E F a w g hf hr => by
    obtain ⟨p, g', S, h1, h2, h3⟩ := hr.absNewO (.map #[] 0) (mapAbs P kt []) (fun _ => ⟨_, [], rfl, fun _ => Iff.rfl, World.ownsMap_made w P kt rawR, trivial⟩)
    refine ⟨.map (some w.heap.size), _, g', .map p, _, ?_, hk p, .map h1 rfl, h2, h3⟩
    simp [execOp, ho, Instr.makeMap, newObj, Sem.run]

/-- What an object says of its block. -/
theorem map_at {E : Env} {F : St} {g : Gh} {w : World} {q i : Nat} {l : List (Lit × AV)} {v : Value} (hr : Rel E (st ++ F) g w) (hg : st[i]? = some (q, .abs (mapAbs P kt l))) (hv : Reads g w v (.map q)) :
    ∃ b S es, v = .map (some b) ∧ g.ob q = .abs [b] S ∧ (∀ j, S j ↔ j = b) ∧ w.ownsMap P kt rawR b l.length (.map (es.map rawE)) ∧ RdM g w es l := by
  obtain ⟨b, bs, S, rfl, hob, hb0⟩ := map_inv hv
  have hk := hr.ok q _ (List.mem_append_left _ (List.mem_of_getElem? hg))
  rw [hob] at hk
  obtain ⟨b', es, rfl, hS, hown, hrd⟩ := hk.2
  obtain rfl : b' = b := Option.some.inj hb0
  exact ⟨_, _, es, rfl, hob, hS, hown, hrd⟩

theorem rawE_find (es : List (Lit × Value)) (f : Lit → Bool) : (es.map rawE).find? (fun p => f p.1) = (es.find? fun p => f p.1).map rawE := by
  rw [List.find?_map]
  rfl

theorem op_mapGet {T et : TypeId} {x y : Operand} {q i : Nat} {l : List (K × V)} {key : K} {zv : Value} {z : V} {v : AV} (hm : MKOk P kt m af) (ho : o.op = .lookup T x y false) (ht : P.underlying T = some (.map kt et)) (hz : ∀ w, (zeroValue et).run P w = .ok zv w) (hza : ∀ g w, Reads g w zv (vf z))
    (hx : AEv fr x (.map q)) (hy : AEv fr y (af key)) (hg : st[i]? = some (q, .abs (mapAbs P kt (mpE m vf l)))) (hw : m.wf key = true) (hv : vf ((mpGet l key).getD z) = v) (hk : k v st) : AOp P n o fr st k := by
  subst hv
  refine AOp.of_pure _ (fun E F a w g hf hr => ?_) hk
  obtain ⟨b, S, es, hxe, hob, hS, hown, hrd⟩ := map_at hr hg (hx n g w a hf)
  have hkey := hm.key (hy n g w a hf) hw
  obtain ⟨u, ps, hrun, hu⟩ := hown.lookup (k := kt) hm.keyed ht (hz w) (zd := .held zv) (zp := []) rfl hkey
  refine ⟨u, ?_, ?_⟩
  · simp [execOp, ho, hxe, hrun]
  · have hu' : DataW.held u = (DataW.map (es.map rawE)).atKey (m.kf key) (.held zv) := congrArg Prod.fst (Option.some.inj hu)
    unfold DataW.atKey at hu'
    simp only [rawE_find es (fun p => p.sameKey (m.kf key))] at hu'
    have h2 := mpE_find (vf := vf) hm l key
    unfold mpGet
    rcases hrd.find (fun p => p.sameKey (m.kf key)) with ⟨h3, h4⟩ | ⟨a1, a2, h3, h4, h5⟩
    · rw [h3] at hu'
      rw [h2] at h4
      cases DataW.held.inj hu'
      cases e : l.find? (fun p => decide (p.1 = key)) with
      | none => exact hza g w
      | some p => rw [e] at h4; cases h4
    · rw [h3] at hu'
      rw [h2] at h4
      cases DataW.held.inj hu'
      cases e : l.find? (fun p => decide (p.1 = key)) with
      | none => rw [e] at h4; cases h4
      | some p => rw [e] at h4; cases h4; exact h5

theorem op_mapGetOk {T et : TypeId} {x y : Operand} {q i : Nat} {l : List (K × V)} {key : K} {zv : Value} {z : V} {v : AV} (hm : MKOk P kt m af) (ho : o.op = .lookup T x y true) (ht : P.underlying T = some (.map kt et)) (hz : ∀ w, (zeroValue et).run P w = .ok zv w) (hza : ∀ g w, Reads g w zv (vf z))
    (hx : AEv fr x (.map q)) (hy : AEv fr y (af key)) (hg : st[i]? = some (q, .abs (mapAbs P kt (mpE m vf l)))) (hw : m.wf key = true) (hv : AV.tup [vf ((mpGet l key).getD z), .bool (mpHas l key)] = v) (hk : k v st) : AOp P n o fr st k := by
  subst hv
  refine AOp.of_pure _ (fun E F a w g hf hr => ?_) hk
  obtain ⟨b, S, es, hxe, hob, hS, hown, hrd⟩ := map_at hr hg (hx n g w a hf)
  have hkey := hm.key (hy n g w a hf) hw
  obtain ⟨u, ps, hrun, hu⟩ := hown.look_ok (k := kt) hm.keyed ht (hz w) (zd := .held zv) (zp := []) rfl hkey
  refine ⟨_, by simp [execOp, ho, hxe, hrun]; rfl, ?_⟩
  have hu' : DataW.held u = (DataW.map (es.map rawE)).atKey (m.kf key) (.held zv) := congrArg Prod.fst (Option.some.inj hu)
  unfold DataW.atKey at hu'
  simp only [rawE_find es (fun p => p.sameKey (m.kf key))] at hu'
  have h2 := mpE_find (vf := vf) hm l key
  have hhas : Maps.has (DataW.map (es.map rawE)) (m.kf key) = (es.find? fun p => p.1.sameKey (m.kf key)).isSome := by
    rw [Maps.has_eq, List.any_map, ← List.isSome_find?]
    rfl
  rw [hhas]
  have key2 : Reads g w u (vf ((mpGet l key).getD z)) ∧ (es.find? fun p => p.1.sameKey (m.kf key)).isSome = mpHas l key := by
    unfold mpHas mpGet
    rcases hrd.find (fun p => p.sameKey (m.kf key)) with ⟨h3, h4⟩ | ⟨a1, a2, h3, h4, h5⟩
    · rw [h3] at hu' ⊢
      rw [h2] at h4
      cases DataW.held.inj hu'
      cases e : l.find? (fun p => decide (p.1 = key)) with
      | none => exact ⟨hza g w, rfl⟩
      | some p => rw [e] at h4; cases h4
    · rw [h3] at hu' ⊢
      rw [h2] at h4
      cases DataW.held.inj hu'
      cases e : l.find? (fun p => decide (p.1 = key)) with
      | none => rw [e] at h4; cases h4
      | some p => rw [e] at h4; cases h4; exact ⟨h5, rfl⟩
  rw [key2.2]
  refine .tup rfl fun j hj => ?_
  match j, hj with
  | 0, _ => exact key2.1
  | 1, _ => exact .bool _

theorem op_mapPut {T et : TypeId} {x y u : Operand} {q i : Nat} {l : List (K × V)} {key : K} {val : V} (hm : MKOk P kt m af) (ho : o.op = .mapUpdate T x y u) (ht : P.underlying T = some (.map kt et))
    (hx : AEv fr x (.map q)) (hy : AEv fr y (af key)) (hu : AEv fr u (vf val)) (hg : st[i]? = some (q, .abs (mapAbs P kt (mpE m vf l)))) (hw : m.wf key = true ∧ l.length < maxLen) (hk : k .un (st.set i (q, .abs (mapAbs P kt (mpE m vf (mpPut m l key val)))))) : AOp P n o fr st k :=
  AOp.of_skip fun E F a w g hf hr => by
    obtain ⟨b, S, es, hxe, hob, hS, hown, hrd⟩ := map_at hr hg (hx n g w a hf)
    have hkey := hm.key (hy n g w a hf) hw.1
    have hval := hu n g w a hf
    obtain ⟨w', hrun, hown', hturn⟩ := hown.store (k := kt) hm.keyed ht (by simpa using hw.2) (val := a.eval u) hkey (d := .held (a.eval u)) (ps := []) rfl
    obtain ⟨es2, hes2⟩ : ∃ es2, es2 = insV (m.kf key, a.eval u) (es.filter fun p => !p.1.sameKey (m.kf key)) := ⟨_, rfl⟩
    have hput : (DataW.map (es.map rawE)).put (m.kf key) (.held (a.eval u)) = .map (es2.map rawE) := by
      rw [DataW.put_eq, hes2, insV_raw]
      show DataW.map (DataW.insert _ ((es.map rawE).filter _)) = _
      rw [List.filter_map]
      rfl
    rw [hput] at hown'
    obtain ⟨g', h1, h2, h3⟩ := Rel.absTurn (A' := mapAbs P kt (mpE m vf (mpPut m l key val))) [] (hr.focus hg) hob (turned_of_map hturn hS) (fun g' hl => by
      have hr2 : RdM g w es2 (mpE m vf (mpPut m l key val)) := by
        rw [hes2]
        unfold mpPut
        rw [← mpE_ins hm, ← mpE_del hm]
        exact RdM.ins rfl hval (hrd.filter fun p => !p.sameKey (m.kf key))
      refine ⟨b, es2, by rw [List.append_nil], hS, ?_, hr2.mono hl⟩
      have := ownsMap_tight hown'
      rw [List.length_map, hr2.length] at this
      exact this)
    exact ⟨w', g', _, by simp [execOp, ho, hxe, hrun, Result.andThen], hk, h2.unfocus hg, h3⟩

end

section
variable {K V : Type} {P : Program} {n : Nat} {o : Oper} {fr : Fr} {st : St} {k : AV → St → Prop} {kt : TypeId} {m : MK K} {vf : V → AV}
end
end Go.Lift
