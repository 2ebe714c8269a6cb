import Derived.Test.YtlehodoiabaaaaaFQPuFld3
import Derived.Test.YtlehodoiabaaaaaFQPuNum
set_option maxHeartbeats 0
set_option maxRecDepth 100000
namespace Go.Pu
open Go.Lift

theorem sAdd_ok {v by_ : Int} (hv : I64 v) (hb : I64 by_) (h : I64 (v + by_)) : str.Add (itext v) by_ = some (itext (v + by_), 0) := by
 have hl := itext_len hv
 obtain ⟨w, ok, h1, h2, h3, h4⟩ := addBoth hv hb
 have hok := h4 h
 subst hok
 obtain ⟨_, rfl⟩ := h3 rfl
 unfold str.Add
 rw [pParse_eq _ (by omega), rParse_itext hv, Option.bind_some, if_neg (fun h => by cases h)]
 show ((num.Add v by_).bind _) = _
 rw [h1, Option.bind_some, if_neg (fun h => by cases h)]
 show ((num.Text (v + by_)).bind _) = _
 rw [pTextI _ h]
 rfl

/-- What stands at a key, or zero. -/
def orZero (G : Fn) (k : Str) : Str := (G k).getD [48]

theorem itext_zero : itext 0 = [48] := by
 unfold itext
 rw [if_neg (by decide), show (0 : Int).natAbs = 0 from rfl, dtext_small (by decide)]
 rfl

theorem tAdd_eq {r : Reg} {t : Nat} {m : Tab} {G : Fn} (h : Fir r t m G) {key : Str} {by_ : Int} (hk : key.length < 1000000) (hf : m.all.length + 1 < 1000000) {x : Str} {e : Int} (hs : str.Add (orZero G key) by_ = some (x, e)) :
  ∃ r' m', field.Add (some (t, 0)) key by_ r = some (x, e, r') ∧ Fir r' t m' (if e = 0 then putF G { Key := key, Val := x } else G) := by
 unfold field.Add
 rw [if_neg (show ¬ ((some (t, 0) : RP).isNone = true) by simp), Get_eq h.tab h.ok hk, Option.bind_some, h.get]
 unfold letO
 have hz : (if (!(match G key with | some v => (v, true) | none => (([] : Str), false)).2) = true then [48] else (match G key with | some v => (v, true) | none => (([] : Str), false)).1) = orZero G key := by
  unfold orZero
  cases G key <;> rfl
 show ∃ r' m', ((str.Add (if (!(match G key with | some v => (v, true) | none => (([] : Str), false)).2) = true then [48] else (match G key with | some v => (v, true) | none => (([] : Str), false)).1) by_).bind _) = _ ∧ _
 rw [hz, hs, Option.bind_some]
 by_cases he : e = 0
 ·subst he
  obtain ⟨r2, e2, h2, x2, s2⟩ := Put_eq h.tab h.ok x hk hf
  refine ⟨r2, m.put key x r.length, ?_, h2, (put_ok h.ok x r.length hk hf).1, ?_⟩
  ·show (((dict.Table_string.Put (some (t, 0)) key x r).bind _).bind _) = _
   rw [e2]
   rfl
  ·rw [if_pos rfl]
   exact (put_getF h.ok { Key := key, Val := x } r.length hk hf).trans (by rw [h.get])
 ·refine ⟨r, m, ?_, by rw [if_neg he]; exact h⟩
  show ((if e = 0 then _ else _ : Option Reg).bind _) = _
  rw [if_neg he]
  rfl

theorem rAdd_eq {l : List api.Field} {G : Fn} (h : Tells l G) (hl : l.length < 1000000) {key : Str} {by_ : Int} {x : Str} {e : Int} (hs : mewsref20.Add (orZero G key) by_ = some (x, e)) (hx : e = 0 ∨ (e ≠ 0 ∧ x = [])) :
  ∃ l', mewsref22.Add l key by_ = some (l', x, e) ∧ Tells l' (if e = 0 then putF G { Key := key, Val := x } else G) := by
 unfold mewsref22.Add
 rw [fHas_eq h (by omega), Option.bind_some]
 unfold letO
 have hz : (if (!(match G key with | some v => (v, true) | none => (([] : Str), false)).2) = true then [48] else (match G key with | some v => (v, true) | none => (([] : Str), false)).1) = orZero G key := by
  unfold orZero
  cases G key <;> rfl
 show ∃ l', ((mewsref20.Add (if (!(match G key with | some v => (v, true) | none => (([] : Str), false)).2) = true then [48] else (match G key with | some v => (v, true) | none => (([] : Str), false)).1) by_).bind _) = _ ∧ _
 rw [hz, hs, Option.bind_some]
 rcases hx with rfl | ⟨he, rfl⟩
 ·obtain ⟨r, e2, hr⟩ := fPut1_eq h hl { Key := key, Val := x }
  refine ⟨r, ?_, by rw [if_pos rfl]; exact hr⟩
  show ((mewsref19.Put l { Key := key, Val := x }).bind _) = _
  rw [e2]
  rfl
 ·refine ⟨l, ?_, by rw [if_neg he]; exact h⟩
  show (if e = 0 then _ else _ : Option _) = _
  rw [if_neg he]

/-! ### Nobody's fields -/
theorem put_nobody (key v : Str) (r : Reg) : dict.Table_string.Put none key v r = some (false, r) := rfl
theorem drop_nobody (key : Str) (r : Reg) : dict.Table_string.Drop none key r = some (false, r) := rfl

theorem tPut_nobody (l : List api.Field) (hl : l.length < 1000000000000000) (r : Reg) : field.Put none l r = some (0, r) := by
 suffices h : field.Put.loop0 l none ⟨0, 0, r⟩ = some (0, r) by
  unfold field.Put
  rw [h]
  rfl
 unfold field.Put.loop0
 refine whileO_knownE ⟨0, 0, r⟩ (fun i => (⟨0, (i : Int), r⟩ : field.Put.S0)) l.length (fun i hi => ?_) ?_
 ·unfold field.Put.body0
  show (if (i : Int) < (l.length : Int) then _ else _) = _
  rw [if_pos (by omega)]
  show (need (InB (i : Int) l.length) _).bind _ = _
  rw [need_eq ⟨by omega, by omega⟩]
  show some (Sum.inl (⟨0, IntKind.wrap .i64 ((i : Int) + 1), r⟩ : field.Put.S0)) = _
  rw [i64w (by omega) (by omega), show (i : Int) + 1 = ((i + 1 : Nat) : Int) by omega]
 ·unfold field.Put.body0
  exact if_neg (by show ¬ (l.length : Int) < (l.length : Int); omega)

theorem tDrop_nobody (k : Str) (r : Reg) : field.Drop none [k] r = some (0, r) := by
 unfold field.Drop
 have h : field.Drop.loop0 [k] none ⟨0, 0, r⟩ = some (0, r) := by
  unfold field.Drop.loop0
  rw [whileO_step (s' := ⟨0, 1, r⟩) rfl, whileO_ret (r := (0, r)) rfl]
 rw [h]
 rfl

theorem tAll_nobody (r : Reg) : field.All none r = some ([], r) := by
 unfold field.All
 rw [show dict.Table_string.Keys none r = some ([], r) from rfl, Option.bind_some, Sort_eq (l := []) List.nodup_nil List.Pairwise.nil (fun y => Iff.rfl) (by simp), Option.bind_some]
 have h : field.Get none [] r = some [] := by
  unfold field.Get
  rw [show field.Get.loop0 [] none r ⟨[], 0⟩ = some [] from whileO_ret rfl]
  rfl
 show ((field.Get none [] r).bind _) = _
 rw [h]
 rfl

/-! ### A list told again -/
theorem putG_not : ∀ {l : List api.Field} {G : Fn} {k : Str}, k ∉ l.map (·.Key) → putG G l k = G k := by
 intro l
 induction l with
 | nil => intro G k _; rfl
 | cons a l ih =>
  intro G k h
  rw [List.map_cons, List.mem_cons, not_or] at h
  show putG (putF G a) l k = G k
  rw [ih h.2]
  unfold putF
  rw [if_neg h.1]

theorem putG_own : ∀ {l : List api.Field} {G : Fn}, (l.map (·.Key)).Nodup → ∀ f, f ∈ l → putG G l f.Key = some f.Val := by
 intro l
 induction l with
 | nil => intro G _ f h; cases h
 | cons a l ih =>
  intro G hn f hf
  have hn' := List.nodup_cons.1 hn
  show putG (putF G a) l f.Key = some f.Val
  rcases List.mem_cons.1 hf with rfl | hf
  ·rw [putG_not hn'.1]
   unfold putF
   rw [if_pos rfl]
  ·exact ih hn'.2 f hf

theorem Tells.again {l : List api.Field} {G : Fn} (h : Tells l G) : putG (fun _ => none) l = G := by
 funext k
 cases hg : G k with
 | some v => exact putG_own h.asc.nodup ⟨k, v⟩ ((h.mem ⟨k, v⟩).2 hg)
 | none =>
  refine putG_not fun hk => ?_
  rw [h.key, hg] at hk
  cases hk

theorem FieldUndo_pure (fields : List api.Field) (key : Str) (by_ : Int) (hb : I64 by_) (hl : fields.length < 1000000000000000) (hf : ∀ f, f ∈ fields → f.Key.length < 1000000000000000 ∧ f.Val.length < 1000000000000000) (hkey : key.length < 1000000000000000) : mewslaw22.FieldUndo fields key by_ = some true := by
 obtain ⟨b, eb, hb2⟩ := far19_one fields hl hf
 unfold mewslaw22.FieldUndo
 show ((((mewslaw19.Far [hv fields]).bind _).bind _) : Option Bool) = _
 rw [eb, Option.bind_some, alive22]
 generalize hc : (if b = true then some true else if 300 < (key.length : Int) then some true else some (decide (by_ = (-9223372036854775808))) : Option Bool) = c
 by_cases hgo : b = false ∧ key.length ≤ 300 ∧ by_ ≠ -9223372036854775808
 ·obtain ⟨rfl, hk3, hmin⟩ := hgo
  obtain ⟨hb3, hb4⟩ := hb2 rfl
  rw [if_neg (by decide), if_neg (by omega), decide_eq_false hmin] at hc
  subst hc
  rw [Option.bind_some, if_neg (by decide)]
  have hkeys : ∀ f, f ∈ fields → f.Key.length < 1000000 := fun f hf => by have := (hb4 f hf).1; omega
  have hklen : key.length < 1000000 := by omega
  obtain ⟨t, r, m, e1, hF⟩ := make_eq 7 fields [] hkeys (by omega)
  obtain ⟨l, hT⟩ := hF.tells
  have hlen := hF.len hT
  have hsub : l.length ≤ fields.length := by
   have := hT.asc.nodup.length_le_of_subset (l₂ := fields.map (·.Key)) fun k hk => by
    rw [hT.key, putG_key] at hk
    rcases hk with hk | hk
    ·exact hk
    ·cases hk
   simpa using this
  have hval : ∀ k v, putG (fun _ => none) fields k = some v → v.length ≤ 3000 := by
   have : ∀ (x : List api.Field) (G : Fn), (∀ f, f ∈ x → f.Val.length ≤ 3000) → (∀ k v, G k = some v → v.length ≤ 3000) → ∀ k v, putG G x k = some v → v.length ≤ 3000 := by
    intro x
    induction x with
    | nil => intro G _ hG k v hv; exact hG k v hv
    | cons a x ih =>
     intro G hx hG k v hv
     refine ih (putF G a) (fun f hf => hx f (List.mem_cons_of_mem _ hf)) (fun k v hv => ?_) k v hv
     unfold putF at hv
     by_cases e : k = a.Key
     ·rw [if_pos e] at hv
      rw [← Option.some.inj hv]
      exact hx a List.mem_cons_self
     ·rw [if_neg e] at hv
      exact hG k v hv
   exact this fields _ (fun f hf => (hb4 f hf).2) fun k v hv => by cases hv
  generalize hG : putG (fun _ => none) fields = G at hF hT hval
  have hoz : (orZero G key).length < 1000000000000000 := by
   unfold orZero
   cases hg : G key with
   | none => simp
   | some v => have := hval key v hg; simp; omega
  rw [e1, Option.bind_some]
  show ((field.All (some (t, 0)) r).bind _) = _
  rw [tAll_eq hF hT, Option.bind_some]
  obtain ⟨x, e, hs, hs2, hx, hx2⟩ := sAdd hoz hb
  obtain ⟨r2, m2, a1, hF2⟩ := tAdd_eq hF hklen (by omega) hs
  show ((field.Add (some (t, 0)) key by_ r).bind _) = _
  rw [a1, Option.bind_some]
  by_cases he : e = 0
  ·subst he
   rw [if_pos rfl] at hF2
   rw [if_pos (by rfl)]
   obtain ⟨v, hv, hI, rfl⟩ := hx2 rfl
   have hneg : I64 (0 - by_) := by
    obtain ⟨b1, b2⟩ := hb
    exact ⟨by omega, by omega⟩
   have hoz2 : orZero (putF G { Key := key, Val := itext (v + by_) }) key = itext (v + by_) := by
    unfold orZero putF
    rw [if_pos rfl]
    rfl
   have hs3 := sAdd_ok hI hneg (by rw [show v + by_ + (0 - by_) = v by omega]; exact hv.1)
   rw [show v + by_ + (0 - by_) = v by omega, ← hoz2] at hs3
   have hT2len : m2.all.length + 1 < 1000000 := by
    obtain ⟨l2, hT2⟩ := hF2.tells
    have h1 := hF2.len hT2
    have h2 := hT.lenPut hT2
    have h3 : l2.length ≤ l.length + 1 := by rw [h2]; split <;> omega
    omega
   obtain ⟨r3, m3, a2, hF3⟩ := tAdd_eq hF2 hklen hT2len hs3
   show ((field.Add (some (t, 0)) key (IntKind.wrap .i64 (0 - by_)) r2).bind _) = _
   rw [i64w hneg.1 hneg.2, a2, Option.bind_some]
   obtain ⟨t4, r4, m4, e4, hF4⟩ := make_eq 7 l r3 (fun f hf => by
    have h1 : f.Key ∈ l.map (·.Key) := List.mem_map_of_mem hf
    rw [hT.key, ← hG, putG_key] at h1
    rcases h1 with h1 | h1
    ·obtain ⟨g, hg, e⟩ := List.mem_map.1 h1
     rw [← e]
     exact hkeys g hg
    ·cases h1) (by omega)
   rw [hT.again] at hF4
   show ((field.Make 7 l r3).bind _) = _
   rw [e4, Option.bind_some]
   show ((field.Get (some (t4, 0)) [key] r4).bind _) = _
   rw [tGet_eq hF4 (keys := [key]) (fun y hy => by
    have : y = key := by simpa using hy
    rw [this]; exact hklen) (by simp), Option.bind_some]
   have hpick : (if 0 < ((pick G [key]).length : Int) then need (InB 0 (pick G [key]).length) (some (ix (pick G [key]) 0).Val) else some [48] : Option Str) = some (orZero G key) := by
    unfold orZero pick
    cases hg : G key with
    | none => simp [hg]
    | some v => simp [hg, need, ix]
   rw [hpick, Option.bind_some]
   show ((field.Add none key by_ r4).bind _) = _
   rw [show field.Add none key by_ r4 = some ([], 8, r4) from rfl, Option.bind_some]
   rw [if_pos (by rfl), if_pos (show itext v = orZero G key from hv.2.symm), if_pos (by rfl)]
   show (((field.Put none fields r4).bind _).bind _) = _
   rw [tPut_nobody fields hl, Option.bind_some, if_pos (by rfl)]
   show (((field.Drop none [key] r4).bind _).bind _) = _
   rw [tDrop_nobody, Option.bind_some, if_pos (by rfl)]
   show (((field.All none r4).bind _).bind _) = _
   rw [tAll_nobody, Option.bind_some, if_pos (by rfl)]
   rfl
  ·rw [if_neg he] at hF2
   rw [if_neg (by show ¬ e = 0; exact he)]
   show (((field.All (some (t, 0)) r2).bind _).bind _) = _
   rw [tAll_eq hF2 hT, Option.bind_some]
   show ((((mewsref22.Same l l).bind _)).bind _) = _
   rw [fSame_self l (by omega), Option.bind_some, if_pos rfl]
   rfl
 ·have : c = some true := by
   rw [← hc]
   cases b with
   | true => rfl
   | false =>
    rw [if_neg (by decide)]
    by_cases h3 : 300 < (key.length : Int)
    ·rw [if_pos h3]
    ·rw [if_neg h3]
     have : by_ = -9223372036854775808 := Decidable.byContradiction fun h => hgo ⟨rfl, by omega, h⟩
     rw [decide_eq_true this]
  subst this
  rfl

end Go.Pu

set_option maxHeartbeats 0
set_option maxRecDepth 100000
namespace Go.Pu
open Go.Lift

theorem far22_eq (l : List mewslaw22.Op) (hl : l.length ≤ 1048576) (hw : ∀ o, o ∈ l → o.Fields.length < 1000000000000000 ∧ ∀ f, f ∈ o.Fields → f.Key.length < 1000000000000000 ∧ f.Val.length < 1000000000000000) :
  ∃ b, mewslaw22.Far l = some b ∧ (b = false → l.length ≤ 100 ∧ ∀ o, o ∈ l → Small o.Fields) := by
 have h1 : mewslaw22.Far.loop0 l ⟨[], 0⟩ = some ((l.map (·.Fields)).map hv) := by
  unfold mewslaw22.Far.loop0
  refine whileO_knownE ⟨[], 0⟩ (fun i => (⟨((l.take i).map (·.Fields)).map hv, (i : Int)⟩ : mewslaw22.Far.S0)) l.length (fun i hi => ?_) ?_
  ·unfold mewslaw22.Far.body0
   show (if (i : Int) < (l.length : Int) then _ else _) = _
   rw [if_pos (by omega), need_eq ⟨by show (0 : Int) ≤ (i : Int); omega, by show (i : Int) < (l.length : Int); omega⟩]
   show need (((((l.take i).map (·.Fields)).map hv).length + 1) * 96 ≤ 140737488355328) _ = _
   rw [List.length_map, List.length_map, List.length_take, need_eq (by omega)]
   show some (Sum.inl (⟨((l.take i).map (·.Fields)).map hv ++ [hv (ix l (i : Int)).Fields], IntKind.wrap .i64 ((i : Int) + 1)⟩ : mewslaw22.Far.S0)) = _
   rw [ix_get hi, i64w (by omega) (by omega), show (i : Int) + 1 = ((i + 1 : Nat) : Int) by omega, take_snoc hi, List.map_append, List.map_append]
   rfl
  ·unfold mewslaw22.Far.body0
   show (if (l.length : Int) < (l.length : Int) then _ else _) = _
   rw [if_neg (by omega), List.take_length]
 obtain ⟨b, h2, h3⟩ := far19_eq (l.map (·.Fields)) (by rw [List.length_map]; omega) (fun x hx => by
  obtain ⟨o, ho, rfl⟩ := List.mem_map.1 hx
  exact hw o ho)
 unfold mewslaw22.Far
 rw [h1, Option.bind_some, h2]
 refine ⟨b, rfl, fun hb => ?_⟩
 obtain ⟨h4, h5⟩ := h3 hb
 rw [List.length_map] at h4
 exact ⟨h4, fun o ho => h5 o.Fields (List.mem_map_of_mem ho)⟩

/-- Values are no longer than 3000. -/
def Vals (G : Fn) : Prop := ∀ k v, G k = some v → v.length ≤ 3000

theorem Vals.put {G : Fn} (h : Vals G) {f : api.Field} (hf : f.Val.length ≤ 3000) : Vals (putF G f) := fun k v hv => by
 unfold putF at hv
 by_cases e : k = f.Key
 ·rw [if_pos e] at hv
  rw [← Option.some.inj hv]
  exact hf
 ·rw [if_neg e] at hv
  exact h k v hv

theorem Vals.puts : ∀ {l : List api.Field} {G : Fn}, Vals G → (∀ f, f ∈ l → f.Val.length ≤ 3000) → Vals (putG G l) := by
 intro l
 induction l with
 | nil => intro G h _; exact h
 | cons a l ih => intro G h hf; exact ih (h.put (hf a List.mem_cons_self)) fun f hfm => hf f (List.mem_cons_of_mem _ hfm)

theorem Vals.drops : ∀ {l : List Str} {G : Fn}, Vals G → Vals (dropG G l) := by
 intro l
 induction l with
 | nil => intro G h; exact h
 | cons a l ih =>
  intro G h
  refine ih (G := dropF G a) fun k v hv => ?_
  unfold dropF at hv
  by_cases e : k = a
  ·rw [if_pos e] at hv; cases hv
  ·rw [if_neg e] at hv; exact h k v hv

structure Both (mem : Reg) (t : Nat) (m : Tab) (r : List api.Field) (G : Fn) : Prop where
 fir : Fir mem t m G
 tells : Tells r G
 vals : Vals G

theorem lit_i64 {n : Int} (h : (Lit.int .i64 n).wf = true) : I64 n := by
 have : -9223372036854775808 ≤ n ∧ n ≤ 9223372036854775807 := by simpa [Lit.wf, IntKind.min, IntKind.max, IntKind.signed, IntKind.bits] using h
 exact ⟨by omega, by omega⟩

theorem FieldPlays_pure (seed : Int) (l : List mewslaw22.Op) (hl : l.length ≤ 1048576) (hw : ∀ o, o ∈ l → o.Fields.length < 1000000000000000 ∧ ∀ f, f ∈ o.Fields → f.Key.length < 1000000000000000 ∧ f.Val.length < 1000000000000000) (hby : ∀ o, o ∈ l → I64 o.By) : mewslaw22.FieldPlays seed l = some true := by
 obtain ⟨b, eb, hb⟩ := far22_eq l hl hw
 unfold mewslaw22.FieldPlays
 rw [eb, Option.bind_some, alive22]
 cases b with
 | true => rfl
 | false =>
  obtain ⟨hl100, hsm⟩ := hb rfl
  rw [if_neg (by decide)]
  obtain ⟨r0, e0, h0, x0, l0⟩ := New_eq [] seed
  rw [e0, Option.bind_some]
  have hB0 : Both r0 1 (Tab.fresh seed 0) [] (fun _ => none) := ⟨⟨by rw [fresh_all]; exact h0, fresh_ok _ _, fresh_get _ _⟩, Tells.nil, fun k v hv => by cases hv⟩
  have main : ∃ q, mewslaw22.FieldPlays.loop0 l (some (1, 0), r0) ⟨[], 0, r0⟩ = some q ∧ ∃ r mem m G, q = .inl (r, mem) ∧ Both mem 1 m r G ∧ r.length ≤ 300100 := by
   unfold mewslaw22.FieldPlays.loop0
   refine whileO_meas (fun t => ∃ (i : Nat) (m : Tab) (G : Fn), t.t24 = (i : Int) ∧ i ≤ l.length ∧ Both t.mem 1 m t.r G ∧ t.r.length ≤ i * 3001) (fun t => l.length - t.t24.toNat) _ (fun t => ?_) _ ⟨0, _, _, rfl, by omega, hB0, by simp⟩
   obtain ⟨r, ti, mem⟩ := t
   rintro ⟨i, m, G, e, hi, hB, hr⟩
   replace e : ti = (i : Int) := e
   replace hB : Both mem 1 m r G := hB
   replace hr : r.length ≤ i * 3001 := hr
   subst e
   have hF := hB.fir
   have hT := hB.tells
   have hlen := hF.len hT
   unfold mewslaw22.FieldPlays.body0
   show (∃ s', (if (i : Int) < (l.length : Int) then _ else _ : Option _) = _ ∧ _) ∨ (∃ s', (if (i : Int) < (l.length : Int) then _ else _ : Option _) = _ ∧ _)
   by_cases hil : i < l.length
   ·left
    rw [if_pos (by omega), need_eq ⟨by show (0 : Int) ≤ (i : Int); omega, by show (i : Int) < (l.length : Int); omega⟩]
    have hix : ix l (i : Int) = l[i] := ix_get hil
    simp only [hix]
    obtain ⟨hs1, hs2⟩ := hsm l[i] (List.getElem_mem hil)
    have hby1 := hby l[i] (List.getElem_mem hil)
    generalize l[i] = o at hs1 hs2 hby1
    rw [keys22_eq _ hs1, Option.bind_some]
    have hkeys : ∀ f, f ∈ o.Fields → f.Key.length < 1000000 := fun f hf => by have := (hs2 f hf).1; omega
    have hkeys2 : ∀ k, k ∈ o.Fields.map (·.Key) → k.length < 1000000 := fun k hk => by
     obtain ⟨f, hf, rfl⟩ := List.mem_map.1 hk
     exact hkeys f hf
    have hfk : (firstK o.Fields).length < 1000000 := by
     cases hfs : o.Fields with
     | nil => simp [firstK]
     | cons a x => exact hkeys a (by rw [hfs]; simp)
    have hw1 : (IntKind.wrap .i64 ((i : Int) + 1)) = ((i + 1 : Nat) : Int) := by rw [i64w (by omega) (by omega)]; omega
    have hmap : (o.Fields.map (·.Key)).length = o.Fields.length := List.length_map _
    -- what a step brings
    have step : ∃ (n : Int) (x : Str) (e : Int) (mem' : Reg) (m' : Tab) (r' : List api.Field) (G' : Fn),
      (if o.Kind = 0 then
       (field.Put (some (1, 0)) o.Fields mem).bind fun r681 => (mewsref22.Put r o.Fields).bind fun r682 => some (Sum.inl (r682.1, r681.1, r682.2, ([] : List UInt8), ([] : List UInt8), 0, 0, r681.2))
      else if o.Kind = 1 then
       (field.Drop (some (1, 0)) (o.Fields.map (·.Key)) mem).bind fun r683 => (mewsref22.Drop r (o.Fields.map (·.Key))).bind fun r684 => some (Sum.inl (r684.1, r683.1, r684.2, ([] : List UInt8), ([] : List UInt8), 0, 0, r683.2))
      else if o.Kind = 2 then
       (field.Add (some (1, 0)) (firstK o.Fields) o.By mem).bind fun r685 => (mewsref22.Add r (firstK o.Fields) o.By).bind fun r686 => some (Sum.inl (r686.1, 0, 0, r685.1, r686.2.1, r685.2.1, r686.2.2, r685.2.2))
      else
       (field.Get (some (1, 0)) (o.Fields.map (·.Key)) mem).bind fun r687 => (mewsref22.Get r (o.Fields.map (·.Key))).bind fun r689 => (mewsref22.Same r687 r689).bind fun r691 => if (!r691) = true then some (Sum.inr (Sum.inr (Sum.inr false))) else some (Sum.inl (r, 0, 0, ([] : List UInt8), ([] : List UInt8), 0, 0, mem)) : Option ((List api.Field × Int × Int × List UInt8 × List UInt8 × Int × Int × Reg) ⊕ (mewslaw22.FieldPlays.S0 ⊕ (((List api.Field) × Reg) ⊕ Bool)))) = some (Sum.inl (r', n, n, x, x, e, e, mem')) ∧ Both mem' 1 m' r' G' ∧ r'.length ≤ (i + 1) * 3001 := by
     by_cases k0 : o.Kind = 0
     ·rw [if_pos k0]
      obtain ⟨n, mem', m', a1, a2, a3, a4, a5⟩ := tPut_eq (t := 1) o.Fields hkeys hF.tab hF.ok (by omega)
      obtain ⟨r', n', b1, b2, b3⟩ := fPut_eq (x := o.Fields) hT (by omega)
      rw [hF.get] at a4
      have hF' : Fir mem' 1 m' (putG G o.Fields) := ⟨a2, a3, a4⟩
      have hlen' := hF'.len b2
      have hsub : r'.length ≤ r.length + o.Fields.length := by
       have := b2.asc.nodup.length_le_of_subset (l₂ := r.map (·.Key) ++ o.Fields.map (·.Key)) fun k hk => by
        rw [b2.key, putG_key] at hk
        rw [List.mem_append, hT.key]
        exact hk.symm
       simpa using this
      obtain rfl : n' = n := by omega
      rw [a1, Option.bind_some, b1, Option.bind_some]
      exact ⟨n', [], 0, mem', m', r', _, rfl, ⟨hF', b2, hB.vals.puts fun f hf => (hs2 f hf).2⟩, by omega⟩
     ·rw [if_neg k0]
      by_cases k1 : o.Kind = 1
      ·rw [if_pos k1]
       obtain ⟨n, mem', m', a1, a2, a3, a4, a5⟩ := tDrop_eq (t := 1) (o.Fields.map (·.Key)) hkeys2 hF.tab hF.ok (by omega)
       obtain ⟨r', n', b1, b2, b3⟩ := fDrop_eq (m := o.Fields.map (·.Key)) hT (by omega) (by omega)
       rw [hF.get] at a4
       have hF' : Fir mem' 1 m' (dropG G (o.Fields.map (·.Key))) := ⟨a2, a3, a4⟩
       have hlen' := hF'.len b2
       have hn0 : 0 ≤ n' := by
        have := b2.lenSub hT fun k hk => by
         have h5 : ∀ (x : List Str) (G : Fn), (dropG G x k).isSome = true → (G k).isSome = true := by
          intro x
          induction x with
          | nil => intro G h; exact h
          | cons a x ih =>
           intro G h
           have := ih (dropF G a) h
           unfold dropF at this
           by_cases e : k = a
           ·rw [if_pos e] at this; cases this
           ·rw [if_neg e] at this; exact this
         exact h5 _ _ hk
        omega
       obtain rfl : n' = n := by omega
       rw [a1, Option.bind_some, b1, Option.bind_some]
       exact ⟨n', [], 0, mem', m', r', _, rfl, ⟨hF', b2, hB.vals.drops⟩, by omega⟩
      ·rw [if_neg k1]
       by_cases k2 : o.Kind = 2
       ·rw [if_pos k2]
        have hoz : (orZero G (firstK o.Fields)).length < 1000000000000000 := by
         unfold orZero
         cases hg : G (firstK o.Fields) with
         | none => simp
         | some v => have := hB.vals _ v hg; simp; omega
        obtain ⟨x, e, hs, hs3, hx, hx2⟩ := sAdd hoz hby1
        obtain ⟨mem', m', a1, hF'⟩ := tAdd_eq hF hfk (by omega) hs
        obtain ⟨r', b1, b2⟩ := rAdd_eq hT (by omega) hs3 hx
        rw [a1, Option.bind_some, b1, Option.bind_some]
        refine ⟨0, x, e, mem', m', r', _, rfl, ⟨hF', b2, ?_⟩, ?_⟩
        ·by_cases he : e = 0
         ·rw [if_pos he]
          obtain ⟨v, hv, hI, rfl⟩ := hx2 he
          exact hB.vals.put (by have := itext_len hI; show (itext (v + o.By)).length ≤ 3000; omega)
         ·rw [if_neg he]
          exact hB.vals
        ·by_cases he : e = 0
         ·rw [if_pos he] at b2
          have := hT.lenPut b2
          have h3 : r'.length ≤ r.length + 1 := by rw [this]; split <;> omega
          omega
         ·rw [if_neg he] at b2
          have : r' = r := b2.ext hT
          rw [this]
          omega
       ·rw [if_neg k2, tGet_eq hF hkeys2 (by omega), Option.bind_some, fGet_eq hT (by omega) (by omega), Option.bind_some, fSame_self _ (by have := pick_len G (o.Fields.map (·.Key)); omega), Option.bind_some, if_neg (by decide)]
        exact ⟨0, [], 0, mem, m, r, G, rfl, hB, by omega⟩
    obtain ⟨n, x, e, mem', m', r', G', e1, hB', hr'⟩ := step
    show ∃ s', ((if o.Kind = 0 then
       (field.Put (some (1, 0)) o.Fields mem).bind fun r681 => (mewsref22.Put r o.Fields).bind fun r682 => some (Sum.inl (r682.1, r681.1, r682.2, ([] : List UInt8), ([] : List UInt8), 0, 0, r681.2))
      else if o.Kind = 1 then
       (field.Drop (some (1, 0)) (o.Fields.map (·.Key)) mem).bind fun r683 => (mewsref22.Drop r (o.Fields.map (·.Key))).bind fun r684 => some (Sum.inl (r684.1, r683.1, r684.2, ([] : List UInt8), ([] : List UInt8), 0, 0, r683.2))
      else if o.Kind = 2 then
       (field.Add (some (1, 0)) (firstK o.Fields) o.By mem).bind fun r685 => (mewsref22.Add r (firstK o.Fields) o.By).bind fun r686 => some (Sum.inl (r686.1, 0, 0, r685.1, r686.2.1, r685.2.1, r686.2.2, r685.2.2))
      else
       (field.Get (some (1, 0)) (o.Fields.map (·.Key)) mem).bind fun r687 => (mewsref22.Get r (o.Fields.map (·.Key))).bind fun r689 => (mewsref22.Same r687 r689).bind fun r691 => if (!r691) = true then some (Sum.inr (Sum.inr (Sum.inr false))) else some (Sum.inl (r, 0, 0, ([] : List UInt8), ([] : List UInt8), 0, 0, mem)) : Option ((List api.Field × Int × Int × List UInt8 × List UInt8 × Int × Int × Reg) ⊕ (mewslaw22.FieldPlays.S0 ⊕ (((List api.Field) × Reg) ⊕ Bool)))).bind _) = _ ∧ _
    rw [e1, Option.bind_some]
    show ∃ s', (((if n = n then if x = x then if e = e then (field.All (some (1, 0)) mem').bind _ else _ else _ else _ : Option (Bool × Reg)).bind _) : Option _) = _ ∧ _
    rw [if_pos rfl, if_pos rfl, if_pos rfl, tAll_eq hB'.fir hB'.tells, Option.bind_some]
    show ∃ s', ((((mewsref22.Same r' r').bind _).bind _) : Option _) = _ ∧ _
    rw [fSame_self r' (by omega), Option.bind_some, Option.bind_some, if_neg (fun h => by cases h)]
    refine ⟨⟨r', IntKind.wrap .i64 ((i : Int) + 1), mem'⟩, rfl, ⟨i + 1, m', G', hw1, by omega, hB', hr'⟩, ?_⟩
    show l.length - (IntKind.wrap .i64 ((i : Int) + 1)).toNat < l.length - (i : Int).toNat
    rw [hw1]; omega
   ·rw [if_neg (by omega)]
    exact .inr ⟨_, rfl, r, mem, m, G, rfl, hB, by omega⟩
  obtain ⟨q, hq, r, mem, m, G, rfl, hB, hr⟩ := main
  show (mewslaw22.FieldPlays.loop0 l (some (1, 0), r0) ⟨[], 0, r0⟩).bind _ = _
  rw [hq, Option.bind_some]
  show ((((field.Make (IntKind.wrap .u64 (seed + 1)) r mem).bind _).bind _) : Option Bool) = _
  obtain ⟨t4, r4, m4, e4, hF4⟩ := make_eq (IntKind.wrap .u64 (seed + 1)) r mem (fun f hf => by
   have h1 : f.Key ∈ r.map (·.Key) := List.mem_map_of_mem hf
   rw [hB.tells.key, ← hB.fir.get, ← keys_get] at h1
   obtain ⟨x, hx, e⟩ := List.mem_map.1 h1
   rw [← e]
   exact hB.fir.ok.klen x hx) (by omega)
  rw [hB.tells.again] at hF4
  rw [e4, Option.bind_some]
  show ((((field.All (some (t4, 0)) r4).bind _).bind _) : Option Bool) = _
  rw [tAll_eq hF4 hB.tells, Option.bind_some]
  show ((((mewsref22.Same r r).bind _).bind _) : Option Bool) = _
  rw [fSame_self r (by omega), Option.bind_some, if_pos rfl]
  rfl

end Go.Pu

namespace Go.Pu.Pure
open Go.Lift Go.Pu
theorem FieldUndo {a0 : List api.Field} {a1 : List UInt8} {a2 : Int} (h0 : a0.length * 32 ≤ 140737488351232 ∧ ∀ y0, y0 ∈ a0 → api.Field.wf y0) (h1 : a1.length ≤ 140737488351232) (h2 : (Lit.int .i64 a2).wf = true) : mewslaw22.FieldUndo a0 a1 a2 = some true :=
 FieldUndo_pure a0 a1 a2 (lit_i64 h2) (by omega) (fun f hf => by
  obtain ⟨h2, h3, _⟩ := h0.2 f hf
  omega) (by omega)
end Go.Pu.Pure

namespace Go.Pu.Pure
open Go.Lift Go.Pu
theorem FieldPlays {a0 : Int} {a1 : List mewslaw22.Op} (h0 : (Lit.int .u64 a0).wf = true) (h1 : a1.length * 40 ≤ 140737488351232 ∧ ∀ y0, y0 ∈ a1 → mewslaw22.Op.wf y0) (hb1 : a1.length ≤ 1048576) : mewslaw22.FieldPlays a0 a1 = some true :=
 FieldPlays_pure a0 a1 hb1 (fun o ho => by
  obtain ⟨_, ⟨h3, h4⟩, _⟩ := h1.2 o ho
  refine ⟨by omega, fun f hf => ?_⟩
  obtain ⟨h5, h6, _⟩ := h4 f hf
  omega) fun o ho => lit_i64 (h1.2 o ho).2.2.1
end Go.Pu.Pure
