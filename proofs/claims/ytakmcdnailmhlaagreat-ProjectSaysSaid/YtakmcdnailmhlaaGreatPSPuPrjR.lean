import Derived.Test.YtakmcdnailmhlaaGreatPSPuPrj2
set_option maxHeartbeats 0
set_option maxRecDepth 100000
namespace Go.Pu
open Go.Lift

theorem opened_eq (l : List api.Event) (hl : l.length < 1000000000) (h : Int) : mewsref49.opened l h = some (opd h l) := by
 unfold mewsref49.opened mewsref49.opened.loop0
 rw [whileO_anyL ⟨0⟩ (fun i => (⟨(i : Int)⟩ : mewsref49.opened.S0)) l (fun e => decide (e.Kind = 1 ∧ e.Handle = h)) (.inr true) (.inl ()) ?_ ?_]
 ·unfold opd
  cases l.any fun e => decide (e.Kind = 1 ∧ e.Handle = h) <;> rfl
 ·intro i hi
  unfold mewsref49.opened.body0
  simp only
  rw [if_pos (by omega), need_eq ⟨by omega, by omega⟩, need_eq ⟨by omega, by omega⟩, ix_get hi, i64w (by omega) (by omega)]
  by_cases h1 : l[i].Kind = 1 <;> by_cases h2 : l[i].Handle = h <;> simp [h1, h2]
 ·unfold mewsref49.opened.body0
  simp

/-- Behind the first open. -/
def byR (h : Int) : List api.Event → List UInt8
 | [] => []
 | e :: l => if e.Kind = 8 ∨ (e.Kind = 4 ∧ e.Handle = h) then [] else if e.Kind = 2 ∧ e.Handle = h then e.S ++ byR h l else byR h l

theorem byR_F (h : Int) : ∀ l : List api.Event, byR h l = byF h true l
 | [] => rfl
 | e :: l => by
  have ih := byR_F h l
  simp only [byR, byF, true_and]
  split
  ·rfl
  ·rename_i h1
   by_cases h2 : e.Kind = 1 ∧ e.Handle = h
   ·rw [if_pos h2, if_neg (by omega), ih]
   ·rw [if_neg h2, ih]

def isOp (h : Int) (e : api.Event) : Bool := decide (e.Kind = 1 ∧ e.Handle = h)
def frm (h : Int) : List api.Event → Nat
 | [] => 0
 | e :: l => if isOp h e then 0 else frm h l + 1
theorem frm_le (h : Int) : ∀ l : List api.Event, frm h l ≤ l.length
 | [] => Nat.le_refl _
 | e :: l => by have := frm_le h l; simp only [frm, List.length_cons]; split <;> omega
theorem frm_F (h : Int) : ∀ l : List api.Event, byR h (l.drop (frm h l)) = byF h false l
 | [] => rfl
 | e :: l => by
  by_cases c : e.Kind = 1 ∧ e.Handle = h
  ·have : isOp h e = true := decide_eq_true c
   simp only [frm, this, if_true, List.drop_zero, byF]
   rw [if_neg (by rintro ⟨h, _⟩; cases h), if_pos c, byR, if_neg (by omega), if_neg (by omega), byR_F]
  ·have : isOp h e = false := decide_eq_false c
   simp only [frm, this, Bool.false_eq_true, if_false, List.drop_succ_cons, byF, false_and, c]
   exact frm_F h l

theorem rB0 (h : Int) (l : List api.Event) (hl : l.length < 1000000000) : ∀ (rest pre : List api.Event), l = pre ++ rest → mewsref48.Bytes.loop0 l h ⟨(pre.length : Int)⟩ = some ((pre.length + frm h rest : Nat) : Int) := by
 intro rest
 induction rest with
 | nil =>
  intro pre e
  rw [List.append_nil] at e
  unfold mewsref48.Bytes.loop0
  apply whileO_end
  unfold mewsref48.Bytes.body0
  simp only
  rw [if_neg (by rw [e]; omega)]
  simp [frm]
 | cons e rest ih =>
  intro pre he
  have hj : pre.length < l.length := by rw [he]; simp
  have hx : l[pre.length] = e := by simp [he]
  have hb : mewsref48.Bytes.body0 l h ⟨(pre.length : Int)⟩ = if isOp h e = true then some (.inr (pre.length : Int)) else some (.inl ⟨((pre ++ [e]).length : Int)⟩) := by
   unfold mewsref48.Bytes.body0
   simp only
   rw [if_pos (by omega), need_eq ⟨by omega, by omega⟩, need_eq ⟨by omega, by omega⟩, ix_get hj, hx, i64w (by omega) (by omega), show ((pre ++ [e]).length : Int) = (pre.length : Int) + 1 by simp]
   unfold isOp
   by_cases h1 : e.Kind = 1 <;> by_cases h2 : e.Handle = h <;> simp [h1, h2]
  by_cases c : isOp h e = true
  ·rw [if_pos c] at hb
   unfold mewsref48.Bytes.loop0
   rw [whileO_end hb]
   simp [frm, c]
  ·rw [if_neg c] at hb
   have := ih (pre ++ [e]) (by rw [he]; simp)
   unfold mewsref48.Bytes.loop0 at this ⊢
   rw [whileO_st hb, this]
   have c' : isOp h e = false := by simpa using c
   simp only [frm, c', Bool.false_eq_true, if_false, List.length_append, List.length_singleton]
   congr 2
   omega

theorem rB2 (h : Int) (l : List api.Event) (hl : l.length < 1000000000) : ∀ (rest pre : List api.Event) (acc : List UInt8), l = pre ++ rest → acc.length + lenE rest ≤ 1000000 →
  mewsref48.Bytes.loop2 l h ⟨acc, (pre.length : Int)⟩ = some (.inl (acc ++ byR h rest)) ∨ mewsref48.Bytes.loop2 l h ⟨acc, (pre.length : Int)⟩ = some (.inr (acc ++ byR h rest)) := by
 intro rest
 induction rest with
 | nil =>
  intro pre acc e _
  rw [List.append_nil] at e
  left
  unfold mewsref48.Bytes.loop2
  apply whileO_end
  unfold mewsref48.Bytes.body2
  simp only
  rw [if_neg (by rw [e]; omega)]
  simp [byR]
 | cons e rest ih =>
  intro pre acc he hbd
  simp only [lenE] at hbd
  have hj : pre.length < l.length := by rw [he]; simp
  have hx : l[pre.length] = e := by simp [he]
  have hn : acc.length + e.S.length ≤ 9223372036854775807 := by omega
  have hb : mewsref48.Bytes.body2 l h ⟨acc, (pre.length : Int)⟩ = if e.Kind = 8 ∨ (e.Kind = 4 ∧ e.Handle = h) then some (.inr (.inr acc)) else if e.Kind = 2 ∧ e.Handle = h then some (.inl ⟨acc ++ e.S, ((pre ++ [e]).length : Int)⟩) else some (.inl ⟨acc, ((pre ++ [e]).length : Int)⟩) := by
   unfold mewsref48.Bytes.body2
   simp only
   have hin : InB (pre.length : Int) l.length := ⟨by omega, by omega⟩
   rw [if_pos (by omega), ix_get hj, hx, i64w (by omega) (by omega), show ((pre ++ [e]).length : Int) = (pre.length : Int) + 1 by simp]
   simp only [need_eq hin, need_eq hn]
   by_cases k8 : e.Kind = 8
   ·simp [k8, onSum]
   ·by_cases k4 : e.Kind = 4
    ·by_cases hh : e.Handle = h <;> simp [k4, hh, onSum]
    ·by_cases k2 : e.Kind = 2
     ·by_cases hh : e.Handle = h <;> simp [k2, hh, onSum]
     ·simp [k8, k4, k2, onSum]
  have go : ∀ acc', mewsref48.Bytes.body2 l h ⟨acc, (pre.length : Int)⟩ = some (.inl ⟨acc', ((pre ++ [e]).length : Int)⟩) → acc'.length + lenE rest ≤ 1000000 → acc' ++ byR h rest = acc ++ byR h (e :: rest) →
    mewsref48.Bytes.loop2 l h ⟨acc, (pre.length : Int)⟩ = some (.inl (acc ++ byR h (e :: rest))) ∨ mewsref48.Bytes.loop2 l h ⟨acc, (pre.length : Int)⟩ = some (.inr (acc ++ byR h (e :: rest))) := by
   intro acc' h1 h2 h3
   have := ih (pre ++ [e]) acc' (by rw [he]; simp) h2
   rw [h3] at this
   unfold mewsref48.Bytes.loop2 at this ⊢
   rw [whileO_st h1]
   exact this
  by_cases c1 : e.Kind = 8 ∨ (e.Kind = 4 ∧ e.Handle = h)
  ·rw [if_pos c1] at hb
   right
   unfold mewsref48.Bytes.loop2
   rw [whileO_end hb]
   simp [byR, c1]
  ·rw [if_neg c1] at hb
   by_cases c3 : e.Kind = 2 ∧ e.Handle = h
   ·rw [if_pos c3] at hb
    exact go _ hb (by rw [List.length_append]; omega) (by simp only [byR]; rw [if_neg c1, if_pos c3, List.append_assoc])
   ·rw [if_neg c3] at hb
    exact go _ hb (by omega) (by simp only [byR]; rw [if_neg c1, if_neg c3])

theorem rBytes_eq (h : Int) {l : List api.Event} (hl : l.length < 1000000000) (hb : lenE l ≤ 1000000) : mewsref48.Bytes l h = some (byF h false l) := by
 unfold mewsref48.Bytes
 have h1 : mewsref48.Bytes.loop0 l h ⟨0⟩ = some ((frm h l : Nat) : Int) := by
  have := rB0 h l hl l [] rfl
  simpa using this
 rw [h1, Option.bind_some]
 have hf := frm_le h l
 have e2 : ((l.take (frm h l)).length : Int) = ((frm h l : Nat) : Int) := by rw [List.length_take]; omega
 have hb2 : lenE (l.drop (frm h l)) ≤ lenE l := by
  have := lenE_append (l.take (frm h l)) (l.drop (frm h l))
  rw [List.take_append_drop] at this
  omega
 have h2 := rB2 h l hl (l.drop (frm h l)) (l.take (frm h l)) [] (List.take_append_drop _ _).symm (by simp; omega)
 rw [e2, frm_F, List.nil_append] at h2
 rcases h2 with e | e
 ·rw [e]; rfl
 ·rw [e]; rfl

theorem rOf_eq {c : api.Config} (hc : c.Tenants.length < 1000000000) {l : List api.Event} (hl : l.length < 1000000000) (hb : lenE l ≤ 1000000) (h : Int) : mewsref49.Of c l h = some (ofM c l h) := by
 unfold mewsref49.Of
 rw [opened_eq l hl, Option.bind_some]
 by_cases ho : opd h l = true
 ·have hbl := byF_len h l false
  rw [ho, if_neg (by decide), rBytes_eq h hl hb, Option.bind_some, Told_eq c (by omega) _ (by omega), Option.bind_some, ← (first_told c (byF h false l) []).1]
  rfl
 ·have ho' : opd h l = false := by simpa using ho
  rw [ho', if_pos (by decide), ofM_no ho']
end Go.Pu

set_option maxHeartbeats 0
set_option maxRecDepth 100000
namespace Go.Pu
open Go.Lift

/-! ### Where a label stands -/
def pos (h : Int) : List (Int × Int) → Nat
 | [] => 0
 | p :: m => if p.1 < h then pos h m + 1 else 0
theorem pos_le (h : Int) : ∀ m, pos h m ≤ m.length
 | [] => Nat.le_refl _
 | p :: m => by have := pos_le h m; simp only [pos, List.length_cons]; split <;> omega

theorem pos_has {h : Int} : ∀ {m : List (Int × Int)}, RiseI m → mpHas m h = (match m.drop (pos h m) with | [] => false | p :: _ => decide (p.1 = h))
 | [], _ => rfl
 | p :: m, hr => by
  have hr' : RiseI m := (List.pairwise_cons.1 hr).2
  have ih := pos_has (h := h) hr'
  simp only [pos]
  by_cases c : p.1 < h
  ·rw [if_pos c, List.drop_succ_cons, ← ih]
   unfold mpHas
   rw [mpGet_cons, if_neg (by omega)]
  ·rw [if_neg c, List.drop_zero]
   by_cases e : p.1 = h
   ·unfold mpHas
    rw [mpGet_cons, if_pos e]
    simp [e]
   ·have hn : mpHas (p :: m) h = false := by
     cases hh : mpHas (p :: m) h with
     | false => rfl
     | true =>
      obtain ⟨v, hv⟩ := mpHas_iff.1 hh
      have := mpGet_some hv
      rcases List.mem_cons.1 this with g | g
      ·rw [← g] at e; exact absurd rfl e
      ·have := (List.pairwise_cons.1 hr).1 _ g
       simp only at this
       omega
    rw [hn]
    simp [e]

theorem pos_ins {x : Int × Int} : ∀ {m : List (Int × Int)}, (∀ p, p ∈ m → p.1 ≠ x.1) → mpIns mkI x m = m.take (pos x.1 m) ++ x :: m.drop (pos x.1 m)
 | [], _ => rfl
 | p :: m, h => by
  have ih := pos_ins (x := x) (m := m) fun q hq => h q (List.mem_cons_of_mem _ hq)
  have hp := h p (List.mem_cons_self ..)
  simp only [pos]
  by_cases c : p.1 < x.1
  ·have hl : mkI.lt x.1 p.1 = false := decide_eq_false (by omega)
   rw [if_pos c, List.take_succ_cons, List.drop_succ_cons, mpIns, hl, if_neg (by decide), ih]
   rfl
  ·have hl : mkI.lt x.1 p.1 = true := decide_eq_true (by omega)
   rw [if_neg c, mpIns, hl, if_pos rfl]
   rfl

theorem rLab2 {l : List api.Event} {j h : Int} (hh : (ix l j).Handle = h) (m : List (Int × Int)) (hm : m.length < 1000000) : ∀ (rest pre : List (Int × Int)), m = pre ++ rest →
  mewsref49.Labels.loop2 ⟨m.map labA, j⟩ l ⟨(pre.length : Int)⟩ = some ((pre.length + pos h rest : Nat) : Int) := by
 intro rest
 induction rest with
 | nil =>
  intro pre e
  rw [List.append_nil] at e
  unfold mewsref49.Labels.loop2
  apply whileO_end
  unfold mewsref49.Labels.body2
  simp only
  rw [if_neg (by rw [List.length_map, e]; omega)]
  simp [pos]
 | cons p rest ih =>
  intro pre he
  have hj : pre.length < m.length := by rw [he]; simp
  have hx : m[pre.length] = p := by simp [he]
  have hb : mewsref49.Labels.body2 ⟨m.map labA, j⟩ l ⟨(pre.length : Int)⟩ = if p.1 < h then some (.inl ⟨((pre ++ [p]).length : Int)⟩) else some (.inr (pre.length : Int)) := by
   unfold mewsref49.Labels.body2
   simp only
   rw [List.length_map, if_pos (by omega), need_eq ⟨by omega, by omega⟩, ix_get (by rw [List.length_map]; exact hj), List.getElem_map, hx, hh, i64w (by omega) (by omega), show ((pre ++ [p]).length : Int) = (pre.length : Int) + 1 by simp, Option.bind_some]
   by_cases c : p.1 < h
   ·have q : decide ((labA p).Handle < h) = true := decide_eq_true c
    rw [if_pos c, if_pos q]
   ·have q : ¬ decide ((labA p).Handle < h) = true := by rw [decide_eq_true_eq]; exact c
    rw [if_neg c, if_neg q]
  by_cases c : p.1 < h
  ·rw [if_pos c] at hb
   have := ih (pre ++ [p]) (by rw [he]; simp)
   unfold mewsref49.Labels.loop2 at this ⊢
   rw [whileO_st hb, this]
   simp only [pos, c, if_true, List.length_append, List.length_singleton]
   congr 2
   omega
  ·rw [if_neg c] at hb
   unfold mewsref49.Labels.loop2
   rw [whileO_end hb]
   simp [pos, c]

theorem rLab_body {c : api.Config} {l : List api.Event} (hz : PSz c l) {m : List (Int × Int)} (hr : RiseI m) {j : Nat} (hj : j < l.length) (hm : m.length ≤ j) :
  mewsref49.Labels.body0 l c ⟨m.map labA, (j : Int)⟩ = some (.inl ⟨(if mpHas m l[j].Handle = false ∧ l[j].Kind = 1 then mpIns mkI (l[j].Handle, ofM c l l[j].Handle) m else m).map labA, ((j + 1 : Nat) : Int)⟩) := by
 have hnl := hz.nl
 have hnc := hz.nc
 have hix : ix l (j : Int) = l[j] := ix_get hj
 have hin : InB (j : Int) l.length := ⟨by omega, by omega⟩
 unfold mewsref49.Labels.body0
 simp only
 rw [if_pos (by omega), i64w (by omega) (by omega), show (j : Int) + 1 = ((j + 1 : Nat) : Int) by omega]
 have h2 : mewsref49.Labels.loop2 ⟨m.map labA, (j : Int)⟩ l ⟨0⟩ = some ((pos l[j].Handle m : Nat) : Int) := by
  have := rLab2 (l := l) (j := (j : Int)) (h := l[j].Handle) (by rw [hix]) m (by omega) m [] rfl
  simpa using this
 rw [h2, hix]
 generalize l[j] = e at *
 simp only [need_eq hin]
 by_cases k1 : e.Kind = 1
 ·rw [if_pos k1, Option.bind_some]
  have hp := pos_le e.Handle m
  have hh := pos_has (h := e.Handle) hr
  have hv : (if ((pos e.Handle m : Nat) : Int) < ((m.map labA).length : Int) then need (InB ((pos e.Handle m : Nat) : Int) (m.map labA).length) (some (decide ((ix (m.map labA) ((pos e.Handle m : Nat) : Int)).Handle = e.Handle))) else some false) = some (mpHas m e.Handle) := by
   rw [List.length_map]
   by_cases c : pos e.Handle m < m.length
   ·rw [if_pos (by omega), need_eq ⟨by omega, by omega⟩, ix_get (by rw [List.length_map]; exact c), List.getElem_map, hh, List.drop_eq_getElem_cons c]
    rfl
   ·rw [if_neg (by omega), hh, List.drop_eq_nil_of_le (by omega)]
  rw [hv, Option.bind_some]
  by_cases hb : mpHas m e.Handle = true
  ·rw [if_pos hb, if_neg (by rw [hb]; simp)]
   rfl
  ·have hb' : mpHas m e.Handle = false := by simpa using hb
   have hne : ∀ p, p ∈ m → p.1 ≠ e.Handle := by
    unfold mpHas at hb'
    rw [Option.isSome_eq_false_iff, Option.isNone_iff_eq_none] at hb'
    exact mpGet_none hb'
   rw [if_neg hb, if_pos ⟨hb', k1⟩, pos_ins (x := (e.Handle, ofM c l e.Handle)) hne]
   simp only
   have s0 : sub (m.map labA) 0 ((pos e.Handle m : Nat) : Int) = (m.take (pos e.Handle m)).map labA := by rw [sub_zero, Int.toNat_natCast, List.map_take]
   have s1 : sub (m.map labA) ((pos e.Handle m : Nat) : Int) ((m.map labA).length : Int) = (m.drop (pos e.Handle m)).map labA := by rw [sub_all, Int.toNat_natCast, List.map_drop]
   rw [s0, s1]
   have l0 : (m.take (pos e.Handle m)).length ≤ m.length := by rw [List.length_take]; omega
   have l1 : (m.drop (pos e.Handle m)).length ≤ m.length := by rw [List.length_drop]; omega
   rw [need_eq ⟨by omega, by omega, by rw [List.length_map]; omega⟩, need_eq (by rw [List.length_map]; simp only [List.length_nil]; omega), rOf_eq (by omega) (by omega) hz.b, Option.bind_some,
    need_eq (by rw [List.nil_append, List.length_map]; simp only [List.length_singleton]; omega), need_eq ⟨by omega, by rw [List.length_map]; omega, by omega⟩,
    need_eq (by rw [List.nil_append, List.length_append, List.length_map, List.length_map]; simp only [List.length_singleton]; omega), Option.bind_some]
   simp [labA]
 ·rw [if_neg k1, if_neg (fun g => k1 g.2), Option.bind_some]

theorem rLab_go {c : api.Config} {l : List api.Event} (hz : PSz c l) : ∀ (rest pre : List api.Event) (m : List (Int × Int)), l = pre ++ rest → LabI c l pre m →
  mewsref49.Labels.loop0 l c ⟨m.map labA, (pre.length : Int)⟩ = some ((labM c l rest m).map labA) := by
 intro rest
 induction rest with
 | nil =>
  intro pre m e _
  rw [List.append_nil] at e
  unfold mewsref49.Labels.loop0
  apply whileO_end
  unfold mewsref49.Labels.body0
  simp only
  rw [if_neg (by rw [e]; omega)]
  rfl
 | cons e rest ih =>
  intro pre m he hi
  have hj : pre.length < l.length := by rw [he]; simp
  have hx : l[pre.length] = e := by simp [he]
  have hb := rLab_body hz hi.rise hj hi.len
  rw [hx] at hb
  have := ih (pre ++ [e]) _ (by rw [he]; simp) (hi.step e)
  rw [show ((pre ++ [e]).length : Int) = ((pre.length + 1 : Nat) : Int) by simp] at this
  unfold mewsref49.Labels.loop0 at this ⊢
  rw [whileO_st hb, this]
  rfl

theorem rLabels_eq {c : api.Config} {l : List api.Event} (hz : PSz c l) : mewsref49.Labels c l = some ((labM c l l []).map labA) := by
 unfold mewsref49.Labels
 have := rLab_go hz l [] [] rfl (LabI.nil c l)
 show (mewsref49.Labels.loop0 l c ⟨([] : List (Int × Int)).map labA, (([] : List api.Event).length : Int)⟩).bind _ = _
 rw [this]; rfl

/-! ### What is a tenant's, by the document -/
theorem rOwn_go {c : api.Config} {l : List api.Event} {k i : Int} {out : List api.Event} {L : List api.Left} (hL : (ix l k).Lefts = L) (hl : L.length < 1000000) : ∀ (rest pre : List api.Left) (own : List api.Left), L = pre ++ rest → own.length ≤ pre.length →
  mewsref49.Tenant.loop2 l ⟨out, k⟩ (decide (0 ≤ i ∧ i < (c.Tenants.length : Int))) i ⟨own, (pre.length : Int)⟩ = some (own ++ rest.filter (ownL c i)) := by
 intro rest
 induction rest with
 | nil =>
  intro pre own e _
  rw [List.append_nil] at e
  unfold mewsref49.Tenant.loop2
  apply whileO_end
  unfold mewsref49.Tenant.body2
  simp only
  rw [hL, if_neg (by rw [e]; omega)]
  simp
 | cons x rest ih =>
  intro pre own he ho
  have hj : pre.length < L.length := by rw [he]; simp
  have hx : L[pre.length] = x := by simp [he]
  have hb : mewsref49.Tenant.body2 l ⟨out, k⟩ (decide (0 ≤ i ∧ i < (c.Tenants.length : Int))) i ⟨own, (pre.length : Int)⟩ = some (.inl ⟨own ++ [x].filter (ownL c i), ((pre ++ [x]).length : Int)⟩) := by
   unfold mewsref49.Tenant.body2
   simp only
   have hin : InB (pre.length : Int) L.length := ⟨by omega, by omega⟩
   rw [hL, if_pos (by omega), ix_get hj, hx, i64w (by omega) (by omega), show ((pre ++ [x]).length : Int) = (pre.length : Int) + 1 by simp]
   simp only [need_eq hin, decide_eq_true_eq]
   by_cases g : 0 ≤ i ∧ i < (c.Tenants.length : Int)
   ·rw [if_pos g, Option.bind_some]
    by_cases e : x.Tenant = i
    ·have : ownL c i x = true := decide_eq_true ⟨e, g⟩
     rw [if_pos (decide_eq_true e), need_eq (by simp only [List.length_singleton]; omega), Option.bind_some, List.filter_cons, this]
     rfl
    ·have : ownL c i x = false := decide_eq_false fun h => e h.1
     rw [if_neg (by rw [decide_eq_true_eq]; exact e), Option.bind_some, List.filter_cons, this]
     simp
   ·have : ownL c i x = false := decide_eq_false fun h => g h.2
    rw [if_neg g, Option.bind_some, if_neg (by decide), Option.bind_some, List.filter_cons, this]
    simp
  have := ih (pre ++ [x]) _ (by rw [he]; simp) (show (own ++ [x].filter (ownL c i)).length ≤ (pre ++ [x]).length by
   rw [List.length_append, List.length_append]
   have : ([x].filter (ownL c i)).length ≤ [x].length := List.length_filter_le _ _
   omega)
  unfold mewsref49.Tenant.loop2 at this ⊢
  rw [whileO_st hb, this, List.append_assoc, ← List.filter_append]
  rfl

theorem rTen_go {c : api.Config} {l : List api.Event} (hz : PSz c l) (i : Int) : ∀ (rest pre : List api.Event) (out : List api.Event), l = pre ++ rest → out.length ≤ pre.length →
  mewsref49.Tenant.loop0 l (decide (0 ≤ i ∧ i < (c.Tenants.length : Int))) c i ⟨out, (pre.length : Int)⟩ = some (out ++ rest.filterMap (keepM c l i)) := by
 intro rest
 have hcl := hz.nl
 have hcc := hz.nc
 induction rest with
 | nil =>
  intro pre m e _
  rw [List.append_nil] at e
  unfold mewsref49.Tenant.loop0
  apply whileO_end
  unfold mewsref49.Tenant.body0
  simp only
  rw [if_neg (by rw [e]; omega)]
  simp
 | cons e rest ih =>
  intro pre out he ho
  have hj : pre.length < l.length := by rw [he]; simp
  have hx : l[pre.length] = e := by simp [he]
  have hm : e ∈ l := by rw [he]; simp
  have hf := hz.f e hm
  have hr := ofM_range c l e.Handle
  have hb : mewsref49.Tenant.body0 l (decide (0 ≤ i ∧ i < (c.Tenants.length : Int))) c i ⟨out, (pre.length : Int)⟩ = some (.inl ⟨(match keepM c l i e with | some x => out ++ [x] | none => out), ((pre ++ [e]).length : Int)⟩) := by
   have hix : ix l (pre.length : Int) = e := by rw [ix_get hj, hx]
   have hown := rOwn_go (c := c) (l := l) (k := (pre.length : Int)) (i := i) (out := out) (L := e.Lefts) (by rw [hix]) hf e.Lefts [] [] rfl (Nat.le_refl _)
   have hown' : mewsref49.Tenant.loop2 l ⟨out, (pre.length : Int)⟩ (decide (0 ≤ i ∧ i < (c.Tenants.length : Int))) i ⟨[], 0⟩ = some (e.Lefts.filter (ownL c i)) := by simpa using hown
   unfold mewsref49.Tenant.body0
   simp only
   rw [if_pos (by omega), need_eq ⟨by omega, by omega⟩, hown', hix, i64w (by omega) (by omega), show ((pre ++ [e]).length : Int) = (pre.length : Int) + 1 by simp, rOf_eq (by omega) (by omega) hz.b]
   have hn : ∀ z : api.Event, (out.length + [z].length) * 104 ≤ 140737488355328 := fun z => by simp; omega
   unfold letO
   dsimp only
   unfold keepM
   by_cases c18 : 1 ≤ e.Kind ∧ e.Kind ≤ 8
   ·have q : ¬ (if e.Kind < 1 then true else decide (8 < e.Kind)) = true := by
     rw [if_neg (by omega)]; simp only [decide_eq_true_eq]; omega
    rw [if_neg q]
    by_cases k4 : e.Kind ≤ 4
    ·rw [if_pos k4, if_pos (show e.Kind = 1 ∨ e.Kind = 2 ∨ e.Kind = 3 ∨ e.Kind = 4 by omega)]
     by_cases g : 0 ≤ i ∧ i < (c.Tenants.length : Int)
     ·rw [decide_eq_true g, if_neg (by decide), Option.bind_some]
      by_cases g2 : ofM c l e.Handle = i
      ·rw [if_pos (show 0 ≤ i ∧ ofM c l e.Handle = i from ⟨g.1, g2⟩), Option.bind_some, if_neg (show ¬ (!decide (ofM c l e.Handle = i)) = true by simp [g2]), if_neg (show ¬ e.Kind = 7 by omega), if_neg (by decide), if_neg (show ¬ e.Kind = 8 by omega), Option.bind_some, need_eq (hn _)]
       rfl
      ·rw [if_neg (show ¬ (0 ≤ i ∧ ofM c l e.Handle = i) from fun h => g2 h.2), Option.bind_some, if_pos (show (!decide (ofM c l e.Handle = i)) = true by simp [g2])]
       rfl
     ·rw [decide_eq_false g, if_pos (by decide), if_neg (show ¬ (0 ≤ i ∧ ofM c l e.Handle = i) from fun h => g ⟨h.1, by rw [← h.2]; exact hr.2⟩)]
      rfl
    ·rw [if_neg k4, if_neg (show ¬ (e.Kind = 1 ∨ e.Kind = 2 ∨ e.Kind = 3 ∨ e.Kind = 4) by omega), Option.bind_some, if_neg (by decide)]
     by_cases k6 : e.Kind = 5 ∨ e.Kind = 6
     ·rw [if_pos k6, if_neg (show ¬ e.Kind = 7 by omega), if_neg (by decide), if_neg (show ¬ e.Kind = 8 by omega), Option.bind_some, need_eq (hn _)]
      rfl
     ·rw [if_neg k6]
      by_cases k7 : e.Kind = 7
      ·rw [if_pos k7, if_pos k7]
       by_cases g : 0 ≤ i ∧ i < (c.Tenants.length : Int)
       ·rw [decide_eq_true g]
        by_cases g2 : e.Tenant = i
        ·rw [if_pos (show e.Tenant = i ∧ 0 ≤ i ∧ i < (c.Tenants.length : Int) from ⟨g2, g⟩), if_neg (show ¬ (if (!true) = true then true else !decide (e.Tenant = i)) = true by simp [g2]), if_neg (show ¬ e.Kind = 8 by omega), Option.bind_some, need_eq (hn _)]
         rfl
        ·rw [if_neg (show ¬ (e.Tenant = i ∧ 0 ≤ i ∧ i < (c.Tenants.length : Int)) from fun h => g2 h.1), if_pos (show (if (!true) = true then true else !decide (e.Tenant = i)) = true by simp [g2])]
         rfl
       ·rw [decide_eq_false g, if_pos (show (if (!false) = true then true else !decide (e.Tenant = i)) = true from rfl), if_neg (show ¬ (e.Tenant = i ∧ 0 ≤ i ∧ i < (c.Tenants.length : Int)) from fun h => g h.2)]
        rfl
      ·have k8 : e.Kind = 8 := by omega
       rw [if_neg k7, if_neg k7, if_neg (by decide), if_pos k8, if_pos k8, Option.bind_some, Option.bind_some, need_eq (hn _)]
       rfl
   ·have q : (if e.Kind < 1 then true else decide (8 < e.Kind)) = true := by
     by_cases h1 : e.Kind < 1
     ·rw [if_pos h1]
     ·rw [if_neg h1]; simp only [decide_eq_true_eq]; omega
    rw [if_pos q, if_neg (by omega), if_neg (by omega), if_neg (by omega), if_neg (by omega)]
    rfl
  have hlen : (match keepM c l i e with | some x => out ++ [x] | none => out).length ≤ (pre ++ [e]).length := by
   rw [List.length_append]
   cases keepM c l i e with
   | none => simp; omega
   | some x => simp; omega
  have := ih (pre ++ [e]) _ (by rw [he]; simp) hlen
  unfold mewsref49.Tenant.loop0 at this ⊢
  rw [whileO_st hb, this, List.filterMap_cons]
  cases keepM c l i e <;> simp

theorem rTenant_eq {c : api.Config} {l : List api.Event} (hz : PSz c l) (i : Int) : mewsref49.Tenant c l i = some (tenM c l i) := by
 unfold mewsref49.Tenant letO
 have q : (if 0 ≤ i then decide (i < (c.Tenants.length : Int)) else false) = decide (0 ≤ i ∧ i < (c.Tenants.length : Int)) := by
  by_cases h : 0 ≤ i <;> simp [h]
 have := rTen_go hz i l [] [] rfl (Nat.le_refl _)
 rw [q]
 show (mewsref49.Tenant.loop0 l (decide (0 ≤ i ∧ i < (c.Tenants.length : Int))) c i ⟨[], (([] : List api.Event).length : Int)⟩).bind _ = _
 rw [this]; rfl

/-! ### The same, by the document -/
theorem rSame7_eq (a b : api.Event) (ha : a.Lefts.length < 1000000000000000) : mewsref47.Same a b = some (decide (a = b)) := by
 unfold mewsref47.Same
 by_cases hlen : a.Lefts.length = b.Lefts.length
 ·rw [if_pos (by omega)]
  have := whileO_eqs (body := mewsref47.Same.body0 a b) (fun i => ⟨(i : Int)⟩) a.Lefts b.Lefts hlen (fun i hi hi2 => by
   unfold mewsref47.Same.body0
   simp only
   rw [if_pos (by omega), need_eq ⟨by omega, by omega⟩, need_eq ⟨by omega, by omega⟩, ix_get hi, ix_get hi2, i64w (by omega) (by omega)]
   rfl) (by
   unfold mewsref47.Same.body0
   simp only
   rw [if_neg (by omega)])
  unfold mewsref47.Same.loop0
  show (whileO (mewsref47.Same.body0 a b) ⟨((0 : Nat) : Int)⟩).bind _ = _
  rw [this, Option.bind_some]
  obtain ⟨a1, a2, a3, a4, a5, a6, a7⟩ := a
  obtain ⟨b1, b2, b3, b4, b5, b6, b7⟩ := b
  simp only [api.Event.mk.injEq]
  by_cases e : a7 = b7
  ·rw [if_pos e]
   simp only [onSum, letO]
   by_cases h1 : a1 = b1 <;> by_cases h2 : a2 = b2 <;> by_cases h3 : a3 = b3 <;> by_cases h4 : a4 = b4 <;> by_cases h5 : a5 = b5 <;> by_cases h6 : a6 = b6 <;> simp [h1, h2, h3, h4, h5, h6, e]
  ·rw [if_neg e]
   simp [onSum, e]
 ·rw [if_neg (by omega), decide_eq_false (fun e => hlen (by rw [e]))]

theorem rSame_eq (a b : List api.Event) (hl : a.length < 1000000000000000) (ha : ∀ e, e ∈ a → e.Lefts.length < 1000000000000000) : mewsref48.Same a b = some (decide (a = b)) := by
 unfold mewsref48.Same
 by_cases hlen : a.length = b.length
 ·rw [if_pos (by omega)]
  have := whileO_eqs (body := mewsref48.Same.body0 a b) (fun i => ⟨(i : Int)⟩) a b hlen (fun i hi hi2 => by
   unfold mewsref48.Same.body0
   simp only
   rw [if_pos (by omega), need_eq ⟨by omega, by omega⟩, need_eq ⟨by omega, by omega⟩, ix_get hi, ix_get hi2, i64w (by omega) (by omega), rSame7_eq _ _ (ha _ (List.getElem_mem hi)), Option.bind_some]
   by_cases e : a[i] = b[i]
   ·rw [if_pos e, decide_eq_true e, if_neg (by decide)]; rfl
   ·rw [if_neg e, decide_eq_false e, if_pos (by decide)]) (by
   unfold mewsref48.Same.body0
   simp only
   rw [if_neg (by omega)])
  unfold mewsref48.Same.loop0
  show ((whileO (mewsref48.Same.body0 a b) ⟨((0 : Nat) : Int)⟩).bind _) = _
  rw [this, Option.bind_some]
  by_cases e : a = b
  ·rw [if_pos e, decide_eq_true e]; rfl
  ·rw [if_neg e, decide_eq_false e]; rfl
 ·rw [if_neg (by omega), decide_eq_false (fun e => hlen (by rw [e]))]

theorem Pure.ProjectSays {a0 : api.Config} {a1 : List api.Event} {a2 a3 : Int} (h0 : api.Config.wf a0) (h1 : a1.length * 104 ≤ 140737488351232 ∧ ∀ y0, y0 ∈ a1 → api.Event.wf y0) (h2 : (Lit.int .i64 a2).wf = true) (h3 : (Lit.int .i64 a3).wf = true) : mewslaw49.ProjectSays a0 a1 a2 a3 = some true := by
 obtain ⟨b, hb, hs⟩ := PSz.of h0 h1
 unfold mewslaw49.ProjectSays
 rw [hb, Option.bind_some, alive49]
 cases b with
 | true => rfl
 | false =>
  obtain ⟨hz, g1, g2, g3⟩ := hs rfl
  have hzm := hz.keep a2
  have hlen := (labM_all a0 a1).len
  have hlf : ∀ e, e ∈ a1 → e.Lefts.length < 1000000000000000 := fun e he => by have := hz.f e he; omega
  have hlm : ∀ e, e ∈ tenM a0 a1 a2 → e.Lefts.length < 1000000000000000 := fun e he => by have := hzm.f e he; omega
  rw [if_neg (by decide), Labels_eq hz, Option.bind_some, rLabels_eq hz, Option.bind_some, if_pos rfl]
  generalize labM a0 a1 a1 [] = m at hlen
  have hloop : mewslaw49.ProjectSays.loop0 (m.map labA) (m.map labA) ⟨0⟩ = some (.inl ()) := by
   have := whileO_eqs (body := mewslaw49.ProjectSays.body0 (m.map labA) (m.map labA)) (fun i => ⟨(i : Int)⟩) (m.map labA) (m.map labA) rfl (fun i hi hi2 => by
    rw [List.length_map] at hi
    unfold mewslaw49.ProjectSays.body0
    simp only
    rw [List.length_map, if_pos (by omega), need_eq ⟨by omega, by omega⟩, need_eq ⟨by omega, by omega⟩, i64w (by omega) (by omega)]
    rfl) (by
    unfold mewslaw49.ProjectSays.body0
    simp only
    rw [if_neg (by omega)])
   rw [if_pos rfl] at this
   exact this
  have hx := hzm.nl
  rw [hloop, Option.bind_some]
  show ((mewsref49.Tenant a0 a1 a2).bind _) = _
  rw [rTenant_eq hz, Option.bind_some, Tenant_eq hz, Option.bind_some, rSame_eq _ _ (by omega) hlm, Option.bind_some, if_pos (decide_eq_true rfl), Of_eq (by omega) (by omega) (by omega), Option.bind_some, rOf_eq (by omega) (by omega) (by omega), Option.bind_some, if_pos rfl, Same_eq _ _ (by omega) hlf, Option.bind_some, rSame_eq _ _ (by omega) hlf, Option.bind_some, beq_self_eq_true, if_pos rfl]
  rfl
end Go.Pu
