import Derived.Test.YtakmcdnailmhlaaGreatPSPuMap
set_option maxHeartbeats 0
set_option maxRecDepth 100000
namespace Go.Pu
open Go.Lift

/-! ### The same -/
theorem whileO_eqs {σ α : Type} [DecidableEq α] {body : σ → Option (σ ⊕ (Unit ⊕ Bool))} (st : Nat → σ) (a b : List α) (hlen : a.length = b.length)
  (h : ∀ i (hi : i < a.length) (hi2 : i < b.length), body (st i) = if a[i] = b[i] then some (.inl (st (i + 1))) else some (.inr (.inr false))) (he : body (st a.length) = some (.inr (.inl ()))) :
  whileO body (st 0) = some (if a = b then .inl () else .inr false) := by
 have : ∀ m j, j + m = a.length → whileO body (st j) = some (if a.drop j = b.drop j then .inl () else .inr false) := by
  intro m
  induction m with
  | zero =>
   intro j hj
   obtain rfl : j = a.length := by omega
   rw [whileO_end he, List.drop_length, hlen, List.drop_length, if_pos rfl]
  | succ m ih =>
   intro j hj
   have h1 : j < a.length := by omega
   have h2 : j < b.length := by omega
   have hb := h j h1 h2
   have he : (a.drop j = b.drop j) = (a[j] = b[j] ∧ a.drop (j + 1) = b.drop (j + 1)) := by
    rw [List.drop_eq_getElem_cons h1, List.drop_eq_getElem_cons h2, List.cons.injEq]
   by_cases e : a[j] = b[j]
   ·rw [if_pos e] at hb
    rw [whileO_st hb, ih (j + 1) (by omega)]
    simp only [he, e, true_and]
   ·rw [if_neg e] at hb
    rw [whileO_end hb, if_neg]
    rw [he]
    exact fun g => e g.1
 have := this a.length 0 (by omega)
 simpa using this

theorem EqualL_eq (a b : List api.Left) (ha : a.length < 1000000000000000) : slices.Equal_api_Left a b = some (decide (a = b)) := by
 unfold slices.Equal_api_Left
 by_cases hlen : a.length = b.length
 ·rw [if_pos (by omega)]
  have := whileO_eqs (body := slices.Equal_api_Left.body0 a b) (fun i => ⟨(i : Int)⟩) a b hlen (fun i hi hi2 => by
   unfold slices.Equal_api_Left.body0
   simp only
   rw [if_pos (by omega), need_eq ⟨by omega, by omega⟩, need_eq ⟨by omega, by omega⟩, ix_get hi, ix_get hi2, i64w (by omega) (by omega)]
   rfl) (by
   unfold slices.Equal_api_Left.body0
   simp only
   rw [if_neg (by omega)])
  unfold slices.Equal_api_Left.loop0
  show (whileO (slices.Equal_api_Left.body0 a b) ⟨((0 : Nat) : Int)⟩).bind _ = _
  rw [this, Option.bind_some]
  by_cases e : a = b
  ·rw [if_pos e, decide_eq_true e]; rfl
  ·rw [if_neg e, decide_eq_false e]; rfl
 ·rw [if_neg (by omega), decide_eq_false (fun e => hlen (by rw [e]))]

theorem SameE_eq (a b : api.Event) (ha : a.Lefts.length < 1000000000000000) : event.Same a b = some (decide (a = b)) := by
 unfold event.Same
 rw [EqualL_eq _ _ ha]
 obtain ⟨a1, a2, a3, a4, a5, a6, a7⟩ := a
 obtain ⟨b1, b2, b3, b4, b5, b6, b7⟩ := b
 simp only [api.Event.mk.injEq]
 by_cases h1 : a1 = b1 <;> by_cases h2 : a2 = b2 <;> by_cases h3 : a3 = b3 <;> by_cases h4 : a4 = b4 <;> by_cases h5 : a5 = b5 <;> by_cases h6 : a6 = b6 <;> simp [h1, h2, h3, h4, h5, h6]

theorem Same_eq (a b : List api.Event) (hl : a.length < 1000000000000000) (ha : ∀ e, e ∈ a → e.Lefts.length < 1000000000000000) : project.Same a b = some (decide (a = b)) := by
 unfold project.Same slices.EqualFunc_api_Event_event_Same
 by_cases hlen : a.length = b.length
 ·rw [if_pos (by omega)]
  have := whileO_eqs (body := slices.EqualFunc_api_Event_event_Same.body0 a b) (fun i => ⟨(i : Int)⟩) a b hlen (fun i hi hi2 => by
   unfold slices.EqualFunc_api_Event_event_Same.body0
   simp only
   rw [if_pos (by omega), need_eq ⟨by omega, by omega⟩, need_eq ⟨by omega, by omega⟩, ix_get hi, ix_get hi2, i64w (by omega) (by omega), SameE_eq _ _ (ha _ (List.getElem_mem hi)), Option.bind_some]
   by_cases e : a[i] = b[i]
   ·rw [if_pos e, decide_eq_true e, if_neg (by decide)]; rfl
   ·rw [if_neg e, decide_eq_false e, if_pos (by decide)]) (by
   unfold slices.EqualFunc_api_Event_event_Same.body0
   simp only
   rw [if_neg (by omega)])
  unfold slices.EqualFunc_api_Event_event_Same.loop0
  show (((whileO (slices.EqualFunc_api_Event_event_Same.body0 a b) ⟨((0 : Nat) : Int)⟩).bind _).bind _) = _
  rw [this, Option.bind_some]
  by_cases e : a = b
  ·rw [if_pos e, decide_eq_true e]; rfl
  ·rw [if_neg e, decide_eq_false e]; rfl
 ·rw [if_neg (by omega), decide_eq_false (fun e => hlen (by rw [e]))]; rfl

/-! ### Labels -/
/-- The sizes that chapter 49 speaks of. -/
structure PSz (c : api.Config) (l : List api.Event) : Prop where
 nc : c.Tenants.length < 1000000
 nl : l.length < 1000000
 b : lenE l ≤ 1000000
 f : ∀ e, e ∈ l → e.Lefts.length < 1000000
 h : ∀ e, e ∈ l → -9223372036854775808 ≤ e.Handle ∧ e.Handle < 9223372036854775808

noncomputable def labM (c : api.Config) (L : List api.Event) : List api.Event → List (Int × Int) → List (Int × Int)
 | [], m => m
 | e :: r, m => labM c L r (if mpHas m e.Handle = false ∧ e.Kind = 1 then mpIns mkI (e.Handle, ofM c L e.Handle) m else m)

structure LabI (c : api.Config) (L : List api.Event) (pre : List api.Event) (m : List (Int × Int)) : Prop where
 rise : RiseI m
 get : ∀ k, mpGet m k = if opd k pre = true then some (ofM c L k) else none
 len : m.length ≤ pre.length

theorem opd_append (h : Int) (a b : List api.Event) : opd h (a ++ b) = (opd h a || opd h b) := by unfold opd; rw [List.any_append]

theorem LabI.nil (c : api.Config) (L : List api.Event) : LabI c L [] [] := ⟨List.Pairwise.nil, fun k => rfl, Nat.le_refl _⟩

theorem LabI.no {c : api.Config} {L pre : List api.Event} {m : List (Int × Int)} (h : LabI c L pre m) {k : Int} (hk : mpHas m k = false) : opd k pre = false ∧ ∀ p, p ∈ m → p.1 ≠ k := by
 unfold mpHas at hk
 have := h.get k
 rw [Option.isSome_eq_false_iff, Option.isNone_iff_eq_none] at hk
 refine ⟨?_, mpGet_none hk⟩
 rw [hk] at this
 by_cases ho : opd k pre = true
 ·rw [if_pos ho] at this; cases this
 ·simpa using ho

theorem LabI.step {c : api.Config} {L pre : List api.Event} {m : List (Int × Int)} (h : LabI c L pre m) (e : api.Event) :
  LabI c L (pre ++ [e]) (if mpHas m e.Handle = false ∧ e.Kind = 1 then mpIns mkI (e.Handle, ofM c L e.Handle) m else m) := by
 have ho : ∀ k, opd k (pre ++ [e]) = (opd k pre || decide (e.Kind = 1 ∧ e.Handle = k)) := fun k => by rw [opd_append]; simp [opd]
 by_cases c1 : mpHas m e.Handle = false ∧ e.Kind = 1
 ·rw [if_pos c1]
  obtain ⟨n1, n2⟩ := h.no c1.1
  refine ⟨mpIns_rise h.rise n2, fun k => ?_, by rw [mpIns_length, List.length_append]; have := h.len; simp; omega⟩
  rw [mpGet_ins n2, ho, h.get]
  by_cases hk : k = e.Handle
  ·subst hk; simp [c1.2]
  ·have : ¬ (e.Kind = 1 ∧ e.Handle = k) := fun g => hk g.2.symm
   simp [hk, this]
 ·rw [if_neg c1]
  refine ⟨h.rise, fun k => ?_, by rw [List.length_append]; have := h.len; omega⟩
  rw [ho, h.get]
  by_cases hk : e.Kind = 1 ∧ e.Handle = k
  ·have hh : mpHas m e.Handle = true := by
    cases hq : mpHas m e.Handle with
    | true => rfl
    | false => exact absurd ⟨hq, hk.1⟩ c1
   obtain ⟨v, hv⟩ := mpHas_iff.1 hh
   have g := h.get e.Handle
   rw [hv] at g
   rw [← hk.2]
   by_cases hq : opd e.Handle pre = true
   ·simp [hq]
   ·rw [if_neg hq] at g; cases g
  ·simp [hk]

theorem labM_inv {c : api.Config} {L : List api.Event} : ∀ (r pre : List api.Event) (m : List (Int × Int)), LabI c L pre m → LabI c L (pre ++ r) (labM c L r m)
 | [], pre, m, h => by rw [List.append_nil]; exact h
 | e :: r, pre, m, h => by
  have := labM_inv r (pre ++ [e]) _ (h.step e)
  rw [List.append_assoc, List.singleton_append] at this
  exact this

theorem labM_all (c : api.Config) (L : List api.Event) : LabI c L L (labM c L L []) := by
 have := labM_inv (c := c) (L := L) L [] [] (LabI.nil c L)
 simpa using this

theorem mkI_wf {n : Int} (h : -9223372036854775808 ≤ n ∧ n < 9223372036854775808) : mkI.wf n = true := by
 show (Lit.int .i64 n).wf = true
 simp [Lit.wf, IntKind.min, IntKind.max, IntKind.bits, IntKind.signed]
 omega

theorem labels_go {c : api.Config} {l : List api.Event} (hz : PSz c l) : ∀ (rest pre : List api.Event) (m : List (Int × Int)), l = pre ++ rest → LabI c l pre m →
  project.labels.loop0 l c ⟨(pre.length : Int), m⟩ = some (labM c l rest m) := by
 intro rest
 have hcl := hz.nl
 have hcc := hz.nc
 induction rest with
 | nil =>
  intro pre m e _
  rw [List.append_nil] at e
  unfold project.labels.loop0
  apply whileO_end
  unfold project.labels.body0
  simp only
  rw [if_neg (by rw [e]; omega)]
  rfl
 | cons e rest ih =>
  intro pre m he hi
  have hj : pre.length < l.length := by rw [he]; simp
  have hx : l[pre.length] = e := by simp [he]
  have hm : e ∈ l := by rw [he]; simp
  have hw := mkI_wf (hz.h e hm)
  have hlen := hi.len
  have hbody : project.labels.body0 l c ⟨(pre.length : Int), m⟩ = some (.inl ⟨((pre ++ [e]).length : Int), if mpHas m e.Handle = false ∧ e.Kind = 1 then mpIns mkI (e.Handle, ofM c l e.Handle) m else m⟩) := by
   unfold project.labels.body0
   simp only
   rw [if_pos (by omega), need_eq ⟨by omega, by omega⟩, ix_get hj, hx, need_eq hw, i64w (by omega) (by omega), show ((pre ++ [e]).length : Int) = (pre.length : Int) + 1 by simp]
   unfold letO
   by_cases c1 : mpHas m e.Handle = false ∧ e.Kind = 1
   ·rw [if_pos c1]
    have n2 := (hi.no c1.1).2
    have hp : mpPut mkI m e.Handle (ofM c l e.Handle) = mpIns mkI (e.Handle, ofM c l e.Handle) m := by
     unfold mpPut
     rw [mpDel_none]
     have h1 := c1.1
     unfold mpHas at h1
     rwa [Option.isSome_eq_false_iff, Option.isNone_iff_eq_none] at h1
    simp only [c1.1, c1.2, Bool.not_false, if_true, decide_true]
    rw [Of_eq (by omega) (by omega) hz.b, Option.bind_some, need_eq ⟨hw, by unfold maxLen; omega⟩, hp, Option.bind_some]
   ·rw [if_neg c1]
    have : (if (!mpHas m e.Handle) = true then decide (e.Kind = 1) else false) = false := by
     cases hq : mpHas m e.Handle with
     | true => simp
     | false => simp; exact fun g => c1 ⟨hq, g⟩
    rw [this]
    dsimp only
    rw [if_neg (by decide), Option.bind_some]
  have := ih (pre ++ [e]) _ (by rw [he]; simp) (hi.step e)
  unfold project.labels.loop0 at this ⊢
  rw [whileO_st hbody, this]
  rfl

theorem labels_eq {c : api.Config} {l : List api.Event} (hz : PSz c l) : project.labels c l = some (labM c l l []) := by
 unfold project.labels
 have := labels_go hz l [] [] rfl (LabI.nil c l)
 show (project.labels.loop0 l c ⟨(([] : List api.Event).length : Int), []⟩).bind _ = _
 rw [this]; rfl

def labA (p : Int × Int) : api.Label := { Handle := p.1, Tenant := p.2 }

theorem Labels_of {c : api.Config} {l : List api.Event} {m : List (Int × Int)} (hm : project.labels c l = some m) (hr : RiseI m) (hlen : m.length < 1000000) (hw : ∀ p, p ∈ m → mkI.wf p.1 = true) : project.Labels c l = some (m.map labA) := by
 unfold project.Labels
 rw [hm, Option.bind_some]
 rw [need_eq (by omega)]
 have hs := sorted_rise hr
 have : project.Labels.loop0 m ⟨([] : List api.Label), 0⟩ = some (m.map labA) := by
  unfold project.Labels.loop0
  have := whileO_known (body := project.Labels.body0 m) (fun i => ⟨(m.take i).map labA, (i : Int)⟩) m.length (r := m.map labA) (fun i hi => by
   unfold project.Labels.body0
   simp only
   rw [hs, List.length_map, if_pos (by omega), need_eq ⟨by omega, by omega⟩]
   have hx : ix (m.map Prod.fst) (i : Int) = m[i].1 := by rw [ix_get (by rw [List.length_map]; exact hi)]; simp
   have hm : m[i] ∈ m := List.getElem_mem hi
   have hg := mpGet_at hr hm
   rw [hx, need_eq (hw _ hm), hg, need_eq (by simp; omega), i64w (by omega) (by omega), Option.getD_some, List.take_add_one, List.getElem?_eq_getElem hi, List.map_append]
   rfl) (by
   unfold project.Labels.body0
   simp only
   rw [hs, List.length_map, if_neg (by omega), List.take_length])
  exact this
 rw [this]; rfl

theorem LabI.mem {c : api.Config} {L pre : List api.Event} {m : List (Int × Int)} (h : LabI c L pre m) {p : Int × Int} (hp : p ∈ m) : opd p.1 pre = true ∧ p.2 = ofM c L p.1 := by
 have hg := mpGet_at h.rise hp
 have := h.get p.1
 rw [hg] at this
 by_cases ho : opd p.1 pre = true
 ·rw [if_pos ho] at this; exact ⟨ho, Option.some.inj this⟩
 ·rw [if_neg ho] at this; cases this

theorem opd_mem {h : Int} {l : List api.Event} (ho : opd h l = true) : ∃ e, e ∈ l ∧ e.Kind = 1 ∧ e.Handle = h := by
 unfold opd at ho
 obtain ⟨e, he, h1⟩ := List.any_eq_true.1 ho
 exact ⟨e, he, of_decide_eq_true h1⟩

theorem Labels_eq {c : api.Config} {l : List api.Event} (hz : PSz c l) : project.Labels c l = some ((labM c l l []).map labA) := by
 have hI := labM_all c l
 have hlen := hI.len
 have hcl := hz.nl
 refine Labels_of (labels_eq hz) hI.rise (by omega) fun p hp => ?_
 obtain ⟨e, he, h1, h2⟩ := opd_mem (hI.mem hp).1
 have := hz.h e he
 rw [h2] at this
 exact mkI_wf this

/-! ### What is a tenant's -/
def ownL (c : api.Config) (i : Int) (x : api.Left) : Bool := decide (x.Tenant = i ∧ 0 ≤ i ∧ i < (c.Tenants.length : Int))
noncomputable def keepM (c : api.Config) (L : List api.Event) (i : Int) (e : api.Event) : Option api.Event :=
 if e.Kind = 1 ∨ e.Kind = 2 ∨ e.Kind = 3 ∨ e.Kind = 4 then (if 0 ≤ i ∧ ofM c L e.Handle = i then some e else none)
 else if e.Kind = 5 ∨ e.Kind = 6 then some e
 else if e.Kind = 7 then (if e.Tenant = i ∧ 0 ≤ i ∧ i < (c.Tenants.length : Int) then some e else none)
 else if e.Kind = 8 then some { e with Lefts := e.Lefts.filter (ownL c i) }
 else none
noncomputable def tenM (c : api.Config) (L : List api.Event) (i : Int) : List api.Event := L.filterMap (keepM c L i)

theorem Ten1_eq {c : api.Config} {l : List api.Event} (h i : Int) (hh : -9223372036854775808 ≤ h ∧ h < 9223372036854775808) : project.Tenant_1 h i (labM c l l []) = some (decide (0 ≤ i ∧ ofM c l h = i)) := by
 have hI := labM_all c l
 unfold project.Tenant_1
 rw [need_eq (mkI_wf hh)]
 unfold letO mpHas
 rw [hI.get]
 congr 1
 by_cases ho : opd h l = true
 ·simp only [if_pos ho, Option.isSome_some, if_true, Option.getD_some]
  by_cases h1 : ofM c l h = i
  ·simp [h1]
  ·simp [h1]
 ·simp only [if_neg ho, Option.isSome_none, Bool.false_eq_true, if_false]
  rw [ofM_no (by simpa using ho)]
  symm
  apply decide_eq_false
  rintro ⟨h1, h2⟩
  omega

theorem Ten2_eq (x : api.Left) (i : Int) (c : api.Config) : project.Tenant_2 x i c = some (!ownL c i x) := by
 unfold project.Tenant_2 letO ownL
 congr 1
 by_cases h1 : x.Tenant = i <;> by_cases h2 : i < 0 <;> by_cases h3 : (c.Tenants.length : Int) ≤ i <;> simp [h1, h2, h3] <;> omega

theorem idxF_casesP {α : Type} (p : α → Bool) : ∀ (l : List α) (j : Nat), (idxF p l j = none ∧ ∀ x, x ∈ l → p x = false) ∨ ∃ a x b, l = a ++ x :: b ∧ idxF p l j = some (j + a.length) ∧ p x = true ∧ ∀ y, y ∈ a → p y = false
 | [], j => .inl ⟨rfl, fun x hx => by cases hx⟩
 | x :: l, j => by
  by_cases h : p x = true
  ·exact .inr ⟨[], x, l, rfl, by simp [idxF, h], h, fun y hy => by cases hy⟩
  ·have h' : p x = false := by simpa using h
   rcases idxF_casesP p l (j + 1) with ⟨h1, h2⟩ | ⟨a, y, b, h1, h2, h3, h4⟩
   ·exact .inl ⟨by simp [idxF, h', h1], fun y hy => (List.mem_cons.1 hy).elim (fun e => e ▸ h') (h2 y)⟩
   ·exact .inr ⟨x :: a, y, b, by rw [h1]; rfl, by simp [idxF, h', h2]; omega, h3, fun z hz => (List.mem_cons.1 hz).elim (fun e => e ▸ h') (h4 z)⟩

theorem clr_tk {α : Type} (xs : List α) (lo hi : Nat) (z : α) (h : lo ≤ xs.length) : (clrL xs lo hi z).take lo = xs.take lo := by
 unfold clrL
 rw [List.append_assoc, List.take_append_of_le_length (by rw [List.length_take]; omega), List.take_take, Nat.min_self]

theorem IndexL_eq {l : List api.Left} (h : l.length < 1000000000) (i : Int) (c : api.Config) : slices.IndexFunc_api_Left_v_project_Tenant_2 l i c = some (match idxF (fun x => !ownL c i x) l 0 with | some k => (k : Int) | none => -1) := by
 have h1 : slices.IndexFunc_api_Left_v_project_Tenant_2.loop0 l i c ⟨0⟩ = some (match idxF (fun x => !ownL c i x) l 0 with | some i => .inr (i : Int) | none => .inl ()) := by
  unfold slices.IndexFunc_api_Left_v_project_Tenant_2.loop0
  refine whileO_idxE (σ := slices.IndexFunc_api_Left_v_project_Tenant_2.S0) (ρ := Unit ⊕ Int) _ (fun i => ⟨(i : Int)⟩) l (fun x => !ownL c i x) (fun i => .inr (i : Int)) (.inl ()) (fun k hk => ?_) ?_
  ·unfold slices.IndexFunc_api_Left_v_project_Tenant_2.body0
   simp only
   rw [if_pos (by omega), need_eq ⟨by omega, by omega⟩, need_eq ⟨by omega, by omega⟩, ix_get hk, Ten2_eq, Option.bind_some, i64w (by omega) (by omega), show (k : Int) + 1 = ((k + 1 : Nat) : Int) by omega]
   split <;> rfl
  ·unfold slices.IndexFunc_api_Left_v_project_Tenant_2.body0
   exact if_neg (by show ¬ (l.length : Int) < (l.length : Int); omega)
 unfold slices.IndexFunc_api_Left_v_project_Tenant_2
 rw [h1, Option.bind_some]
 cases idxF (fun x => !ownL c i x) l 0 <;> rfl

theorem DelL_loop {c : api.Config} {q : Int} (l : List api.Left) (h : l.length < 1000000000) : ∀ (m i j : Nat) (v : List api.Left), j + m = l.length → i ≤ j → v.length = l.length → v.take i = (l.take j).filter (ownL c q) → v.drop j = l.drop j →
  ∃ (i' : Nat) (v' : List api.Left), slices.DeleteFunc_api_Left_v_project_Tenant_2.loop0 q c ⟨(i : Int), (j : Int), v⟩ = some ((i' : Int), v') ∧ i' ≤ l.length ∧ v'.length = l.length ∧ v'.take i' = l.filter (ownL c q) := by
 intro m
 induction m with
 | zero =>
  intro i j v hj hij hv h1 h2
  obtain rfl : j = l.length := by omega
  refine ⟨i, v, ?_, hij, hv, by rw [h1, List.take_length]⟩
  unfold slices.DeleteFunc_api_Left_v_project_Tenant_2.loop0
  refine whileO_end ?_
  unfold slices.DeleteFunc_api_Left_v_project_Tenant_2.body0
  exact if_neg (by show ¬ (l.length : Int) < (v.length : Int); omega)
 | succ m ih =>
  intro i j v hj hij hv h1 h2
  have hjl : j < l.length := by omega
  have hjv : j < v.length := by omega
  have hil : i < v.length := by omega
  have hvj : v[j] = l[j] := by
   have h3 := congrArg (fun x => x[0]?) h2
   simp only [List.getElem?_drop, Nat.add_zero, List.getElem?_eq_getElem hjv, List.getElem?_eq_getElem hjl] at h3
   exact Option.some.inj h3
  have hin : InB (j : Int) v.length := ⟨by omega, by omega⟩
  have hin2 : InB (i : Int) v.length := ⟨by omega, by omega⟩
  have htk : (l.take (j + 1)).filter (ownL c q) = (l.take j).filter (ownL c q) ++ [l[j]].filter (ownL c q) := by
   rw [List.take_add_one, List.getElem?_eq_getElem hjl, ← List.filter_append]; rfl
  have hdr : v.drop (j + 1) = l.drop (j + 1) := by rw [← List.drop_drop, ← List.drop_drop, h2]
  by_cases hq : ownL c q l[j] = true
  ·have hset : (v.set i l[j]).take (i + 1) = (l.take (j + 1)).filter (ownL c q) := by
    rw [htk, ← h1, List.take_add_one, List.getElem?_set_self hil, List.take_set_of_le (Nat.le_refl _)]
    simp [hq]
   obtain ⟨i', v', e, h3⟩ := ih (i + 1) (j + 1) (v.set i l[j]) (by omega) (by omega) (by rw [List.length_set]; exact hv) hset (by rw [List.drop_set_of_lt (by omega), hdr])
   refine ⟨i', v', ?_, h3⟩
   rw [← e]
   unfold slices.DeleteFunc_api_Left_v_project_Tenant_2.loop0
   refine whileO_st ?_
   unfold slices.DeleteFunc_api_Left_v_project_Tenant_2.body0
   show (if (j : Int) < (v.length : Int) then _ else _) = _
   rw [if_pos (by omega), need_eq hin, need_eq hin]
   show ((project.Tenant_2 (ix v (j : Int)) q c).bind _).bind _ = _
   rw [ix_get hjv, hvj, Ten2_eq, Option.bind_some, hq, if_pos (by decide), need_eq hin2, need_eq hin2, Option.bind_some]
   show some (Sum.inl (⟨IntKind.wrap .i64 ((i : Int) + 1), IntKind.wrap .i64 ((j : Int) + 1), upd v (i : Int) l[j]⟩ : slices.DeleteFunc_api_Left_v_project_Tenant_2.S0)) = _
   rw [i64w (by omega) (by omega), i64w (by omega) (by omega)]
   rfl
  ·have hq' : ownL c q l[j] = false := by simpa using hq
   obtain ⟨i', v', e, h3⟩ := ih i (j + 1) v (by omega) (by omega) hv (by rw [htk, h1]; simp [hq']) hdr
   refine ⟨i', v', ?_, h3⟩
   rw [← e]
   unfold slices.DeleteFunc_api_Left_v_project_Tenant_2.loop0
   refine whileO_st ?_
   unfold slices.DeleteFunc_api_Left_v_project_Tenant_2.body0
   show (if (j : Int) < (v.length : Int) then _ else _) = _
   rw [if_pos (by omega), need_eq hin, need_eq hin]
   show ((project.Tenant_2 (ix v (j : Int)) q c).bind _).bind _ = _
   rw [ix_get hjv, hvj, Ten2_eq, Option.bind_some, hq', if_neg (by decide), Option.bind_some]
   show some (Sum.inl (⟨(i : Int), IntKind.wrap .i64 ((j : Int) + 1), v⟩ : slices.DeleteFunc_api_Left_v_project_Tenant_2.S0)) = _
   rw [i64w (by omega) (by omega)]
   rfl

theorem DelL_eq {l : List api.Left} (h : l.length < 1000000000) (q : Int) (c : api.Config) : slices.DeleteFunc_api_Left_v_project_Tenant_2 l q c = some (l.filter (ownL c q)) := by
 unfold slices.DeleteFunc_api_Left_v_project_Tenant_2
 rw [IndexL_eq h, Option.bind_some]
 rcases idxF_casesP (fun x => !ownL c q x) l 0 with ⟨h1, h2⟩ | ⟨a, x, b, h1, h2, h3, h4⟩
 ·rw [h1, if_pos rfl, List.filter_eq_self.2 fun x hx => by simpa using h2 x hx]
 ·have hal : a.length < l.length := by
   have := congrArg List.length h1
   simp only [List.length_append, List.length_cons] at this
   omega
  rw [h2]
  simp only [Nat.zero_add]
  rw [if_neg (by omega), i64w (by omega) (by omega)]
  have ht1 : l.take (a.length + 1) = a ++ [x] := by rw [h1, show a ++ x :: b = (a ++ [x]) ++ b by simp, List.take_left' (by simp)]
  have ht0 : l.take a.length = a := by rw [h1]; simp
  obtain ⟨i', v', e, h5, h6, h7⟩ := DelL_loop (c := c) (q := q) l h (l.length - (a.length + 1)) a.length (a.length + 1) l (by omega) (by omega) rfl (by
   have h3' : ownL c q x = false := by simpa using h3
   have hx : List.filter (ownL c q) [x] = [] := by simp [h3']
   rw [ht0, ht1, List.filter_append, List.filter_eq_self.2 (fun y hy => by simpa using h4 y hy), hx, List.append_nil]) rfl
  rw [show ((a.length : Int) + 1) = ((a.length + 1 : Nat) : Int) by omega, e, Option.bind_some]
  dsimp only
  have hc : ∀ z, (clrL v' (Int.toNat (i' : Int)) (Int.toNat (v'.length : Int)) z).length = v'.length := fun z => clrL_length (by omega) (by omega)
  rw [need_eq ⟨by omega, by omega, by omega⟩, need_eq ⟨by omega, by omega, by omega⟩, need_eq ⟨by omega, by omega, by rw [hc]; omega⟩, need_eq (by rw [hc]; omega), Int.toNat_natCast, clr_tk _ _ _ _ (by omega), h7]

theorem Tenant_go {c : api.Config} {l : List api.Event} (hz : PSz c l) (i : Int) : ∀ (rest pre : List api.Event) (out : List api.Event), l = pre ++ rest → out.length ≤ pre.length →
  project.Tenant.loop0 l i (labM c l l []) c ⟨out, (pre.length : Int)⟩ = some (out ++ rest.filterMap (keepM c l i)) := by
 intro rest
 have hcl := hz.nl
 have hcc := hz.nc
 induction rest with
 | nil =>
  intro pre m e _
  rw [List.append_nil] at e
  unfold project.Tenant.loop0
  apply whileO_end
  unfold project.Tenant.body0
  simp only
  rw [if_neg (by rw [e]; omega)]
  simp
 | cons e rest ih =>
  intro pre out he ho
  have hj : pre.length < l.length := by rw [he]; simp
  have hx : l[pre.length] = e := by simp [he]
  have hm : e ∈ l := by rw [he]; simp
  have hw := hz.h e hm
  have hf := hz.f e hm
  have hb : project.Tenant.body0 l i (labM c l l []) c ⟨out, (pre.length : Int)⟩ = some (.inl ⟨(match keepM c l i e with | some x => out ++ [x] | none => out), ((pre ++ [e]).length : Int)⟩) := by
   unfold project.Tenant.body0
   simp only
   rw [if_pos (by omega), need_eq ⟨by omega, by omega⟩, ix_get hj, hx, i64w (by omega) (by omega), show ((pre ++ [e]).length : Int) = (pre.length : Int) + 1 by simp]
   have hn : ∀ z : api.Event, (out.length + [z].length) * 104 ≤ 140737488355328 := fun z => by simp; omega
   rw [Ten1_eq _ _ hw]
   have hcl : slices.Clone_api_Left e.Lefts = some e.Lefts := by unfold slices.Clone_api_Left; rw [need_eq (by simp; omega)]
   rw [hcl]
   unfold letO keepM
   by_cases k4 : e.Kind = 1 ∨ e.Kind = 2 ∨ e.Kind = 3 ∨ e.Kind = 4
   ·rw [if_pos k4]
    have q : (if e.Kind = 1 then decide (e.Kind = 1) else if e.Kind = 2 then decide (e.Kind = 2) else if e.Kind = 3 then decide (e.Kind = 3) else decide (e.Kind = 4)) = true := by
     rcases k4 with k | k | k | k <;> simp [k]
    rw [q]
    dsimp only
    rw [if_pos rfl, Option.bind_some, Option.bind_some]
    by_cases g : 0 ≤ i ∧ ofM c l e.Handle = i
    ·rw [decide_eq_true g, if_pos g]
     simp only [if_true]
     rw [need_eq (hn _)]
     rfl
    ·rw [decide_eq_false g, if_neg g]
     rfl
   ·rw [if_neg k4]
    have q : (if e.Kind = 1 then decide (e.Kind = 1) else if e.Kind = 2 then decide (e.Kind = 2) else if e.Kind = 3 then decide (e.Kind = 3) else decide (e.Kind = 4)) = false := by
     simp only [not_or] at k4
     simp [k4.1, k4.2.1, k4.2.2.1, k4.2.2.2]
    rw [q]
    dsimp only
    rw [if_neg (by decide)]
    by_cases k6 : e.Kind = 5 ∨ e.Kind = 6
    ·rw [if_pos k6]
     have q : (if e.Kind = 5 then decide (e.Kind = 5) else decide (e.Kind = 6)) = true := by rcases k6 with k | k <;> simp [k]
     rw [q]
     dsimp only
     rw [if_pos rfl, Option.bind_some]
     simp only [if_true]
     rw [need_eq (hn _)]
     rfl
    ·rw [if_neg k6]
     have q : (if e.Kind = 5 then decide (e.Kind = 5) else decide (e.Kind = 6)) = false := by
      simp only [not_or] at k6
      simp [k6.1, k6.2]
     rw [q, if_neg (by decide)]
     by_cases k7 : e.Kind = 7
     ·rw [if_pos k7, if_pos k7]
      by_cases g1 : e.Tenant = i
      ·by_cases g2 : 0 ≤ i
       ·by_cases g3 : i < (c.Tenants.length : Int)
        ·rw [if_pos g1, if_pos g2, Option.bind_some, decide_eq_true g3, if_pos (show (e.Tenant = i ∧ 0 ≤ i ∧ i < (c.Tenants.length : Int)) from ⟨g1, g2, g3⟩)]
         simp only [if_true]
         rw [need_eq (hn _)]
         rfl
        ·rw [if_pos g1, if_pos g2, Option.bind_some, decide_eq_false g3, if_neg (show ¬ (e.Tenant = i ∧ 0 ≤ i ∧ i < (c.Tenants.length : Int)) from fun g => g3 g.2.2)]
         rfl
       ·rw [if_pos g1, if_neg g2, if_neg (show ¬ (e.Tenant = i ∧ 0 ≤ i ∧ i < (c.Tenants.length : Int)) from fun g => g2 g.2.1)]
        rfl
      ·rw [if_neg g1, if_neg (show ¬ (e.Tenant = i ∧ 0 ≤ i ∧ i < (c.Tenants.length : Int)) from fun g => g1 g.1)]
       rfl
     ·rw [if_neg k7, if_neg k7]
      by_cases k8 : e.Kind = 8
      ·rw [if_pos k8, if_pos k8, Option.bind_some, DelL_eq (by omega), Option.bind_some, Option.bind_some]
       simp only [if_true]
       rw [need_eq (hn _)]
       rfl
      ·rw [if_neg k8, if_neg k8]
       rfl
  have hlen : (match keepM c l i e with | some x => out ++ [x] | none => out).length ≤ (pre ++ [e]).length := by
   rw [List.length_append]
   cases keepM c l i e with
   | none => simp; omega
   | some x => simp; omega
  have := ih (pre ++ [e]) _ (by rw [he]; simp) hlen
  unfold project.Tenant.loop0 at this ⊢
  rw [whileO_st hb, this, List.filterMap_cons]
  cases keepM c l i e <;> simp

theorem Tenant_eq {c : api.Config} {l : List api.Event} (hz : PSz c l) (i : Int) : project.Tenant c l i = some (tenM c l i) := by
 unfold project.Tenant
 rw [labels_eq hz, Option.bind_some]
 have := Tenant_go hz i l [] [] rfl (Nat.le_refl _)
 show (project.Tenant.loop0 l i (labM c l l []) c ⟨[], (([] : List api.Event).length : Int)⟩).bind _ = _
 rw [this]; rfl
end Go.Pu

set_option maxHeartbeats 0
set_option maxRecDepth 100000
namespace Go.Pu
open Go.Lift

def f0 : api.Fault := ⟨[], 0, 0⟩
def tA : api.Tenant := { Name := [97], Token := [115], Memory := 5000, Policy := 0, Conns := 3, In := 1000, Out := 1000, Burst := 50, Rate := 1, Disk := 5000, Sync := 1, Limits := ({ Args := 9, Bulk := 99, Line := 99 } : api.Limits) }
def cfgA : api.Config := { Tenants := [tA, { tA with Name := [98], Token := [116], Sync := 3 }], Quantum := 2, Deadline := 100 }
def evA : List api.Event := [⟨1, 7, [], 0, 0, f0, []⟩, ⟨1, 8, [], 0, 0, f0, []⟩, ⟨2, 7, [65, 85, 84, 72, 32, 115, 10], 0, 0, f0, []⟩, ⟨2, 8, [65, 85, 84, 72, 32, 116, 10], 0, 0, f0, []⟩, ⟨6, 0, [], 0, 0, f0, []⟩]
theorem szA : PSz cfgA evA := ⟨by decide, by decide, by decide, by decide, by decide⟩
theorem alive49 : mewslaw49.alive = some true := by
 have e : mewslaw49.alive = ((project.Of cfgA evA 8).bind fun r44 => if r44 = 1 then (project.Labels cfgA evA).bind fun r46 => if (r46.length : Int) = 2 then (project.Tenant cfgA evA 0).bind fun r49 =>
   need (InB 0 evA.length) <| need (InB 2 evA.length) <| need (InB 4 evA.length) <| (project.Same r49 [ix evA 0, ix evA 2, ix evA 4]).bind fun r54 => some r54 else some false else some false).bind fun s41 => some s41 := rfl
 have h1 : ofM cfgA evA 8 = 1 := by decide +kernel
 have h2 : ((((labM cfgA evA evA []).map labA).length : Nat) : Int) = 2 := by decide +kernel
 have h3 : tenM cfgA evA 0 = [ix evA 0, ix evA 2, ix evA 4] := by decide +kernel
 rw [e, Of_eq (by decide) (by decide) (by decide), Option.bind_some, h1, if_pos rfl, Labels_eq szA, Option.bind_some, if_pos h2, Tenant_eq szA, Option.bind_some, need_eq (by decide), need_eq (by decide), need_eq (by decide), h3, Same_eq _ _ (by decide) (by decide), Option.bind_some]
 rfl

theorem keepM_same {c : api.Config} {L : List api.Event} {i : Int} {e e' : api.Event} (h : keepM c L i e = some e') : e'.Kind = e.Kind ∧ e'.Handle = e.Handle ∧ e'.S = e.S ∧ e'.Lefts.length ≤ e.Lefts.length := by
 unfold keepM at h
 repeat' split at h
 all_goals first
  | cases h; done
  | (injection h with h; subst h; exact ⟨rfl, rfl, rfl, Nat.le_refl _⟩)
  | (injection h with h; subst h; exact ⟨rfl, rfl, rfl, List.length_filter_le _ _⟩)

theorem lenE_keep {c : api.Config} {L : List api.Event} {i : Int} : ∀ l : List api.Event, lenE (l.filterMap (keepM c L i)) ≤ lenE l
 | [] => Nat.le_refl _
 | e :: l => by
  have ih := lenE_keep (c := c) (L := L) (i := i) l
  rw [List.filterMap_cons]
  cases hk : keepM c L i e with
  | none => simp only [lenE]; omega
  | some e' =>
   obtain ⟨_, _, h3, _⟩ := keepM_same hk
   simp only [lenE, h3]; omega

theorem PSz.keep {c : api.Config} {l : List api.Event} (hz : PSz c l) (i : Int) : PSz c (tenM c l i) := by
 refine ⟨hz.nc, Nat.lt_of_le_of_lt (List.length_filterMap_le _ _) hz.nl, Nat.le_trans (lenE_keep l) hz.b, fun e he => ?_, fun e he => ?_⟩
 ·obtain ⟨e0, h0, hk⟩ := List.mem_filterMap.1 he
  exact Nat.lt_of_le_of_lt (keepM_same hk).2.2.2 (hz.f e0 h0)
 ·obtain ⟨e0, h0, hk⟩ := List.mem_filterMap.1 he
  rw [(keepM_same hk).2.1]
  exact hz.h e0 h0

theorem PSz.of {c : api.Config} {l : List api.Event} (h0 : api.Config.wf c) (h1 : l.length * 104 ≤ 140737488351232 ∧ ∀ y0, y0 ∈ l → api.Event.wf y0) :
  ∃ b, mewslaw46.Far c l = some b ∧ (b = false → PSz c l ∧ lenE l ≤ 1500 ∧ l.length ≤ 120 ∧ c.Tenants.length ≤ 4) := by
 have hc : c.Tenants.length * 128 ≤ 140737488351232 := h0.1.1
 have hw : ∀ e, e ∈ l → e.Lefts.length * 32 ≤ 140737488351232 := fun e he => (h1.2 e he).2.2.2.2.2.2.1.1
 obtain ⟨b, hb, h⟩ := Far46_eq c l (by omega) (by omega) (fun e he => by have := hw e he; omega)
 refine ⟨b, hb, fun hf => ?_⟩
 obtain ⟨g1, g2, g3, g4⟩ := h hf
 exact ⟨⟨by omega, by omega, by omega, fun e he => by have := g4 e he; omega, fun e he => wfi64 (h1.2 e he).2.1⟩, g1, g2, g3⟩

end Go.Pu
