import Derived.Test.YtakmcdnailmhlaaPTPuPrj2
import Derived.Test.YtakmcdnailmhlaaPTC
set_option maxHeartbeats 0
set_option maxRecDepth 100000
namespace Go.Pu
open Go.Lift

def f0 : api.Fault := ⟨[], 0, 0⟩
theorem alive49 : mewslaw49.alive = some true := by
 unfold mewslaw49.alive
 rw [show mewslaw46.Some = some _ from rfl, Option.bind_some]
 rw [show project.Of _ _ 8 = some 1 from project.Of.c_le 100 _ _ _ 1 (by decide +kernel), Option.bind_some, if_pos rfl]
 rw [show project.Labels _ _ = some [labA (7, 0), labA (8, 1)] from Labels_of (m := [(7, 0), (8, 1)]) (project.labels.c_le 100 _ _ _ (by decide +kernel)) (by unfold RiseI; decide) (by decide) (by intro p hp; simp only [List.mem_cons, List.not_mem_nil, or_false] at hp; rcases hp with rfl | rfl <;> decide), Option.bind_some, if_pos (show (([labA (7, 0), labA (8, 1)].length : Nat) : Int) = 2 from rfl)]
 rw [show project.Tenant _ _ 0 = some [(⟨1, 7, [], 0, 0, f0, []⟩ : api.Event), ⟨2, 7, [65, 85, 84, 72, 32, 115, 10], 0, 0, f0, []⟩, ⟨6, 0, [], 0, 0, f0, []⟩] from project.Tenant.c_le 100 _ _ _ _ (by decide +kernel), Option.bind_some]
 rw [need_eq (by decide), need_eq (by decide), need_eq (by decide)]
 rw [show project.Same _ _ = some true from project.Same.c_le 100 _ _ _ (by decide +kernel)]
 rfl

theorem keepM_same {c : api.Config} {L : List api.Event} {i : Int} {e e' : api.Event} (h : keepM c L i e = some e') : e'.Kind = e.Kind ∧ e'.Handle = e.Handle ∧ e'.S = e.S ∧ e'.Lefts.length ≤ e.Lefts.length := by
 unfold keepM at h
 repeat' split at h
 all_goals first
  | cases h; done
  | (injection h with h; subst h; exact ⟨rfl, rfl, rfl, Nat.le_refl _⟩)
  | (injection h with h; subst h; exact ⟨rfl, rfl, rfl, List.length_filter_le _ _⟩)

/-- What a tenant's own connection sends is kept. -/
theorem byF_keep {c : api.Config} {L : List api.Event} {i h : Int} (hi : 0 ≤ i ∧ ofM c L h = i) : ∀ (l : List api.Event) (o : Bool), byF h o (l.filterMap (keepM c L i)) = byF h o l
 | [], o => rfl
 | e :: l, o => by
  have ih := byF_keep hi l
  rw [List.filterMap_cons]
  cases hk : keepM c L i e with
  | some e' =>
   obtain ⟨h1, h2, h3, _⟩ := keepM_same hk
   simp only [byF, h1, h2, h3, ih]
  | none =>
   simp only
   rw [ih]
   have hx : e.Kind ≠ 8 ∧ ((e.Kind = 1 ∨ e.Kind = 2 ∨ e.Kind = 4) → e.Handle ≠ h) := by
    unfold keepM at hk
    by_cases k4 : e.Kind = 1 ∨ e.Kind = 2 ∨ e.Kind = 3 ∨ e.Kind = 4
    ·rw [if_pos k4] at hk
     refine ⟨by omega, fun _ hh => ?_⟩
     rw [hh, if_pos hi] at hk
     cases hk
    ·refine ⟨fun k8 => ?_, fun g => absurd (by omega) k4⟩
     rw [if_neg k4, if_neg (by omega), if_neg (by omega), if_pos k8] at hk
     cases hk
   obtain ⟨x1, x2⟩ := hx
   simp only [byF]
   rw [if_neg (fun g => g.2.elim x1 (fun g => x2 (.inr (.inr g.1)) g.2)), if_neg (fun g => x2 (.inl g.1) g.2), if_neg (fun g => x2 (.inr (.inl g.2.1)) g.2.2)]

theorem ofM_keep {c : api.Config} {L : List api.Event} {i h : Int} (hi : 0 ≤ i ∧ ofM c L h = i) : ofM c (tenM c L i) h = i := by
 have : ofM c (tenM c L i) h = ofM c L h := by unfold ofM tenM; rw [byF_keep hi]
 rw [this, hi.2]

theorem tenM_again (c : api.Config) (L : List api.Event) (i : Int) : tenM c (tenM c L i) i = tenM c L i := by
 have key : ∀ e e', keepM c L i e = some e' → keepM c (tenM c L i) i e' = some e' := by
  intro e e' h
  obtain ⟨h1, h2, _, _⟩ := keepM_same h
  unfold keepM at h ⊢
  rw [h1, h2]
  by_cases k4 : e.Kind = 1 ∨ e.Kind = 2 ∨ e.Kind = 3 ∨ e.Kind = 4
  ·rw [if_pos k4] at h ⊢
   by_cases g : 0 ≤ i ∧ ofM c L e.Handle = i
   ·rw [if_pos ⟨g.1, ofM_keep g⟩]
   ·rw [if_neg g] at h; cases h
  ·rw [if_neg k4] at h ⊢
   by_cases k6 : e.Kind = 5 ∨ e.Kind = 6
   ·rw [if_pos k6]
   ·rw [if_neg k6] at h ⊢
    by_cases k7 : e.Kind = 7
    ·rw [if_pos k7] at h ⊢
     split at h
     ·rename_i g
      injection h with h; subst h
      rw [if_pos g]
     ·cases h
    ·rw [if_neg k7] at h ⊢
     by_cases k8 : e.Kind = 8
     ·rw [if_pos k8] at h ⊢
      injection h with h; subst h
      simp only [List.filter_filter, Bool.and_self]
     ·rw [if_neg k8] at h; cases h
 show (L.filterMap (keepM c L i)).filterMap (keepM c (tenM c L i) i) = L.filterMap (keepM c L i)
 rw [List.filterMap_filterMap]
 congr 1
 funext e
 cases hk : keepM c L i e with
 | none => rfl
 | some e' => exact key e e' hk

theorem lenE_keep {c : api.Config} {L : List api.Event} {i : Int} : ∀ l : List api.Event, lenE (l.filterMap (keepM c L i)) ≤ lenE l
 | [] => Nat.le_refl _
 | e :: l => by
  have ih := lenE_keep (c := c) (L := L) (i := i) l
  rw [List.filterMap_cons]
  cases hk : keepM c L i e with
  | none => simp only [lenE]; omega
  | some e' =>
   obtain ⟨_, _, h3, _⟩ := keepM_same hk
   simp only [lenE, h3]; omega

theorem PSz.keep {c : api.Config} {l : List api.Event} (hz : PSz c l) (i : Int) : PSz c (tenM c l i) := by
 refine ⟨hz.nc, Nat.lt_of_le_of_lt (List.length_filterMap_le _ _) hz.nl, Nat.le_trans (lenE_keep l) hz.b, fun e he => ?_, fun e he => ?_⟩
 ·obtain ⟨e0, h0, hk⟩ := List.mem_filterMap.1 he
  exact Nat.lt_of_le_of_lt (keepM_same hk).2.2.2 (hz.f e0 h0)
 ·obtain ⟨e0, h0, hk⟩ := List.mem_filterMap.1 he
  rw [(keepM_same hk).2.1]
  exact hz.h e0 h0

/-- Who opens in what is a tenant's is the tenant's. -/
theorem opd_own {c : api.Config} {l : List api.Event} {i h : Int} (ho : opd h (tenM c l i) = true) : 0 ≤ i ∧ ofM c l h = i := by
 obtain ⟨e, he, h1, h2⟩ := opd_mem ho
 obtain ⟨e0, h0, hk⟩ := List.mem_filterMap.1 he
 obtain ⟨g1, g2, _, _⟩ := keepM_same hk
 unfold keepM at hk
 rw [if_pos (by omega)] at hk
 split at hk
 ·rename_i g
  rw [← h2, g2]; exact g
 ·cases hk

theorem PSz.of {c : api.Config} {l : List api.Event} (h0 : api.Config.wf c) (h1 : l.length * 104 ≤ 140737488351232 ∧ ∀ y0, y0 ∈ l → api.Event.wf y0) :
  ∃ b, mewslaw46.Far c l = some b ∧ (b = false → PSz c l ∧ lenE l ≤ 1500 ∧ l.length ≤ 120 ∧ c.Tenants.length ≤ 4) := by
 have hc : c.Tenants.length * 128 ≤ 140737488351232 := h0.1.1
 have hw : ∀ e, e ∈ l → e.Lefts.length * 32 ≤ 140737488351232 := fun e he => (h1.2 e he).2.2.2.2.2.2.1.1
 obtain ⟨b, hb, h⟩ := Far46_eq c l (by omega) (by omega) (fun e he => by have := hw e he; omega)
 refine ⟨b, hb, fun hf => ?_⟩
 obtain ⟨g1, g2, g3, g4⟩ := h hf
 exact ⟨⟨by omega, by omega, by omega, fun e he => by have := g4 e he; omega, fun e he => wfi64 (h1.2 e he).2.1⟩, g1, g2, g3⟩

theorem Pure.ProjectTwice {a0 : api.Config} {a1 : List api.Event} {a2 : Int} (h0 : api.Config.wf a0) (h1 : a1.length * 104 ≤ 140737488351232 ∧ ∀ y0, y0 ∈ a1 → api.Event.wf y0) (h2 : (Lit.int .i64 a2).wf = true) : mewslaw49.ProjectTwice a0 a1 a2 = some true := by
 obtain ⟨b, hb, hs⟩ := PSz.of h0 h1
 unfold mewslaw49.ProjectTwice
 rw [hb, Option.bind_some, alive49]
 cases b with
 | true => rfl
 | false =>
  obtain ⟨hz, g1, g2, g3⟩ := hs rfl
  rw [if_neg (by decide), Tenant_eq hz, Option.bind_some]
  have hzm := hz.keep a2
  rw [Tenant_eq hzm, Option.bind_some, tenM_again, Same_eq _ _ (by have := hzm.nl; omega) (fun e he => by have := hzm.f e he; omega), Option.bind_some, decide_eq_true rfl, if_neg (by decide), Labels_eq hzm, Option.bind_some]
  have hI := labM_all a0 (tenM a0 a1 a2)
  have hlen := hI.len
  have hnl := hzm.nl
  generalize labM a0 (tenM a0 a1 a2) (tenM a0 a1 a2) [] = m at hI hlen
  have hloop : mewslaw49.ProjectTwice.loop0 (m.map labA) a2 a0 a1 ⟨0⟩ = some (.inl ()) := by
   unfold mewslaw49.ProjectTwice.loop0
   refine whileO_knownE _ (fun k => ⟨(k : Int)⟩) (m.map labA).length (fun k hk => ?_) ?_
   ·rw [List.length_map] at hk
    have hm : m[k] ∈ m := List.getElem_mem hk
    obtain ⟨q1, q2⟩ := hI.mem hm
    have q3 := opd_own q1
    have q4 := ofM_keep q3
    unfold mewslaw49.ProjectTwice.body0
    simp only
    rw [List.length_map, if_pos (by omega), need_eq ⟨by omega, by omega⟩, ix_get (by rw [List.length_map]; exact hk), List.getElem_map]
    show ((if m[k].2 = a2 then (project.Of a0 a1 m[k].1).bind _ else some true).bind _) = _
    rw [q2, q4, if_pos rfl, Of_eq (by omega) (by omega) (by omega), Option.bind_some, Option.bind_some, q3.2, decide_eq_true rfl, i64w (by omega) (by omega)]
    rfl
   ·unfold mewslaw49.ProjectTwice.body0
    simp only
    rw [if_neg (by omega)]
  rw [hloop]
  rfl
end Go.Pu
