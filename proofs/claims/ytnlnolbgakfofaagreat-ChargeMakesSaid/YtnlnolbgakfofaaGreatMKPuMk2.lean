import Derived.Test.YtnlnolbgakfofaaGreatMKPuMk1
import Derived.Test.YtnlnolbgakfofaaGreatMKPuChg1
set_option maxHeartbeats 0
set_option maxRecDepth 100000
namespace Go.Pu
open Go.Lift

theorem rsame_self (a : api.Value) (h1 : a.List_.length ≤ 1000000000000000) (h2 : a.Hash.length ≤ 1000000000000000) (h3 : a.ZSet.length ≤ 1000000000000000) : mewsref19.Same a a = some true := by
 rw [rsame_eq a a h1 h2 h3, decide_eq_true rfl]

theorem ChargeMakes_pure (l : List Str) (h : List api.Field) (z : List api.Scored) (hv : FitsV { Kind := 0, Text := [], List_ := l, Hash := h, ZSet := z }) : mewslaw19.ChargeMakes l h z = some true := by
 obtain ⟨c, ec, hc⟩ := Far_eq [({ Kind := 0, Text := [], List_ := l, Hash := h, ZSet := z } : api.Value)] (by simp) (fun v hv' => by
  simp only [List.mem_cons, List.not_mem_nil, or_false] at hv'
  rw [hv']; exact hv)
 unfold mewslaw19.ChargeMakes
 rw [ec, Option.bind_some, alive19]
 cases c with
 | true => rfl
 | false =>
  obtain ⟨ql, qh, qz⟩ := (hc rfl { Kind := 0, Text := [], List_ := l, Hash := h, ZSet := z } (by simp)).lens
  have ql : l.length ≤ 3000 := ql
  have qh : h.length ≤ 3000 := qh
  have qz : z.length ≤ 3000 := qz
  rw [if_neg (by decide)]
  have e1 : ∃ r, charge.List_ l = some r ∧ mewsref19.List_ l = some r ∧ r.List_.length ≤ 3000 ∧ r.Hash = [] ∧ r.ZSet = [] := by
   unfold charge.List_ mewsref19.List_ slices.Clone_string
   by_cases h0 : (l.length : Int) = 0
   ·rw [if_pos h0, if_pos h0]
    exact ⟨_, rfl, rfl, by simp, rfl, rfl⟩
   ·rw [if_neg h0, if_neg h0, need_eq (by simp only [List.length_nil]; omega), Option.bind_some, need_eq (by simp only [List.length_nil]; omega)]
    exact ⟨_, rfl, rfl, ql, rfl, rfl⟩
  have e2 : ∃ r, charge.Set l = some r ∧ mewsref19.Set l = some r ∧ r.List_.length ≤ 3000 ∧ r.Hash = [] ∧ r.ZSet = [] := by
   by_cases h0 : l = []
   ·subst h0
    exact ⟨noV, rfl, rfl, by simp [noV], rfl, rfl⟩
   ·have hp : 0 < l.length := List.length_pos_iff.2 h0
    obtain ⟨r, a1, a2, a3⟩ := set_eq l ql hp
    obtain ⟨r', b1, b2, b3⟩ := rSet_full l ql hp
    have : r = r' := asc_ext a2 b2 fun x => by rw [a3, b3]
    subst this
    refine ⟨_, a1, b1, ?_, rfl, rfl⟩
    have := a2.nodup.length_le_of_subset (l₂ := l) fun x hx => (a3 x).1 hx
    show r.length ≤ 3000
    omega
  have e3 : ∃ r, charge.Hash h = some r ∧ mewsref19.Hash h = some r ∧ r.List_ = [] ∧ r.Hash.length ≤ 3000 ∧ r.ZSet = [] := by
   obtain ⟨r, a1, a2, a3, a4⟩ := hash_eq h qh
   by_cases h0 : h = []
   ·subst h0
    rw [if_pos rfl] at a1
    exact ⟨noV, a1, rfl, rfl, by simp [noV], rfl⟩
   ·obtain ⟨r', b1, b2⟩ := rHash_full h qh (List.length_pos_iff.2 h0)
    have := a2.ext b2
    subst this
    rw [if_neg h0] at a1
    refine ⟨_, a1, b1, rfl, ?_, rfl⟩
    have hn : r.Nodup := (List.pairwise_map.1 a2.asc.nodup).imp fun {a b} h e => h (congrArg _ e)
    have := hn.length_le_of_subset (l₂ := h) fun x hx => a3 x hx
    show r.length ≤ 3000
    omega
  have e4 : ∃ r, charge.ZSet z = some r ∧ mewsref19.ZSet z = some r ∧ r.List_ = [] ∧ r.Hash = [] ∧ r.ZSet.length ≤ 3000 := by
   obtain ⟨r, a1, a2, a3, a4⟩ := zset_eq z qz
   by_cases h0 : z = []
   ·subst h0
    rw [if_pos rfl] at a1
    exact ⟨noV, a1, rfl, rfl, rfl, by simp [noV]⟩
   ·obtain ⟨r', b1, b2, b3, _⟩ := rZSet_full z qz (List.length_pos_iff.2 h0)
    have := a2.ext b2 fun x => by rw [a3, b3]
    subst this
    rw [if_neg h0] at a1
    refine ⟨_, a1, b1, rfl, rfl, ?_⟩
    have hn : r.Nodup := (List.pairwise_map.1 a2.one).imp fun {a b} h e => h (congrArg _ e)
    have := hn.length_le_of_subset (l₂ := z) fun x hx => by
     have := (a3 x).1 hx
     unfold lastZ at this
     exact List.mem_reverse.1 (List.mem_of_find?_eq_some this)
    show r.length ≤ 3000
    omega
  obtain ⟨r1, a1, b1, c1, d1, f1⟩ := e1
  obtain ⟨r2, a2, b2, c2, d2, f2⟩ := e2
  obtain ⟨r3, a3, b3, c3, d3, f3⟩ := e3
  obtain ⟨r4, a4, b4, c4, d4, f4⟩ := e4
  rw [a1, Option.bind_some, b1, Option.bind_some, rsame_self r1 (by omega) (by rw [d1]; simp) (by rw [f1]; simp), Option.bind_some, if_pos rfl, a2, Option.bind_some, b2, Option.bind_some, rsame_self r2 (by omega) (by rw [d2]; simp) (by rw [f2]; simp), Option.bind_some, if_pos rfl, a3, Option.bind_some, b3, Option.bind_some, rsame_self r3 (by rw [c3]; simp) (by omega) (by rw [f3]; simp), Option.bind_some, if_pos rfl, a4, Option.bind_some, b4, Option.bind_some, rsame_self r4 (by rw [c4]; simp) (by rw [d4]; simp) (by omega), Option.bind_some, if_pos rfl]
  rfl

end Go.Pu

namespace Go.Pu.Pure
open Go.Lift Go.Pu
theorem ChargeMakes {a0 : List (List UInt8)} {a1 : List api.Field} {a2 : List api.Scored} (h0 : a0.length * 16 ≤ 140737488351232 ∧ ∀ y0, y0 ∈ a0 → y0.length ≤ 140737488351232) (h1 : a1.length * 32 ≤ 140737488351232 ∧ ∀ y0, y0 ∈ a1 → api.Field.wf y0) (h2 : a2.length * 24 ≤ 140737488351232 ∧ ∀ y0, y0 ∈ a2 → api.Scored.wf y0) : mewslaw19.ChargeMakes a0 a1 a2 = some true :=
 ChargeMakes_pure a0 a1 a2 ⟨by show 0 < _; omega, by show a0.length < _; omega, fun x hx => by have := h0.2 x hx; unfold gS; omega, by show a1.length < _; omega, fun x hx => by have := h1.2 x hx; have a := this.1; have b := this.2; unfold gF; omega, by show a2.length < _; omega, fun x hx => by have := h2.2 x hx; have a := this.1; unfold gZ; omega⟩
end Go.Pu.Pure
