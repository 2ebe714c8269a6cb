/- The pure laws UnitBack and UnitRows. -/
import Derived.Test.YtdgbjndkccjijaaUBPuUnit5
set_option maxRecDepth 100000
namespace Go.Pu
open Go.Lift

theorem u64_range (n : Int) : ∃ k : Nat, IntKind.wrap .u64 n = (k : Int) ∧ k < 18446744073709551616 := by
 have h : 0 ≤ IntKind.wrap .u64 n ∧ IntKind.wrap .u64 n < 18446744073709551616 := by
  simp [IntKind.wrap, IntKind.bits, IntKind.signed]; omega
 exact ⟨(IntKind.wrap .u64 n).toNat, by omega, by omega⟩

theorem UnitBack_pure (u : api.Unit) (behind : List UInt8) (at_ : Int) (hu : FitsC u.Cmds) : mewslaw15.UnitBack u behind at_ = some true := by
 unfold mewslaw15.UnitBack
 obtain ⟨x, hf, hf2⟩ := Far_eq [u] (by simp) (by simp [hu])
 rw [hf, alive15, Option.bind_some]
 cases x with
 | true => rfl
 | false =>
  obtain ⟨f1, f2⟩ := hf2 rfl
  simp only [wtL] at f2
  rw [if_neg (show ¬ (false = true) by simp), Option.bind_some]
  by_cases hb : 1000 < behind.length
  ·rw [if_pos (decide_eq_true (by omega))]; rfl
  ·rw [if_neg (by rw [decide_eq_false (by omega)]; simp), PutU_eq u (by omega), Option.bind_some]
   unfold putU
   cases hm : mayM u.Cmds with
   | false => rfl
   | true =>
    have hpl := putL_len u.Cmds (by omega)
    have hlen := unitM_len u.Cmds
    rw [if_pos rfl, if_pos rfl]
    show need ((unitM u.Cmds).length + behind.length ≤ 9223372036854775807) _ = _
    rw [need_eq (by omega), Take_eq (unitM u.Cmds ++ behind) (by rw [List.length_append]; omega), Option.bind_some, take_put hm (by omega)]
    rw [if_pos rfl, if_pos rfl]
    rw [if_neg (show ¬ ((unitM u.Cmds).length : Int) < 1 by omega), Same_eq u _ hu.1 (fun c hc => (hu.2 c hc).1), Option.bind_some, Option.bind_some, decide_eq_true rfl, if_neg (by simp)]
    show need (¬ IntKind.wrap .u64 ((unitM u.Cmds).length : Int) = 0) _ = _
    obtain ⟨k, hk, _⟩ := u64_range at_
    have hmod : ((k : Nat) : Int).tmod ((unitM u.Cmds).length : Int) = ((k % (unitM u.Cmds).length : Nat) : Int) := rfl
    have hlt : k % (unitM u.Cmds).length < (unitM u.Cmds).length := Nat.mod_lt _ (by omega)
    rw [hk, u64w (n := ((unitM u.Cmds).length : Int)) (by omega) (by omega), hmod, i64w (by omega) (by omega), need_eq (by omega), need_eq (show InR 0 ((k % (unitM u.Cmds).length : Nat) : Int) (unitM u.Cmds).length from ⟨by omega, by omega, by omega⟩)]
    unfold letO
    show (unit.Take (sub (unitM u.Cmds) 0 ((k % (unitM u.Cmds).length : Nat) : Int))).bind _ = _
    rw [sub_zero, Int.toNat_natCast, Take_eq _ (by rw [List.length_take]; omega), Option.bind_some, take_cut (by omega) _ hlt]
    rfl

theorem Rows_loop0 (l : List api.Unit) (hl : l.length ≤ 100) (hw : wtL l ≤ 4000) :
  ∃ put : List api.Unit, mewslaw15.UnitRows.loop0 l ⟨[], [], 0⟩ = some (rowsM put, put) ∧ (∀ u ∈ put, mayM u.Cmds = true ∧ wtU u.Cmds ≤ 4000) ∧ (rowsM put).length ≤ 9 * l.length + 12 * wtL l ∧ put.length ≤ l.length := by
 have hwi : ∀ i, wtL (l.take i) ≤ wtL l := fun i => by
  have := wtL_append (l.take i) (l.drop i)
  rw [List.take_append_drop] at this; omega
 have : ∃ r, mewslaw15.UnitRows.loop0 l ⟨[], [], 0⟩ = some r ∧ ∃ put : List api.Unit, r = (rowsM put, put) ∧ (∀ u ∈ put, mayM u.Cmds = true ∧ wtU u.Cmds ≤ 4000) ∧ (rowsM put).length ≤ 9 * l.length + 12 * wtL l ∧ put.length ≤ l.length := by
  unfold mewslaw15.UnitRows.loop0
  refine whileO_dec (fun s => ∃ (i : Nat) (put : List api.Unit), s = ⟨rowsM put, put, (i : Int)⟩ ∧ i ≤ l.length ∧ (∀ u ∈ put, mayM u.Cmds = true ∧ wtU u.Cmds ≤ 4000) ∧ (rowsM put).length ≤ 9 * i + 12 * wtL (l.take i) ∧ put.length ≤ i) (fun s => l.length - s.t28.toNat) _ (fun s hs => ?_) _ ⟨0, [], rfl, Nat.zero_le _, by simp, by simp [rowsM], by simp⟩
  obtain ⟨i, put, rfl, hi, hp, hb, hc⟩ := hs
  unfold mewslaw15.UnitRows.body0
  simp only []
  by_cases hil : i < l.length
  ·have hsn : wtL (l.take (i + 1)) = wtL (l.take i) + wtU l[i].Cmds := by
    rw [List.take_add_one, List.getElem?_eq_getElem hil, wtL_append]; simp [wtL]
   have h1 := hwi (i + 1)
   rw [if_pos (by omega), need_eq ⟨by omega, by omega⟩, ix_get hil, PutU_eq _ (by omega), Option.bind_some]
   unfold putU
   cases hm : mayM l[i].Cmds with
   | false =>
    rw [if_neg (show ¬ (false = true) by simp), if_neg (show ¬ ((1 : Int) = 0) by omega), Option.bind_some, i64w (by omega) (by omega)]
    refine .inl ⟨_, rfl, ⟨i + 1, put, rfl, by omega, hp, by omega, by omega⟩, ?_⟩
    show l.length - ((i : Int) + 1).toNat < l.length - (i : Int).toNat; omega
   | true =>
    have hul := unitM_len l[i].Cmds
    have hpl := putL_len l[i].Cmds (by omega)
    have hrow : rowsM (put ++ [l[i]]) = rowsM put ++ unitM l[i].Cmds := by rw [rowsM_append]; simp [rowsM]
    rw [if_pos rfl, if_pos rfl, need_eq (show (rowsM put).length + (unitM l[i].Cmds).length ≤ 9223372036854775807 by omega), need_eq (by simp; omega), Option.bind_some, i64w (by omega) (by omega)]
    refine .inl ⟨_, rfl, ⟨i + 1, put ++ [l[i]], ?_, by omega, ?_, ?_, by simp; omega⟩, ?_⟩
    ·rw [hrow]; rfl
    ·intro u hu
     rcases List.mem_append.1 hu with hu | hu
     ·exact hp u hu
     ·rw [List.mem_singleton] at hu; subst hu; exact ⟨hm, by omega⟩
    ·rw [hrow, List.length_append]; omega
    ·show l.length - ((i : Int) + 1).toNat < l.length - (i : Int).toNat; omega
  ·rw [if_neg (by omega)]
   have : i = l.length := by omega
   subst this
   rw [List.take_length] at hb
   exact .inr ⟨_, rfl, put, rfl, hp, by omega, hc⟩
 obtain ⟨r, h1, put, rfl, h2⟩ := this
 exact ⟨put, h1, h2⟩

theorem Rows_loop2 (got : List api.Unit) (n : Int) (hl : got.length ≤ 60000) (hg : ∀ u ∈ got, mayM u.Cmds = true ∧ wtU u.Cmds ≤ 200000) (hr : (rowsM got).length ≤ 60000) : mewslaw15.UnitRows.loop2 (got, n) ⟨[], 0⟩ = some (.inl (rowsM got)) := by
 unfold mewslaw15.UnitRows.loop2
 have htk : ∀ i, (rowsM (got.take i)).length ≤ 60000 := fun i => by
  have := rowsM_append (got.take i) (got.drop i)
  rw [List.take_append_drop] at this
  have := congrArg List.length this
  rw [List.length_append] at this; omega
 refine whileO_knownE _ (fun i => (⟨rowsM (got.take i), (i : Int)⟩ : mewslaw15.UnitRows.S2)) got.length (fun i hi => ?_) ?_ rfl
 ·obtain ⟨h1, h2⟩ := hg _ (List.getElem_mem hi)
  have hrow : rowsM (got.take (i + 1)) = rowsM (got.take i) ++ unitM got[i].Cmds := by rw [List.take_add_one, List.getElem?_eq_getElem hi, rowsM_append]; simp [rowsM]
  have h3 := htk (i + 1)
  rw [hrow, List.length_append] at h3
  unfold mewslaw15.UnitRows.body2
  simp only []
  rw [if_pos (by omega), need_eq ⟨by omega, by omega⟩, ix_get hi, PutU_eq _ (by omega), Option.bind_some]
  unfold putU
  rw [if_pos h1, if_pos rfl, need_eq (show (rowsM (got.take i)).length + (unitM got[i].Cmds).length ≤ 9223372036854775807 by omega), i64w (by omega) (by omega), hrow]
  rfl
 ·unfold mewslaw15.UnitRows.body2
  simp only []
  rw [if_neg (by omega), List.take_length]

theorem UnitRows_pure (l : List api.Unit) (tail : List UInt8) (hl : l.length ≤ 1000000000000000) (hu : ∀ u ∈ l, FitsC u.Cmds) : mewslaw15.UnitRows l tail = some true := by
 unfold mewslaw15.UnitRows
 obtain ⟨x, hf, hf2⟩ := Far_eq l hl hu
 rw [hf, alive15, Option.bind_some]
 cases x with
 | true => rfl
 | false =>
  obtain ⟨f1, f2⟩ := hf2 rfl
  rw [if_neg (show ¬ (false = true) by simp), Option.bind_some]
  by_cases hb : 1000 < tail.length
  ·rw [if_pos (decide_eq_true (by omega))]; rfl
  ·obtain ⟨put, p1, p2, p3, p4⟩ := Rows_loop0 l f1 f2
   rw [if_neg (by rw [decide_eq_false (by omega)]; simp), p1, Option.bind_some]
   have hpb : ∀ u ∈ put, mayM u.Cmds = true ∧ (putL u.Cmds).length ≤ 4194304 := fun u h => ⟨(p2 u h).1, by have := putL_len u.Cmds (by have := (p2 u h).2; omega); have := (p2 u h).2; omega⟩
   obtain ⟨k', hk'⟩ := allN_rows put ((rowsM put ++ tail).length + 1) tail hpb (by omega)
   have hall : allM (rowsM put ++ tail) = (put ++ (allN k' tail).1, (rowsM put).length + (allN k' tail).2) := hk'
   have hlen : (rowsM put ++ tail).length ≤ 60000 := by rw [List.length_append]; omega
   have hok := allN_ok ((rowsM put ++ tail).length + 1) (rowsM put ++ tail) hlen
   rw [show allN ((rowsM put ++ tail).length + 1) (rowsM put ++ tail) = allM (rowsM put ++ tail) from rfl, hall] at hok
   have hkt := (allN_ok k' tail (by omega)).2.1
   rw [need_eq (show (rowsM put).length + tail.length ≤ 9223372036854775807 by omega), AllU_eq _ hlen, Option.bind_some, hall]
   generalize allN k' tail = B at *
   obtain ⟨o1, o2, o3, o4⟩ := hok
   have hsl : (put ++ B.1).length = put.length + B.1.length := List.length_append
   rw [if_neg (show ¬ (((put ++ B.1).length : Int) < (put.length : Int)) by omega), need_eq (show InR 0 (put.length : Int) (put ++ B.1).length from ⟨by omega, by omega, by omega⟩), sub_zero, Int.toNat_natCast, List.take_left,
    SameAll_self put (by omega) (fun u h => fits_of_wt (by have := (p2 u h).2; omega)), Option.bind_some, if_neg (show ¬ (!true) = true by simp),
    if_neg (show ¬ ((((rowsM put).length + B.2 : Nat) : Int) < ((rowsM put).length : Int)) by omega), i64w (n := ((rowsM put).length : Int) + (tail.length : Int)) (by omega) (by omega), decide_eq_false (show ¬ ((rowsM put).length : Int) + (tail.length : Int) < (((rowsM put).length + B.2 : Nat) : Int) by omega), Option.bind_some, if_neg (show ¬ (false = true) by simp)]
   have hrl : (rowsM (put ++ B.1)).length ≤ 60000 := by
    have := congrArg List.length o1
    rw [List.length_take] at this
    simp only at this
    omega
   rw [Rows_loop2 (put ++ B.1) _ (by simp only at o4; omega) o3 hrl, Option.bind_some]
   show (need ((rowsM put).length + tail.length ≤ 9223372036854775807) (need (InR 0 (((rowsM put).length + B.2 : Nat) : Int) (rowsM put ++ tail).length) (if rowsM (put ++ B.1) = sub (rowsM put ++ tail) 0 (((rowsM put).length + B.2 : Nat) : Int) then _ else _))).bind _ = _
   rw [need_eq (show (rowsM put).length + tail.length ≤ 9223372036854775807 by omega), need_eq (show InR 0 (((rowsM put).length + B.2 : Nat) : Int) (rowsM put ++ tail).length from ⟨by omega, by omega, by rw [List.length_append]; omega⟩), sub_zero, Int.toNat_natCast, if_pos o1.symm]
   rfl

end Go.Pu

namespace Go.Pu.Pure
open Go.Lift Go.Pu
theorem UnitBack {a0 : api.Unit} {a1 : List UInt8} {a2 : Int} (h0 : api.Unit.wf a0) (h1 : a1.length ≤ 140737488351232) (h2 : (Lit.int .i64 a2).wf = true) : mewslaw15.UnitBack a0 a1 a2 = some true := UnitBack_pure a0 a1 a2 (fits_wf h0)
theorem UnitRows {a0 : List api.Unit} {a1 : List UInt8} (h0 : a0.length * 24 ≤ 140737488351232 ∧ ∀ y0, y0 ∈ a0 → api.Unit.wf y0) (h1 : a1.length ≤ 140737488351232) : mewslaw15.UnitRows a0 a1 = some true := UnitRows_pure a0 a1 (by omega) fun u hu => fits_wf (h0.2 u hu)
end Go.Pu.Pure
