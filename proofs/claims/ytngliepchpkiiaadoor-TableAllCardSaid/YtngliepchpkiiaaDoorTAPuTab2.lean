import Derived.Test.YtngliepchpkiiaaDoorTAPuTab1
import Derived.Test.YtngliepchpkiiaaDoorTAC
set_option maxHeartbeats 0
set_option maxRecDepth 100000
namespace Go.Pu
open Go.Lift

/-- The first one of which something is so. -/
theorem whileO_find {σ ρ α : Type} {body : σ → Option (σ ⊕ ρ)} (st : Nat → σ) (xs : List α) (p : α → Bool) (g : α → ρ) (z : ρ)
  (h : ∀ i (hi : i < xs.length), body (st i) = some (if p xs[i] = true then .inr (g xs[i]) else .inl (st (i + 1)))) (he : body (st xs.length) = some (.inr z)) :
  ∀ (m j : Nat), j + m = xs.length → whileO body (st j) = some (((xs.drop j).find? p).elim z g)
 | 0, j, e => by
  obtain rfl : j = xs.length := by omega
  rw [List.drop_length]
  exact whileO_end he
 | m + 1, j, e => by
  have hj : j < xs.length := by omega
  have hb := h j hj
  rw [List.drop_eq_getElem_cons hj, List.find?_cons]
  by_cases hp : p xs[j] = true
  ·rw [if_pos hp] at hb
   rw [hp]
   exact whileO_end hb
  ·rw [if_neg hp] at hb
   rw [Bool.eq_false_iff.2 hp]
   exact whileO_next hb (whileO_find st xs p g z h he m (j + 1) (by omega))
theorem whileO_findE {σ ρ α : Type} {body : σ → Option (σ ⊕ ρ)} (s0 : σ) (st : Nat → σ) (xs : List α) (p : α → Bool) (g : α → ρ) (z : ρ)
  (h : ∀ i (hi : i < xs.length), body (st i) = some (if p xs[i] = true then .inr (g xs[i]) else .inl (st (i + 1)))) (he : body (st xs.length) = some (.inr z)) (h0 : s0 = st 0 := by rfl) :
  whileO body s0 = some ((xs.find? p).elim z g) := by
 have := whileO_find st xs p g z h he xs.length 0 (by omega)
 subst h0
 rw [this, List.drop_zero]

def cmdsOf : Nat → List api.Command
 | 0 => cmds1 | 1 => cmds2 | 2 => cmds3 | 3 => cmds4 | 4 => cmds5 | 5 => cmds6 | _ => cmds7
def rws (k : Nat) : List table.row := (table.rows.c 0 ((k : Int) + 1)).getD []
def nameP (nm : List UInt8) (c : api.Command) : Bool := decide (c.Name = nm)
def zeroC : api.Command := { Name := [], Arity := 0, Of := 0, Write := false, Grow := false, Free := false, Keys := 0, First := 0, Last := 0, Step := 0 }
def findC (nm : List UInt8) : api.Command × Bool := match cmdsL.find? (nameP nm) with | some c => (c, true) | none => (zeroC, false)

theorem rows_cs : ∀ k : Nat, k < 7 → table.rows.c 0 ((k : Int) + 1) = some (rws k) := by decide +kernel
theorem cmds_cs : ∀ k : Nat, k < 7 → (rws k).map (fun r => table.command.c 100 ((k : Int) + 1) r) = (cmdsOf k).map some := by decide +kernel
theorem names_cs : ∀ k : Nat, k < 7 → (rws k).map (fun r => r.name) = (cmdsOf k).map (fun c => c.Name) := by decide +kernel
theorem lens_cs : ∀ k : Nat, k < 7 → (rws k).length ≤ 200 := by decide +kernel
theorem rows_eq (k : Nat) (hk : k < 7) : table.rows ((k : Int) + 1) = some (rws k) := table.rows.c_le 0 _ _ (rows_cs k hk)
theorem rws_len (k : Nat) (hk : k < 7) : (rws k).length = (cmdsOf k).length := by
 have := congrArg List.length (names_cs k hk)
 simpa using this
theorem command_eq (k : Nat) (hk : k < 7) (i : Nat) (hi : i < (rws k).length) (hj : i < (cmdsOf k).length) : table.command ((k : Int) + 1) (rws k)[i] = some (cmdsOf k)[i] := by
 have h := congrArg (fun l => l[i]?) (cmds_cs k hk)
 simp only [List.getElem?_map, List.getElem?_eq_getElem hi, List.getElem?_eq_getElem hj, Option.map_some] at h
 exact table.command.c_le 100 _ _ _ (Option.some.inj h)
theorem name_eq (k : Nat) (hk : k < 7) (i : Nat) (hi : i < (rws k).length) (hj : i < (cmdsOf k).length) : (rws k)[i].name = (cmdsOf k)[i].Name := by
 have h := congrArg (fun l => l[i]?) (names_cs k hk)
 simp only [List.getElem?_map, List.getElem?_eq_getElem hi, List.getElem?_eq_getElem hj, Option.map_some] at h
 exact Option.some.inj h

theorem find2_eq (k : Nat) (hk : k < 7) (nm : List UInt8) : table.Find.loop2 (rws k) nm ⟨(k : Int) + 1⟩ ⟨0⟩ =
  some (((cmdsOf k).find? (nameP nm)).elim (.inl ()) (fun c => .inr (.inr (.inr (c, true))))) := by
 have hlen := lens_cs k hk
 have he := rws_len k hk
 unfold table.Find.loop2
 refine whileO_findE _ (fun i => (⟨(i : Int)⟩ : table.Find.S2)) (cmdsOf k) (nameP nm) (fun c => (.inr (.inr (.inr (c, true))) : Unit ⊕ (table.Find.S0 ⊕ (Unit ⊕ (api.Command × Bool))))) _ (fun i hi => ?_) ?_
 ·have hi' : i < (rws k).length := by omega
  unfold table.Find.body2
  simp only
  rw [if_pos (by omega), need_eq ⟨by omega, by omega⟩, ix_get hi', name_eq k hk i hi' hi, command_eq k hk i hi' hi, i64w (by omega) (by omega)]
  unfold nameP
  by_cases h : (cmdsOf k)[i].Name = nm
  ·rw [if_pos h, if_pos (decide_eq_true h)]
   rfl
  ·rw [if_neg h, if_neg (by simp [h])]
   rfl
 ·unfold table.Find.body2
  rw [if_neg (by simp only; omega)]

theorem find_cut (nm : List UInt8) : (((List.range' 0 7).findSome? (fun k => ((cmdsOf k).find? (nameP nm)).map (fun c => (Sum.inr (c, true) : Unit ⊕ (api.Command × Bool))))).getD (.inl ())) =
  (cmdsL.find? (nameP nm)).elim (.inl ()) (fun c => .inr (c, true)) := by
 have e : List.range' 0 7 = [0, 1, 2, 3, 4, 5, 6] := rfl
 unfold cmdsL
 simp only [e, List.findSome?_cons, List.findSome?_nil, List.find?_append, cmdsOf]
 cases cmds1.find? (nameP nm) <;> cases cmds2.find? (nameP nm) <;> cases cmds3.find? (nameP nm) <;> cases cmds4.find? (nameP nm) <;> cases cmds5.find? (nameP nm) <;> cases cmds6.find? (nameP nm) <;> cases cmds7.find? (nameP nm) <;> rfl

theorem Find_eq (s : List UInt8) (hs : s.length ≤ 1000000) : table.Find s = some (findC (s.map upC)) := by
 unfold table.Find
 rw [Upper_eq s (by omega), Option.bind_some]
 have hl : table.Find.loop0 (s.map upC) ⟨1⟩ = some ((cmdsL.find? (nameP (s.map upC))).elim (.inl ()) (fun c => .inr (c, true))) := by
  unfold table.Find.loop0
  rw [← find_cut]
  refine whileO_firstE _ (fun k => (⟨(k : Int) + 1⟩ : table.Find.S0)) 7 _ _ (fun k hk => ?_) ?_
  ·unfold table.Find.body0
   simp only
   rw [if_pos (by omega), rows_eq k hk, Option.bind_some, find2_eq k hk, Option.bind_some]
   cases (cmdsOf k).find? (nameP (s.map upC)) with
   | none => simp only [onSum, Option.map_none]; rw [i64w (by omega) (by omega)]; simp
   | some c => rfl
  ·unfold table.Find.body0
   rw [if_neg (by simp only; omega)]
 rw [hl]
 unfold findC
 cases cmdsL.find? (nameP (s.map upC)) <;> rfl

theorem alive_eq : mewslaw28.alive = some true := mewslaw28.alive.c_le 60 _ (by decide +kernel)

end Go.Pu
