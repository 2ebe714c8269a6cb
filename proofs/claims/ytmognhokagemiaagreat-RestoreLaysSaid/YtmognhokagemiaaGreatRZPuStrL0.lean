import Derived.Test.YtmognhokagemiaaGreatRZPuBase
import Derived.Test.YtmognhokagemiaaGreatRZP
set_option maxHeartbeats 0
set_option maxRecDepth 100000
namespace Go.Pu
open Go.Lift

abbrev Str := List UInt8

/-! ### Lists that rise -/
def Asc (l : List Str) : Prop := l.Pairwise fun a b => strLt a b = true

theorem Asc.get {l : List Str} (h : Asc l) {i j : Nat} (hij : i < j) (hj : j < l.length) : strLt (l[i]'(by omega)) l[j] = true :=
 List.pairwise_iff_getElem.1 h i j (by omega) hj hij

end Go.Pu

set_option maxHeartbeats 0
set_option maxRecDepth 100000
namespace Go.Pu
open Go.Lift

theorem whileO_stp {σ ρ : Type} {body : σ → Option (σ ⊕ ρ)} {s s' : σ} (h : body s = some (.inl s')) : whileO body s = whileO body s' := by
 rw [whileO_eq, h]; rfl

/-! ### The first one of some -/
theorem idxF_cases {α : Type} (p : α → Bool) : ∀ (l : List α) (j : Nat), (idxF p l j = none ∧ ∀ x, x ∈ l → p x = false) ∨ ∃ a x b, l = a ++ x :: b ∧ idxF p l j = some (j + a.length) ∧ p x = true ∧ ∀ y, y ∈ a → p y = false
 | [], j => .inl ⟨rfl, fun x h => by cases h⟩
 | x :: l, j => by
  cases hp : p x with
  | true => exact .inr ⟨[], x, l, rfl, by simp [idxF, hp], hp, fun y h => by cases h⟩
  | false =>
   rcases idxF_cases p l (j + 1) with ⟨h1, h2⟩ | ⟨a, y, b, rfl, h2, h3, h4⟩
   ·refine .inl ⟨by simp [idxF, hp, h1], fun y hy => ?_⟩
    rcases List.mem_cons.1 hy with rfl | hy
    ·exact hp
    ·exact h2 y hy
   ·refine .inr ⟨x :: a, y, b, rfl, ?_, h3, fun z hz => ?_⟩
    ·simp only [idxF, hp, Bool.false_eq_true, if_false, h2, List.length_cons]
     congr 1
     omega
    ·rcases List.mem_cons.1 hz with rfl | hz
     ·exact hp
     ·exact h4 z hz

theorem ix_mid {α : Type} [Inhabited α] {a b : List α} {x : α} {i : Int} (h : i = (a.length : Int)) : ix (a ++ x :: b) i = x := by
 subst h
 rw [ix_get (by simp)]
 simp
theorem upd_mid {α : Type} {a b : List α} {x y : α} {i : Int} (h : i = (a.length : Int)) : upd (a ++ x :: b) i y = a ++ y :: b := by
 subst h
 unfold upd
 simp
theorem inb_mid {α : Type} {a b : List α} {x : α} {i : Int} (h : i = (a.length : Int)) : InB i (a ++ x :: b).length := by
 subst h
 exact ⟨by omega, by simp; omega⟩

/-- A number between 0 and another one. -/
def clampN (n : Int) (m : Nat) : Nat := min n.toNat m
theorem clampN_le (n : Int) (m : Nat) : clampN n m ≤ m := Nat.min_le_right _ _
theorem clampN_eq (n : Int) (m : Nat) : (if (m : Int) < (if n < 0 then 0 else n) then (m : Int) else (if n < 0 then 0 else n)) = (clampN n m : Int) := by
 unfold clampN
 split <;> split at * <;> omega
theorem clampN_self (n : Int) (m : Nat) : clampN (clampN n m : Int) m = clampN n m := by unfold clampN; omega

/-! ### disk's small functions -/
def isN (name : List UInt8) (f : api.File) : Bool := decide (f.Name = name)
def fx (l : List api.File) (name : List UInt8) : Int := match idxF (isN name) l 0 with | some i => (i : Int) | none => -1

theorem fx_cases (l : List api.File) (name : List UInt8) : (fx l name = -1 ∧ ∀ x, x ∈ l → x.Name ≠ name) ∨ ∃ a x b, l = a ++ x :: b ∧ fx l name = (a.length : Int) ∧ x.Name = name ∧ ∀ y, y ∈ a → y.Name ≠ name := by
 unfold fx
 rcases idxF_cases (isN name) l 0 with ⟨h1, h2⟩ | ⟨a, x, b, h1, h2, h3, h4⟩
 ·refine .inl ⟨by rw [h1], fun x hx => ?_⟩
  have := h2 x hx
  simpa [isN] using this
 ·refine .inr ⟨a, x, b, h1, by rw [h2]; simp, by simpa [isN] using h3, fun y hy => ?_⟩
  have := h4 y hy
  simpa [isN] using this

theorem find_v_eq {d : api.Disk} (h : d.Files.length < 1000000000) (name : List UInt8) : disk.find_v d name = some (fx d.Files name) := by
 have h1 : slices.IndexFunc_api_File_v_disk_find_1.loop0 d.Files name ⟨0⟩ = some (match idxF (isN name) d.Files 0 with | some i => .inr (i : Int) | none => .inl ()) := by
  unfold slices.IndexFunc_api_File_v_disk_find_1.loop0
  refine whileO_idxE (σ := slices.IndexFunc_api_File_v_disk_find_1.S0) (ρ := Unit ⊕ Int) _ (fun i => ⟨(i : Int)⟩) d.Files (isN name) (fun i => .inr (i : Int)) (.inl ()) (fun i hi => ?_) ?_
  ·have hin : InB (i : Int) d.Files.length := ⟨by omega, by omega⟩
   unfold slices.IndexFunc_api_File_v_disk_find_1.body0
   show (if (i : Int) < (d.Files.length : Int) then _ else _) = _
   rw [if_pos (by omega), need_eq hin, need_eq hin]
   show (disk.find_1 (ix d.Files (i : Int)) name).bind _ = _
   rw [ix_get hi]
   unfold disk.find_1
   rw [Option.bind_some]
   show (if isN name d.Files[i] = true then _ else some (Sum.inl (⟨IntKind.wrap .i64 ((i : Int) + 1)⟩ : slices.IndexFunc_api_File_v_disk_find_1.S0))) = _
   rw [i64w (by omega) (by omega), show (i : Int) + 1 = ((i + 1 : Nat) : Int) by omega]
   split <;> rfl
  ·unfold slices.IndexFunc_api_File_v_disk_find_1.body0
   exact if_neg (by show ¬ (d.Files.length : Int) < (d.Files.length : Int); omega)
 unfold disk.find_v slices.IndexFunc_api_File_v_disk_find_1 fx
 rw [h1, Option.bind_some]
 cases idxF (isN name) d.Files 0 <;> rfl

theorem find_eq {d : api.Disk} (h : d.Files.length < 1000000000) (name : List UInt8) : disk.find d name = some (fx d.Files name) := by
 have h1 : slices.IndexFunc_api_File_disk_find_1.loop0 d.Files name ⟨0⟩ = some (match idxF (isN name) d.Files 0 with | some i => .inr (i : Int) | none => .inl ()) := by
  unfold slices.IndexFunc_api_File_disk_find_1.loop0
  refine whileO_idxE (σ := slices.IndexFunc_api_File_disk_find_1.S0) (ρ := Unit ⊕ Int) _ (fun i => ⟨(i : Int)⟩) d.Files (isN name) (fun i => .inr (i : Int)) (.inl ()) (fun i hi => ?_) ?_
  ·have hin : InB (i : Int) d.Files.length := ⟨by omega, by omega⟩
   unfold slices.IndexFunc_api_File_disk_find_1.body0
   show (if (i : Int) < (d.Files.length : Int) then _ else _) = _
   rw [if_pos (by omega), need_eq hin]
   show (disk.find_1 (ix d.Files (i : Int)) name).bind _ = _
   rw [ix_get hi]
   unfold disk.find_1
   rw [Option.bind_some]
   show (if isN name d.Files[i] = true then _ else some (Sum.inl (⟨IntKind.wrap .i64 ((i : Int) + 1)⟩ : slices.IndexFunc_api_File_disk_find_1.S0))) = _
   rw [i64w (by omega) (by omega), show (i : Int) + 1 = ((i + 1 : Nat) : Int) by omega]
   split <;> rfl
  ·unfold slices.IndexFunc_api_File_disk_find_1.body0
   exact if_neg (by show ¬ (d.Files.length : Int) < (d.Files.length : Int); omega)
 unfold disk.find slices.IndexFunc_api_File_disk_find_1 fx
 rw [h1, Option.bind_some]
 cases idxF (isN name) d.Files 0 <;> rfl

/-- The sizes that a disk may have here. -/
structure DSz (d : api.Disk) : Prop where
 f : d.Files.length < 1000000000
 t : d.Faults.length < 1000000000
 b : ∀ x, x ∈ d.Files → x.Data.length < 2305843009213693952

theorem own_eq {d : api.Disk} (h : DSz d) : disk.own d = some d := by
 have h1 := h.f
 have h2 := h.t
 unfold disk.own slices.Clone_api_File slices.Clone_api_Fault
 rw [need_eq (by show (0 + d.Files.length) * 40 ≤ 140737488355328; omega), Option.bind_some, need_eq (by show (0 + d.Faults.length) * 32 ≤ 140737488355328; omega), Option.bind_some]

theorem safe_eq (f : api.File) : disk.safe f = some (clampN f.Synced f.Data.length : Int) := by
 unfold disk.safe
 rw [clampN_eq]

/-! ### Faults -/
def isF (name : List UInt8) (kind : Int) (f : api.Fault) : Bool := decide (f.Name = name) && decide (f.Kind = kind)
/-- The first fault of a name and a kind is taken away. -/
def takeF (name : List UInt8) (kind : Int) : List api.Fault → Option api.Fault × List api.Fault
 | [] => (none, [])
 | x :: xs => if isF name kind x then (some x, xs) else ((takeF name kind xs).1, x :: (takeF name kind xs).2)

theorem takeF_none {name : List UInt8} {kind : Int} : ∀ {l : List api.Fault}, (∀ x, x ∈ l → isF name kind x = false) → takeF name kind l = (none, l)
 | [], _ => rfl
 | x :: l, h => by
  unfold takeF
  rw [h x (List.mem_cons_self ..), takeF_none fun y hy => h y (List.mem_cons_of_mem _ hy)]
  rfl
theorem takeF_mid {name : List UInt8} {kind : Int} : ∀ {a b : List api.Fault} {x : api.Fault}, isF name kind x = true → (∀ y, y ∈ a → isF name kind y = false) → takeF name kind (a ++ x :: b) = (some x, a ++ b)
 | [], b, x, hx, _ => by
  show (if isF name kind x = true then (some x, b) else _) = _
  rw [if_pos hx]; rfl
 | y :: a, b, x, hx, h => by
  show takeF name kind (y :: (a ++ x :: b)) = _
  unfold takeF
  rw [h y (List.mem_cons_self ..), takeF_mid hx fun z hz => h z (List.mem_cons_of_mem _ hz)]
  rfl
theorem takeF_len (name : List UInt8) (kind : Int) (l : List api.Fault) : (takeF name kind l).2.length ≤ l.length := by
 induction l with
 | nil => exact Nat.le_refl _
 | cons x l ih =>
  unfold takeF
  split
  ·exact Nat.le_succ _
  ·exact Nat.succ_le_succ ih

theorem clr_take {α : Type} (xs : List α) (lo hi : Nat) (z : α) (h : lo ≤ xs.length) : (clrL xs lo hi z).take lo = xs.take lo := by
 unfold clrL
 rw [List.append_assoc, List.take_append_of_le_length (by rw [List.length_take]; omega), List.take_take, Nat.min_self]
theorem mv_take {α : Type} {a b : List α} {x : α} : (mvL (a ++ x :: b) a.length (a.length + 1)).take (a.length + b.length) = a ++ b := by
 have e1 : (a ++ x :: b).take a.length = a := by simp
 have e2 : (a ++ x :: b).drop (a.length + 1) = b := by rw [List.drop_append]; simp
 unfold mvL
 rw [e1, e2, List.take_append_of_le_length (by simp), List.take_of_length_le (by simp)]

theorem Delete_eq {a b : List api.Fault} {x : api.Fault} : slices.Delete_api_Fault_v (a ++ x :: b) (a.length : Int) ((a.length : Int) + 1) = some (a ++ b) := by
 have hl : (a ++ x :: b).length = a.length + (b.length + 1) := by simp
 unfold slices.Delete_api_Fault_v
 have hm : (mvL (a ++ x :: b) (Int.toNat (a.length : Int)) (Int.toNat ((a.length : Int) + 1))).length = (a ++ x :: b).length := mvL_length (by omega) (by rw [hl]; omega)
 have hn : Int.toNat ((a.length : Int) + (((a ++ x :: b).length : Int) - ((a.length : Int) + 1))) = a.length + b.length := by rw [hl]; omega
 have hn2 : Int.toNat (0 + (((a.length : Int) + (((a ++ x :: b).length : Int) - ((a.length : Int) + 1))) - 0)) = a.length + b.length := by rw [hl]; omega
 have hc : ∀ z, (clrL (mvL (a ++ x :: b) (Int.toNat (a.length : Int)) (Int.toNat ((a.length : Int) + 1))) (a.length + b.length) (Int.toNat (0 + ((a ++ x :: b).length : Int))) z).length = (a ++ x :: b).length := fun z => by
  rw [clrL_length (by rw [hl]; omega) (by rw [hm]; omega), hm]
 rw [need_eq (by rw [hl]; omega), if_neg (by omega), need_eq ⟨by omega, by omega, by rw [hl]; omega⟩, need_eq ⟨by omega, by rw [hl]; omega, by omega⟩, need_eq (by rw [hl]; omega), need_eq (by rw [hl]; omega),
  need_eq ⟨by omega, by rw [hl]; omega, by rw [hm, hl]; omega⟩, need_eq (by rw [hm, hl]; omega), need_eq ⟨by rw [hl]; omega, by rw [hl]; omega, by rw [hm]; omega⟩, hn2, need_eq (by rw [hc, hl]; omega), hn,
  clr_take _ _ _ _ (by rw [hm, hl]; omega), Int.toNat_natCast, show Int.toNat ((a.length : Int) + 1) = a.length + 1 by omega, mv_take]

theorem meets_v_eq {d : api.Disk} (h : DSz d) (name : List UInt8) (kind : Int) : disk.meets_v name kind d = some ((takeF name kind d.Faults).1.getD ⟨[], 0, 0⟩, (takeF name kind d.Faults).1.isSome, { d with Faults := (takeF name kind d.Faults).2 }) := by
 have ht := h.t
 have h1 : slices.IndexFunc_api_Fault_v_disk_meets_1.loop0 d.Faults name kind ⟨0⟩ = some (match idxF (isF name kind) d.Faults 0 with | some i => .inr (i : Int) | none => .inl ()) := by
  unfold slices.IndexFunc_api_Fault_v_disk_meets_1.loop0
  refine whileO_idxE (σ := slices.IndexFunc_api_Fault_v_disk_meets_1.S0) (ρ := Unit ⊕ Int) _ (fun i => ⟨(i : Int)⟩) d.Faults (isF name kind) (fun i => .inr (i : Int)) (.inl ()) (fun i hi => ?_) ?_
  ·have hin : InB (i : Int) d.Faults.length := ⟨by omega, by omega⟩
   unfold slices.IndexFunc_api_Fault_v_disk_meets_1.body0
   show (if (i : Int) < (d.Faults.length : Int) then _ else _) = _
   rw [if_pos (by omega), need_eq hin, need_eq hin]
   show (disk.meets_1 (ix d.Faults (i : Int)) name kind).bind _ = _
   rw [ix_get hi]
   have e1 : disk.meets_1 d.Faults[i] name kind = some (isF name kind d.Faults[i]) := by
    unfold disk.meets_1 isF
    show some (if d.Faults[i].Name = name then _ else _) = _
    by_cases hh : d.Faults[i].Name = name
    ·rw [if_pos hh, decide_eq_true hh, Bool.true_and]
    ·rw [if_neg hh, decide_eq_false hh, Bool.false_and]
   rw [e1, Option.bind_some]
   show (if isF name kind d.Faults[i] = true then _ else some (Sum.inl (⟨IntKind.wrap .i64 ((i : Int) + 1)⟩ : slices.IndexFunc_api_Fault_v_disk_meets_1.S0))) = _
   rw [i64w (by omega) (by omega), show (i : Int) + 1 = ((i + 1 : Nat) : Int) by omega]
   split <;> rfl
  ·unfold slices.IndexFunc_api_Fault_v_disk_meets_1.body0
   exact if_neg (by show ¬ (d.Faults.length : Int) < (d.Faults.length : Int); omega)
 unfold disk.meets_v slices.IndexFunc_api_Fault_v_disk_meets_1
 rw [h1, Option.bind_some]
 rcases idxF_cases (isF name kind) d.Faults 0 with ⟨h2, h3⟩ | ⟨a, x, b, h2, h3, h4, h5⟩
 ·rw [h2, takeF_none h3]
  rfl
 ·rw [h3, Nat.zero_add]
  have h6 : takeF name kind d.Faults = (some x, a ++ b) := by rw [h2]; exact takeF_mid h4 h5
  have hlt : a.length < d.Faults.length := by rw [h2]; simp
  rw [h6]
  show (if (a.length : Int) < 0 then some (({ Name := [], Kind := 0, Short := 0 } : api.Fault), false, d) else need (InB (a.length : Int) d.Faults.length) (need (InB (a.length : Int) d.Faults.length) ((slices.Delete_api_Fault_v d.Faults (a.length : Int) (IntKind.wrap .i64 ((a.length : Int) + 1))).bind _))) = _
  have hin : InB (a.length : Int) d.Faults.length := ⟨by omega, by omega⟩
  rw [if_neg (by omega), need_eq hin, need_eq hin, i64w (by omega) (by omega)]
  have e2 : slices.Delete_api_Fault_v d.Faults (a.length : Int) ((a.length : Int) + 1) = some (a ++ b) := by rw [h2]; exact Delete_eq
  have e3 : ix d.Faults (a.length : Int) = x := by rw [h2]; exact ix_mid rfl
  rw [e2, Option.bind_some]
  show some (ix d.Faults (a.length : Int), true, _) = _
  rw [e3]
  rfl

/-! ### Files -/
/-- The file of a name. -/
def look (l : List api.File) (name : List UInt8) : Option api.File := l.find? (isN name)
/-- The first file of a name, turned. -/
def modF (g : api.File → api.File) (name : List UInt8) : List api.File → List api.File
 | [] => []
 | x :: xs => if isN name x then g x :: xs else x :: modF g name xs

theorem isN_iff {name : List UInt8} {f : api.File} : isN name f = true ↔ f.Name = name := by simp [isN]
theorem isN_not {name : List UInt8} {f : api.File} : isN name f = false ↔ f.Name ≠ name := by simp [isN]

theorem look_none {l : List api.File} {name : List UInt8} (h : ∀ x, x ∈ l → x.Name ≠ name) : look l name = none :=
 List.find?_eq_none.2 fun x hx => by rw [isN_iff]; exact h x hx
theorem look_mid {a b : List api.File} {x : api.File} {name : List UInt8} (hx : x.Name = name) (h : ∀ y, y ∈ a → y.Name ≠ name) : look (a ++ x :: b) name = some x := by
 unfold look
 rw [List.find?_append, List.find?_eq_none.2 fun y hy => by rw [isN_iff]; exact h y hy, Option.none_or]
 rw [List.find?_cons, isN_iff.2 hx]
theorem modF_mid {g : api.File → api.File} {name : List UInt8} : ∀ {a b : List api.File} {x : api.File}, x.Name = name → (∀ y, y ∈ a → y.Name ≠ name) → modF g name (a ++ x :: b) = a ++ g x :: b
 | [], b, x, hx, _ => by
  show (if isN name x = true then g x :: b else _) = _
  rw [if_pos (isN_iff.2 hx)]; rfl
 | y :: a, b, x, hx, h => by
  show modF g name (y :: (a ++ x :: b)) = _
  unfold modF
  rw [isN_not.2 (h y (List.mem_cons_self ..)), modF_mid hx fun z hz => h z (List.mem_cons_of_mem _ hz)]
  rfl
theorem modF_len (g : api.File → api.File) (name : List UInt8) (l : List api.File) : (modF g name l).length = l.length := by
 induction l with
 | nil => rfl
 | cons x l ih => unfold modF; split <;> simp [ih]

theorem look_modF (g : api.File → api.File) (hg : ∀ x, (g x).Name = x.Name) (name k : List UInt8) : ∀ (l : List api.File), look (modF g name l) k = if k = name then (look l name).map g else look l k
 | [] => by simp [modF, look]
 | x :: l => by
  have ih := look_modF g hg name k l
  unfold look at ih ⊢
  unfold modF
  by_cases hx : x.Name = name
  ·rw [if_pos (isN_iff.2 hx), List.find?_cons, List.find?_cons, List.find?_cons, isN_iff.2 hx]
   by_cases hk : k = name
   ·rw [if_pos hk, isN_iff.2 (by rw [hg, hx, hk])]
    rfl
   ·rw [if_neg hk, isN_not.2 (by rw [hg, hx]; exact fun e => hk e.symm), isN_not.2 (by rw [hx]; exact fun e => hk e.symm)]
  ·rw [if_neg (by rw [isN_iff]; exact hx), List.find?_cons, List.find?_cons, List.find?_cons, isN_not.2 hx]
   by_cases hk : x.Name = k
   ·rw [isN_iff.2 hk, if_neg (fun e => hx (hk.trans e))]
   ·rw [isN_not.2 hk]
    exact ih

/-- What is written to a file. -/
def wrF (s : List UInt8) (x : api.File) : api.File := { Name := x.Name, Data := x.Data ++ s, Synced := (clampN x.Synced x.Data.length : Int) }
def putF (l : List api.File) (name s : List UInt8) : List api.File := if (look l name).isSome then modF (wrF s) name l else l ++ [{ Name := name, Data := s, Synced := 0 }]

theorem look_append (a b : List api.File) (k : List UInt8) : look (a ++ b) k = (look a k).or (look b k) := List.find?_append ..

theorem look_putF (l : List api.File) (name s k : List UInt8) : look (putF l name s) k = if k = name then some (match look l name with | some x => wrF s x | none => { Name := name, Data := s, Synced := 0 }) else look l k := by
 unfold putF
 cases h : look l name with
 | some x =>
  rw [if_pos (show (some x).isSome = true from rfl), look_modF (wrF s) (fun _ => rfl)]
  by_cases hk : k = name
  ·rw [if_pos hk, if_pos hk, h]; rfl
  ·rw [if_neg hk, if_neg hk]
 | none =>
  rw [if_neg (by simp), look_append]
  by_cases hk : k = name
  ·rw [if_pos hk, hk, h, Option.none_or]
   simp [look, isN]
  ·rw [if_neg hk]
   have : look [({ Name := name, Data := s, Synced := 0 } : api.File)] k = none := look_none fun x hx => by
    obtain rfl := List.mem_singleton.1 hx
    exact fun e => hk e.symm
   rw [this, Option.or_none]

theorem sub0 {α : Type} (xs : List α) (n : Nat) : sub xs 0 (n : Int) = xs.take n := by rw [sub_zero]; rfl

/-- What a write writes, and its error. -/
def wrS (o : Option api.Fault) (s : List UInt8) : List UInt8 := match o with | some f => s.take (clampN f.Short s.length) | none => s
def wrE (o : Option api.Fault) : Int := if o.isSome then 15 else 0

theorem wrS_le (o : Option api.Fault) (s : List UInt8) : (wrS o s).length ≤ s.length := by
 cases o with
 | none => exact Nat.le_refl _
 | some f => exact List.length_take_le' _ _

/-- All of a file is safe. -/
def syF (x : api.File) : api.File := { x with Synced := (x.Data.length : Int) }

theorem Sync_eq {d : api.Disk} (h : DSz d) (name : List UInt8) : disk.Sync d name = some (
  if (look d.Files name).isSome then
   if (takeF name 2 d.Faults).1.isSome then ({ d with Faults := (takeF name 2 d.Faults).2 }, 15) else ({ Files := modF syF name d.Files, Faults := (takeF name 2 d.Faults).2 }, 0)
  else (d, 8)) := by
 have hF := h.f
 unfold disk.Sync
 rw [own_eq h, Option.bind_some, find_v_eq hF, Option.bind_some]
 rcases fx_cases d.Files name with ⟨h1, h2⟩ | ⟨a, x, b, h1, h2, h3, h4⟩
 ·rw [h1, if_pos (by decide), look_none h2]
  rfl
 ·have hl : look d.Files name = some x := by rw [h1]; exact look_mid h3 h4
  have hin : InB (a.length : Int) d.Files.length := by rw [h1]; exact inb_mid rfl
  have hix : ix d.Files (a.length : Int) = x := by rw [h1]; exact ix_mid rfl
  rw [h2, if_neg (by omega), meets_v_eq h, Option.bind_some, hl, if_pos (show (some x).isSome = true from rfl)]
  show (if (takeF name 2 d.Faults).1.isSome = true then some ({ d with Faults := (takeF name 2 d.Faults).2 }, (15 : Int)) else need (InB (a.length : Int) d.Files.length) (need (InB (a.length : Int) d.Files.length) (need (InB (a.length : Int) d.Files.length) (need (InB (a.length : Int) d.Files.length) (some (({ Files := upd d.Files (a.length : Int) { (ix d.Files (a.length : Int)) with Synced := ((ix d.Files (a.length : Int)).Data.length : Int) }, Faults := (takeF name 2 d.Faults).2 } : api.Disk), (0 : Int))))))) = _
  rw [need_eq hin, need_eq hin, need_eq hin, need_eq hin, hix]
  have hu : upd d.Files (a.length : Int) { x with Synced := (x.Data.length : Int) } = modF syF name d.Files := by
   rw [h1, upd_mid rfl, modF_mid h3 h4]
   rfl
  rw [hu]
  split <;> rfl

/-- A file's first bytes. -/
def cuF (n : Int) (x : api.File) : api.File := { Name := x.Name, Data := x.Data.take (clampN n x.Data.length), Synced := (clampN x.Synced (clampN n x.Data.length) : Int) }

theorem Cut_eq {d : api.Disk} (h : DSz d) (name : List UInt8) (n : Int) : disk.Cut d name n = some (if (look d.Files name).isSome then ({ d with Files := modF (cuF n) name d.Files }, 0) else (d, 8)) := by
 have hF := h.f
 unfold disk.Cut
 rw [own_eq h, Option.bind_some, find_v_eq hF, Option.bind_some]
 rcases fx_cases d.Files name with ⟨h1, h2⟩ | ⟨a, x, b, h1, h2, h3, h4⟩
 ·rw [h1, if_pos (by decide), look_none h2]
  rfl
 ·have hl : look d.Files name = some x := by rw [h1]; exact look_mid h3 h4
  have hc := clampN_le n x.Data.length
  rw [hl, if_pos (show (some x).isSome = true from rfl), h2, if_neg (by omega)]
  obtain ⟨Files, Faults⟩ := d
  have h1 : Files = a ++ x :: b := h1
  subst h1
  have hi : (a.length : Int) = (a.length : Int) := rfl
  simp only [ix_mid hi, upd_mid hi]
  rw [need_eq (inb_mid hi), need_eq (inb_mid hi), need_eq (inb_mid hi), clampN_eq, need_eq ⟨by omega, by omega, by omega⟩, need_eq (inb_mid hi), need_eq (inb_mid hi), safe_eq, Option.bind_some, need_eq (inb_mid hi), sub0, modF_mid h3 h4]
  have e : (x.Data.take (clampN n x.Data.length)).length = clampN n x.Data.length := by rw [List.length_take]; omega
  unfold cuF
  rw [e]

theorem Read_eq {d : api.Disk} (h : d.Files.length < 1000000000) (name : List UInt8) : disk.Read d name = some (match look d.Files name with | some x => (x.Data, 0) | none => ([], 8)) := by
 unfold disk.Read
 rw [find_eq h, Option.bind_some]
 rcases fx_cases d.Files name with ⟨h1, h2⟩ | ⟨a, x, b, h1, h2, h3, h4⟩
 ·rw [h1, if_pos (by decide), look_none h2]
 ·have hl : look d.Files name = some x := by rw [h1]; exact look_mid h3 h4
  have hin : InB (a.length : Int) d.Files.length := by rw [h1]; exact inb_mid rfl
  have hix : ix d.Files (a.length : Int) = x := by rw [h1]; exact ix_mid rfl
  rw [h2, if_neg (by omega), need_eq hin, hix, hl]

theorem Safe_eq {d : api.Disk} (h : d.Files.length < 1000000000) (name : List UInt8) : disk.Safe d name = some (match look d.Files name with | some x => x.Data.take (clampN x.Synced x.Data.length) | none => []) := by
 unfold disk.Safe
 rw [find_eq h, Option.bind_some]
 rcases fx_cases d.Files name with ⟨h1, h2⟩ | ⟨a, x, b, h1, h2, h3, h4⟩
 ·rw [h1, if_pos (by decide), look_none h2]
 ·have hl : look d.Files name = some x := by rw [h1]; exact look_mid h3 h4
  have hin : InB (a.length : Int) d.Files.length := by rw [h1]; exact inb_mid rfl
  have hix : ix d.Files (a.length : Int) = x := by rw [h1]; exact ix_mid rfl
  have hc := clampN_le x.Synced x.Data.length
  rw [h2, if_neg (by omega), need_eq hin, need_eq hin, hix, safe_eq, Option.bind_some, need_eq ⟨by omega, by omega, by omega⟩, sub0, hl]

end Go.Pu
