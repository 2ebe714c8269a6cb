import Derived.Test.YtlidepjlhmaldaaDPPuDisk3
set_option maxHeartbeats 0
set_option maxRecDepth 100000
namespace Go.Pu
open Go.Lift

def isK (f : api.File) (k : api.Keep) : Bool := decide (k.Name = f.Name)
def kx (keeps : List api.Keep) (f : api.File) : Int := match idxF (isK f) keeps 0 with | some i => (i : Int) | none => -1
/-- How much more than what is safe is kept of a file. -/
def moreN (keeps : List api.Keep) (f : api.File) : Nat := match idxF (isK f) keeps 0 with | some i => clampN (ix keeps (i : Int)).Bytes (f.Data.length - clampN f.Synced f.Data.length) | none => 0
def leftN (keeps : List api.Keep) (f : api.File) : Nat := clampN f.Synced f.Data.length + moreN keeps f
def crF (keeps : List api.Keep) (f : api.File) : api.File := { Name := f.Name, Data := f.Data.take (leftN keeps f), Synced := (leftN keeps f : Int) }

theorem leftN_le (keeps : List api.Keep) (f : api.File) : leftN keeps f ≤ f.Data.length ∧ clampN f.Synced f.Data.length ≤ leftN keeps f := by
 have h1 := clampN_le f.Synced f.Data.length
 unfold leftN moreN
 cases idxF (isK f) keeps 0 with
 | none => exact ⟨by show _ + 0 ≤ _; omega, by show _ ≤ _ + 0; omega⟩
 | some i =>
  have h2 := clampN_le (ix keeps (i : Int)).Bytes (f.Data.length - clampN f.Synced f.Data.length)
  exact ⟨by show _ + clampN _ _ ≤ _; omega, by show _ ≤ _ + clampN _ _; omega⟩

theorem keepIx_eq (keeps : List api.Keep) (f : api.File) (h : keeps.length < 1000000000) : slices.IndexFunc_api_Keep_disk_Crash_1 keeps f = some (kx keeps f) := by
 have h1 : slices.IndexFunc_api_Keep_disk_Crash_1.loop0 keeps f ⟨0⟩ = some (match idxF (isK f) keeps 0 with | some i => .inr (i : Int) | none => .inl ()) := by
  unfold slices.IndexFunc_api_Keep_disk_Crash_1.loop0
  refine whileO_idxE (σ := slices.IndexFunc_api_Keep_disk_Crash_1.S0) (ρ := Unit ⊕ Int) _ (fun i => ⟨(i : Int)⟩) keeps (isK f) (fun i => .inr (i : Int)) (.inl ()) (fun i hi => ?_) ?_
  ·have hin : InB (i : Int) keeps.length := ⟨by omega, by omega⟩
   unfold slices.IndexFunc_api_Keep_disk_Crash_1.body0
   show (if (i : Int) < (keeps.length : Int) then _ else _) = _
   rw [if_pos (by omega), need_eq hin]
   show (disk.Crash_1 (ix keeps (i : Int)) f).bind _ = _
   rw [ix_get hi]
   unfold disk.Crash_1
   rw [Option.bind_some]
   show (if isK f keeps[i] = true then _ else some (Sum.inl (⟨IntKind.wrap .i64 ((i : Int) + 1)⟩ : slices.IndexFunc_api_Keep_disk_Crash_1.S0))) = _
   rw [i64w (by omega) (by omega), show (i : Int) + 1 = ((i + 1 : Nat) : Int) by omega]
   split <;> rfl
  ·unfold slices.IndexFunc_api_Keep_disk_Crash_1.body0
   exact if_neg (by show ¬ (keeps.length : Int) < (keeps.length : Int); omega)
 unfold slices.IndexFunc_api_Keep_disk_Crash_1 kx
 rw [h1, Option.bind_some]
 cases idxF (isK f) keeps 0 <;> rfl

theorem Crash_eq (d : api.Disk) (keeps : List api.Keep) (hd : d.Files.length < 1000000) (hb : ∀ x, x ∈ d.Files → x.Data.length < 1000000000) (hk : keeps.length < 1000000) : disk.Crash d keeps = some { Files := (fstA d.Files).map (crF keeps), Faults := [] } := by
 suffices h : disk.Crash.loop0 d keeps ⟨[], 0⟩ = some ((fstA d.Files).map (crF keeps)) by
  unfold disk.Crash
  rw [h]; rfl
 unfold disk.Crash.loop0
 refine whileO_knownE ⟨[], 0⟩ (fun i => (⟨(fsts d.Files i).map (crF keeps), (i : Int)⟩ : disk.Crash.S0)) d.Files.length (fun i hi => ?_) ?_
 ·unfold disk.Crash.body0
  show (if (i : Int) < (d.Files.length : Int) then _ else _) = _
  rw [if_pos (by omega)]
  show ((need (InB (i : Int) d.Files.length) ((disk.find d (ix d.Files (i : Int)).Name).bind _)).bind _) = _
  have hw : IntKind.wrap .i64 ((i : Int) + 1) = ((i + 1 : Nat) : Int) := by rw [i64w (by omega) (by omega)]; omega
  rw [need_eq ⟨by omega, by omega⟩, find_eq (by omega), Option.bind_some]
  show _ = some (Sum.inl (⟨(fsts d.Files (i + 1)).map (crF keeps), ((i + 1 : Nat) : Int)⟩ : disk.Crash.S0))
  rw [fsts_succ]
  by_cases hf : fx d.Files (ix d.Files (i : Int)).Name = (i : Int)
  ·rw [if_pos hf, if_pos (show fx d.Files (ix d.Files (i : Int)).Name = (i : Int) from hf)]
   have hx : ix d.Files (i : Int) ∈ d.Files := by rw [ix_get hi]; exact List.getElem_mem hi
   simp only []
   generalize ix d.Files (i : Int) = f at hx
   have hfb := hb f hx
   obtain ⟨l1, l2⟩ := leftN_le keeps f
   have hcl := clampN_le f.Synced f.Data.length
   rw [safe_eq, Option.bind_some, keepIx_eq keeps f (by omega), Option.bind_some]
   have hmid : (if (0 : Int) ≤ kx keeps f then
      need (InB (kx keeps f) keeps.length) <|
      letO (IntKind.wrap .i64 ((clampN f.Synced f.Data.length : Int) + (if (IntKind.wrap .i64 ((f.Data.length : Int) - (clampN f.Synced f.Data.length : Int))) < (if (ix keeps (kx keeps f)).Bytes < (0 : Int) then (0 : Int) else (ix keeps (kx keeps f)).Bytes) then (IntKind.wrap .i64 ((f.Data.length : Int) - (clampN f.Synced f.Data.length : Int))) else (if (ix keeps (kx keeps f)).Bytes < (0 : Int) then (0 : Int) else (ix keeps (kx keeps f)).Bytes)))) fun x537 =>
      some x537
     else
      some (clampN f.Synced f.Data.length : Int)) = some (leftN keeps f : Int) := by
    unfold leftN moreN kx at *
    cases hi2 : idxF (isK f) keeps 0 with
    | none => exact if_neg (by decide)
    | some j =>
     rw [hi2] at l1 l2
     obtain ⟨_, _, hj, _⟩ := idxF_some hi2
     have e1 : (f.Data.length : Int) - (clampN f.Synced f.Data.length : Int) = ((f.Data.length - clampN f.Synced f.Data.length : Nat) : Int) := by omega
     have hc2 := clampN_le (ix keeps (j : Int)).Bytes (f.Data.length - clampN f.Synced f.Data.length)
     show (if (0 : Int) ≤ (j : Int) then need (InB (j : Int) keeps.length) (some (IntKind.wrap .i64 ((clampN f.Synced f.Data.length : Int) + (if (IntKind.wrap .i64 ((f.Data.length : Int) - (clampN f.Synced f.Data.length : Int))) < (if (ix keeps (j : Int)).Bytes < 0 then 0 else (ix keeps (j : Int)).Bytes) then (IntKind.wrap .i64 ((f.Data.length : Int) - (clampN f.Synced f.Data.length : Int))) else (if (ix keeps (j : Int)).Bytes < 0 then 0 else (ix keeps (j : Int)).Bytes))))) else _) = _
     rw [if_pos (by omega), need_eq ⟨by omega, by omega⟩, e1, i64w (n := ((f.Data.length - clampN f.Synced f.Data.length : Nat) : Int)) (by omega) (by omega), clampN_eq, i64w (by omega) (by omega)]
     show some _ = some ((clampN f.Synced f.Data.length + clampN (ix keeps (j : Int)).Bytes (f.Data.length - clampN f.Synced f.Data.length) : Nat) : Int)
     congr 1
   show ((((if (0 : Int) ≤ kx keeps f then
      need (InB (kx keeps f) keeps.length) <|
      letO (IntKind.wrap .i64 ((clampN f.Synced f.Data.length : Int) + (if (IntKind.wrap .i64 ((f.Data.length : Int) - (clampN f.Synced f.Data.length : Int))) < (if (ix keeps (kx keeps f)).Bytes < (0 : Int) then (0 : Int) else (ix keeps (kx keeps f)).Bytes) then (IntKind.wrap .i64 ((f.Data.length : Int) - (clampN f.Synced f.Data.length : Int))) else (if (ix keeps (kx keeps f)).Bytes < (0 : Int) then (0 : Int) else (ix keeps (kx keeps f)).Bytes)))) fun x537 =>
      some x537
     else
      some (clampN f.Synced f.Data.length : Int) : Option Int).bind _).bind _) : Option _) = _
   rw [hmid, Option.bind_some]
   have hlen := fsts_len d.Files i
   show ((need (InR 0 (leftN keeps f : Int) f.Data.length) (need ((((fsts d.Files i).map (crF keeps)).length + 1) * 40 ≤ 140737488355328) (some ((fsts d.Files i).map (crF keeps) ++ [({ Name := f.Name, Data := sub f.Data 0 (leftN keeps f : Int), Synced := (leftN keeps f : Int) } : api.File)])))).bind _) = _
   rw [need_eq ⟨by omega, by omega, by omega⟩, need_eq (by rw [List.length_map]; omega), Option.bind_some]
   show some (Sum.inl (⟨_, IntKind.wrap .i64 ((i : Int) + 1)⟩ : disk.Crash.S0)) = _
   rw [hw, sub0, List.map_append]
   rfl
  ·rw [if_neg hf, if_neg (show ¬ fx d.Files (ix d.Files (i : Int)).Name = (i : Int) from hf), List.append_nil, Option.bind_some]
   show some (Sum.inl (⟨_, IntKind.wrap .i64 ((i : Int) + 1)⟩ : disk.Crash.S0)) = _
   rw [hw]
 ·unfold disk.Crash.body0
  show (if (d.Files.length : Int) < (d.Files.length : Int) then _ else _) = _
  rw [if_neg (by omega)]
  rfl

end Go.Pu
