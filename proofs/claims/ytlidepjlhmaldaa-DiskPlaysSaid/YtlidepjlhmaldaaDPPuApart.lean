import Derived.Test.YtlidepjlhmaldaaDPPuDisk2
import Derived.Test.YtlidepjlhmaldaaDPC
set_option maxHeartbeats 0
set_option maxRecDepth 100000
namespace Go.Pu
open Go.Lift

theorem alive16 : mewslaw16.alive = some true := mewslaw16.alive.c_le 100 true (by decide +kernel)

theorem min10000 (n : Nat) : (if 10000 < (n : Int) then 10000 else (n : Int)) = ((min n 10000 : Nat) : Int) := by split <;> omega

/-- The sizes that chapter 16 speaks of. -/
structure Small16 (d : api.Disk) : Prop where
 f : d.Files.length ≤ 40
 t : d.Faults.length ≤ 100
 b : ∀ x, x ∈ d.Files → x.Data.length ≤ 5000 ∧ x.Name.length ≤ 5000

theorem Far16_eq (d : api.Disk) (l : List mewslaw16.Op) (hd : d.Files.length < 1000000000000000) (hl : l.length < 1000000000000000) :
  ∃ b, mewslaw16.Far d l = some b ∧ (b = false → Small16 d ∧ l.length ≤ 100 ∧ ∀ o, o ∈ l → o.S.length ≤ 5000 ∧ o.Name.length ≤ 5000) := by
 have m1 : ∃ q, mewslaw16.Far.loop0 d ⟨0, 0⟩ = some q ∧ (q = .inr true ∨ ∃ n : Nat, q = .inl (n : Int) ∧ n ≤ 5000 ∧ ∀ x, x ∈ d.Files → x.Data.length ≤ 5000 ∧ x.Name.length ≤ 5000) := by
  unfold mewslaw16.Far.loop0
  refine whileO_dec (fun s => ∃ n i : Nat, s = ⟨(n : Int), (i : Int)⟩ ∧ n ≤ 5000 ∧ i ≤ d.Files.length ∧ ∀ x, x ∈ d.Files.take i → x.Data.length ≤ 5000 ∧ x.Name.length ≤ 5000) (fun s => d.Files.length - s.t13.toNat) _ ?_ _ ⟨0, 0, rfl, Nat.zero_le _, Nat.zero_le _, fun x hx => by simp at hx⟩
  rintro s ⟨n, i, rfl, hn, hi, hall⟩
  unfold mewslaw16.Far.body0
  by_cases hlt : i < d.Files.length
  ·rw [if_pos (show (i : Int) < (d.Files.length : Int) by omega), need_eq ⟨by show (0 : Int) ≤ (i : Int); omega, by show (i : Int) < (d.Files.length : Int); omega⟩]
   have e : IntKind.wrap .i64 ((n : Int) + (IntKind.wrap .i64 ((if 10000 < ((ix d.Files (i : Int)).Data.length : Int) then 10000 else ((ix d.Files (i : Int)).Data.length : Int)) + (if 10000 < ((ix d.Files (i : Int)).Name.length : Int) then 10000 else ((ix d.Files (i : Int)).Name.length : Int))))) = ((n + (min d.Files[i].Data.length 10000 + min d.Files[i].Name.length 10000) : Nat) : Int) := by
    rw [ix_get hlt, min10000, min10000, i64w (n := ((min d.Files[i].Data.length 10000 : Nat) : Int) + ((min d.Files[i].Name.length 10000 : Nat) : Int)) (by omega) (by omega), i64w (by omega) (by omega)]
    omega
   show (∃ s', letO (IntKind.wrap .i64 ((n : Int) + (IntKind.wrap .i64 ((if 10000 < ((ix d.Files (i : Int)).Data.length : Int) then 10000 else ((ix d.Files (i : Int)).Data.length : Int)) + (if 10000 < ((ix d.Files (i : Int)).Name.length : Int) then 10000 else ((ix d.Files (i : Int)).Name.length : Int)))))) (fun x144 => if 5000 < x144 then some (Sum.inr (Sum.inr true)) else some (Sum.inl (⟨x144, IntKind.wrap .i64 ((i : Int) + 1)⟩ : mewslaw16.Far.S0))) = some (Sum.inl s') ∧ _) ∨ ∃ r, letO (IntKind.wrap .i64 ((n : Int) + (IntKind.wrap .i64 ((if 10000 < ((ix d.Files (i : Int)).Data.length : Int) then 10000 else ((ix d.Files (i : Int)).Data.length : Int)) + (if 10000 < ((ix d.Files (i : Int)).Name.length : Int) then 10000 else ((ix d.Files (i : Int)).Name.length : Int)))))) (fun x144 => if 5000 < x144 then some (Sum.inr (Sum.inr true)) else some (Sum.inl (⟨x144, IntKind.wrap .i64 ((i : Int) + 1)⟩ : mewslaw16.Far.S0))) = some (Sum.inr r) ∧ _
   rw [e, i64w (by omega) (by omega)]
   unfold letO
   dsimp only
   by_cases hb : 5000 < n + (min d.Files[i].Data.length 10000 + min d.Files[i].Name.length 10000)
   ·right
    rw [if_pos (by omega)]
    exact ⟨_, rfl, .inl rfl⟩
   ·left
    rw [if_neg (by omega)]
    refine ⟨_, rfl, ⟨_, i + 1, by rw [show ((i : Int) + 1) = ((i + 1 : Nat) : Int) by omega], by omega, hlt, fun x hx => ?_⟩, ?_⟩
    ·rw [List.take_add_one, List.getElem?_eq_getElem hlt] at hx
     rcases List.mem_append.1 hx with hx | hx
     ·exact hall x hx
     ·obtain rfl : x = d.Files[i] := by simpa using hx
      omega
    ·show d.Files.length - ((i : Int) + 1).toNat < d.Files.length - (i : Int).toNat
     omega
  ·right
   rw [if_neg (show ¬ (i : Int) < (d.Files.length : Int) by omega)]
   refine ⟨_, rfl, .inr ⟨n, rfl, hn, ?_⟩⟩
   rwa [List.take_of_length_le (by omega)] at hall
 obtain ⟨q, hq, hq2⟩ := m1
 unfold mewslaw16.Far
 rw [hq, Option.bind_some]
 rcases hq2 with rfl | ⟨n, rfl, hn, hall⟩
 ·exact ⟨true, rfl, fun h => by cases h⟩
 ·have m2 : ∃ q, mewslaw16.Far.loop2 l ⟨(n : Int), 0⟩ = some q ∧ (q = .inr true ∨ q = .inl () ∧ ∀ o, o ∈ l → o.S.length ≤ 5000 ∧ o.Name.length ≤ 5000) := by
   unfold mewslaw16.Far.loop2
   refine whileO_dec (fun s => ∃ n i : Nat, s = ⟨(n : Int), (i : Int)⟩ ∧ n ≤ 5000 ∧ i ≤ l.length ∧ ∀ x, x ∈ l.take i → x.S.length ≤ 5000 ∧ x.Name.length ≤ 5000) (fun s => l.length - s.t33.toNat) _ ?_ _ ⟨n, 0, rfl, hn, Nat.zero_le _, fun x hx => by simp at hx⟩
   rintro s ⟨n, i, rfl, hn, hi, hall⟩
   unfold mewslaw16.Far.body2
   by_cases hlt : i < l.length
   ·rw [if_pos (show (i : Int) < (l.length : Int) by omega), need_eq ⟨by show (0 : Int) ≤ (i : Int); omega, by show (i : Int) < (l.length : Int); omega⟩]
    have e : IntKind.wrap .i64 ((n : Int) + (IntKind.wrap .i64 ((if 10000 < ((ix l (i : Int)).S.length : Int) then 10000 else ((ix l (i : Int)).S.length : Int)) + (if 10000 < ((ix l (i : Int)).Name.length : Int) then 10000 else ((ix l (i : Int)).Name.length : Int))))) = ((n + (min l[i].S.length 10000 + min l[i].Name.length 10000) : Nat) : Int) := by
     rw [ix_get hlt, min10000, min10000, i64w (n := ((min l[i].S.length 10000 : Nat) : Int) + ((min l[i].Name.length 10000 : Nat) : Int)) (by omega) (by omega), i64w (by omega) (by omega)]
     omega
    show (∃ s', letO (IntKind.wrap .i64 ((n : Int) + (IntKind.wrap .i64 ((if 10000 < ((ix l (i : Int)).S.length : Int) then 10000 else ((ix l (i : Int)).S.length : Int)) + (if 10000 < ((ix l (i : Int)).Name.length : Int) then 10000 else ((ix l (i : Int)).Name.length : Int)))))) (fun x189 => if 5000 < x189 then some (Sum.inr (Sum.inr true)) else some (Sum.inl (⟨x189, IntKind.wrap .i64 ((i : Int) + 1)⟩ : mewslaw16.Far.S2))) = some (Sum.inl s') ∧ _) ∨ ∃ r, letO (IntKind.wrap .i64 ((n : Int) + (IntKind.wrap .i64 ((if 10000 < ((ix l (i : Int)).S.length : Int) then 10000 else ((ix l (i : Int)).S.length : Int)) + (if 10000 < ((ix l (i : Int)).Name.length : Int) then 10000 else ((ix l (i : Int)).Name.length : Int)))))) (fun x189 => if 5000 < x189 then some (Sum.inr (Sum.inr true)) else some (Sum.inl (⟨x189, IntKind.wrap .i64 ((i : Int) + 1)⟩ : mewslaw16.Far.S2))) = some (Sum.inr r) ∧ _
    rw [e, i64w (by omega) (by omega)]
    unfold letO
    dsimp only
    by_cases hb : 5000 < n + (min l[i].S.length 10000 + min l[i].Name.length 10000)
    ·right
     rw [if_pos (by omega)]
     exact ⟨_, rfl, .inl rfl⟩
    ·left
     rw [if_neg (by omega)]
     refine ⟨_, rfl, ⟨_, i + 1, by rw [show ((i : Int) + 1) = ((i + 1 : Nat) : Int) by omega], by omega, hlt, fun x hx => ?_⟩, ?_⟩
     ·rw [List.take_add_one, List.getElem?_eq_getElem hlt] at hx
      rcases List.mem_append.1 hx with hx | hx
      ·exact hall x hx
      ·obtain rfl : x = l[i] := by simpa using hx
       omega
     ·show l.length - ((i : Int) + 1).toNat < l.length - (i : Int).toNat
      omega
   ·right
    rw [if_neg (show ¬ (i : Int) < (l.length : Int) by omega)]
    refine ⟨_, rfl, .inr ⟨rfl, ?_⟩⟩
    rwa [List.take_of_length_le (by omega)] at hall
  obtain ⟨q2, hq2, hq3⟩ := m2
  show ∃ b, (mewslaw16.Far.loop2 l ⟨(n : Int), 0⟩).bind _ = some b ∧ _
  rw [hq2, Option.bind_some]
  rcases hq3 with rfl | ⟨rfl, hall2⟩
  ·exact ⟨true, rfl, fun h => by cases h⟩
  ·refine ⟨_, rfl, fun h => ?_⟩
   by_cases h1 : 40 < (d.Files.length : Int)
   ·rw [if_pos h1] at h; cases h
   ·rw [if_neg h1] at h
    by_cases h2 : 100 < (d.Faults.length : Int)
    ·rw [if_pos h2] at h; cases h
    ·rw [if_neg h2] at h
     have h3 := of_decide_eq_false h
     exact ⟨⟨by omega, by omega, hall⟩, by omega, hall2⟩

theorem Small16.dsz {d : api.Disk} (h : Small16 d) : DSz d := ⟨by have := h.f; omega, by have := h.t; omega, fun x hx => by have := (h.b x hx).1; omega⟩

theorem putF_len (l : List api.File) (name s : List UInt8) : (putF l name s).length ≤ l.length + 1 := by
 unfold putF
 split
 ·rw [modF_len]; omega
 ·rw [List.length_append, List.length_singleton]; omega
theorem renF_len (frm to : List UInt8) (l : List api.File) : (renF frm to l).length ≤ l.length := by
 induction l with
 | nil => exact Nat.le_refl _
 | cons x l ih =>
  unfold renF
  split
  ·have := List.length_filter_le (renQ frm to) l
   simp only [List.length_cons]; omega
  ·split
   ·simp only [List.length_cons]; omega
   ·simp only [List.length_cons]; omega

theorem wrS_take (o : Option api.Fault) (s : List UInt8) : s.take (wrS o s).length = wrS o s := by
 cases o with
 | none => exact List.take_length
 | some f =>
  have := clampN_le f.Short s.length
  unfold wrS
  rw [List.length_take, Nat.min_eq_left this]

/-- What one call leaves of a disk. -/
theorem does16_eq {d : api.Disk} (h : Small16 d) {o : mewslaw16.Op} (hs : o.S.length ≤ 5000) (h5 : o.Kind ≠ 5) : ∃ d' n e, mewslaw16.does d o = some (d', n, e) ∧ d'.Files.length ≤ 41 ∧
  (∀ k, k ≠ o.Name → (o.Kind = 2 → k ≠ o.S) → look d'.Files k = look d.Files k) ∧ (o.Kind = 0 → d'.Files = putF d.Files o.Name (wrS (takeF o.Name 1 d.Faults).1 o.S) ∧ n = ((wrS (takeF o.Name 1 d.Faults).1 o.S).length : Int)) := by
 have hz := h.dsz
 have hf := h.f
 have ht := h.t
 unfold mewslaw16.does
 by_cases k0 : o.Kind = 0
 ·rw [if_pos k0, Write_eq hz _ _ (by omega), Option.bind_some, Option.bind_some]
  refine ⟨_, _, _, rfl, ?_, fun k hk _ => ?_, fun _ => ⟨rfl, rfl⟩⟩
  ·have := putF_len d.Files o.Name (wrS (takeF o.Name 1 d.Faults).1 o.S)
   show (putF d.Files o.Name (wrS (takeF o.Name 1 d.Faults).1 o.S)).length ≤ 41
   omega
  ·show look (putF d.Files o.Name (wrS (takeF o.Name 1 d.Faults).1 o.S)) k = _
   rw [look_putF, if_neg hk]
 ·rw [if_neg k0]
  by_cases k1 : o.Kind = 1
  ·rw [if_pos k1, Sync_eq hz, Option.bind_some, Option.bind_some]
   refine ⟨_, _, _, rfl, ?_, fun k hk _ => ?_, fun hh => absurd hh k0⟩
   ·dsimp only
    split
    ·split
     ·show d.Files.length ≤ 41; omega
     ·show (modF syF o.Name d.Files).length ≤ 41; rw [modF_len]; omega
    ·show d.Files.length ≤ 41; omega
   ·dsimp only
    split
    ·split
     ·rfl
     ·show look (modF syF o.Name d.Files) k = _
      rw [look_modF syF (fun _ => rfl), if_neg hk]
    ·rfl
  ·rw [if_neg k1]
   by_cases k2 : o.Kind = 2
   ·rw [if_pos k2, Rename_eq hz, Option.bind_some, Option.bind_some]
    refine ⟨_, _, _, rfl, ?_, fun k hk hk2 => ?_, fun hh => absurd hh k0⟩
    ·dsimp only
     split
     ·split
      ·show d.Files.length ≤ 41; omega
      ·have := renF_len o.Name o.S d.Files
       show (renF o.Name o.S d.Files).length ≤ 41; omega
     ·show d.Files.length ≤ 41; omega
    ·dsimp only
     split
     ·split
      ·rfl
      ·exact look_renF hk (hk2 k2) _
     ·rfl
   ·rw [if_neg k2]
    by_cases k3 : o.Kind = 3
    ·rw [if_pos k3, Remove_eq hz, Option.bind_some, Option.bind_some]
     refine ⟨_, _, _, rfl, ?_, fun k hk _ => ?_, fun hh => absurd hh k0⟩
     ·have := List.length_filter_le (notN o.Name) d.Files
      show (d.Files.filter (notN o.Name)).length ≤ 41; omega
     ·exact look_filter _ fun f hf => by unfold notN; rw [isN_not.2 (by rw [hf]; exact hk)]; rfl
    ·rw [if_neg k3]
     by_cases k4 : o.Kind = 4
     ·rw [if_pos k4, Cut_eq hz, Option.bind_some, Option.bind_some]
      refine ⟨_, _, _, rfl, ?_, fun k hk _ => ?_, fun hh => absurd hh k0⟩
      ·dsimp only
       split
       ·show (modF (cuF o.N) o.Name d.Files).length ≤ 41; rw [modF_len]; omega
       ·show d.Files.length ≤ 41; omega
      ·dsimp only
       split
       ·show look (modF (cuF o.N) o.Name d.Files) k = _
        rw [look_modF (cuF o.N) (fun _ => rfl), if_neg hk]
       ·rfl
     ·rw [if_neg k4, if_neg h5]
      unfold mewslaw16.faulty
      rw [need_eq (by show (0 + d.Faults.length) * 32 ≤ 140737488355328; omega), need_eq (by show (([] ++ d.Faults).length + 1) * 32 ≤ 140737488355328; rw [List.nil_append]; omega), Option.bind_some, Option.bind_some]
      exact ⟨_, _, _, rfl, (by show d.Files.length ≤ 41; omega), fun k hk _ => rfl, fun hh => absurd hh k0⟩

theorem DiskApart_pure (d : api.Disk) (o : mewslaw16.Op) (other : List UInt8) (hd : d.Files.length < 1000000000000000) : mewslaw16.DiskApart d o other = some true := by
 obtain ⟨b, hF, hF2⟩ := Far16_eq d [o] hd (by simp)
 unfold mewslaw16.DiskApart
 rw [hF, Option.bind_some, alive16]
 have tl : ∀ (X : Option Bool), (some true : Option Bool).bind (fun s71 => if s71 = true then (some true : Option Bool).bind (fun r80 => some r80) else X) = some true := fun X => rfl
 cases b with
 | true => rfl
 | false =>
  obtain ⟨hsm, _, hop⟩ := hF2 rfl
  obtain ⟨hs, hnm⟩ := hop o (List.mem_cons_self ..)
  rw [if_neg (by decide)]
  by_cases h1 : 1000 < (other.length : Int)
  ·rw [if_pos h1]; rfl
  ·rw [if_neg h1]
   by_cases h5 : o.Kind = 5
   ·rw [if_pos h5]; rfl
   ·rw [if_neg h5]
    by_cases hn : o.Name = other
    ·rw [if_pos hn]; rfl
    ·rw [if_neg hn]
     by_cases h2 : o.Kind = 2 ∧ o.S = other
     ·rw [if_pos h2.1, decide_eq_true h2.2]; rfl
     ·have e : (if o.Kind = 2 then some (decide (o.S = other)) else some false : Option Bool) = some false := by
       by_cases h3 : o.Kind = 2
       ·rw [if_pos h3, decide_eq_false fun h4 => h2 ⟨h3, h4⟩]
       ·rw [if_neg h3]
      rw [e, Option.bind_some, if_neg (by decide)]
      obtain ⟨d', n, er, e2, hl', hlk, hw⟩ := does16_eq hsm hs h5
      have hlo := hlk other (fun h => hn h.symm) (fun hk h => h2 ⟨hk, h.symm⟩)
      have hdl := hsm.f
      rw [e2, Option.bind_some]
      have r1 := Read_eq (d := d) (by omega) other
      have r2 := Read_eq (d := d') (by omega) other
      have s1 := Safe_eq (d := d) (by omega) other
      have s2 := Safe_eq (d := d') (by omega) other
      rw [hlo] at r2 s2
      show ((disk.Read d other).bind _) = _
      rw [r1, Option.bind_some]
      show ((disk.Read d' other).bind _) = _
      rw [r2, Option.bind_some, if_pos rfl, if_pos rfl]
      show (Option.bind ((disk.Safe d other).bind fun r94 => (disk.Safe d' other).bind fun r95 => some (!decide (r94 = r95))) _) = _
      rw [s1, Option.bind_some, s2, Option.bind_some, decide_eq_true rfl, Option.bind_some]
      show (if false = true then _ else if o.Kind = 0 then _ else _) = _
      rw [if_neg (by decide)]
      by_cases k0 : o.Kind = 0
      ·obtain ⟨hw1, hw2⟩ := hw k0
       generalize hsw : wrS (takeF o.Name 1 d.Faults).1 o.S = sw at hw1 hw2
       have hswl : sw.length ≤ o.S.length := by rw [← hsw]; exact wrS_le _ _
       have htk : sub o.S 0 (sw.length : Int) = sw := by rw [sub0, ← hsw]; exact wrS_take _ _
       subst hw2
       rw [if_pos k0]
       have r3 := Read_eq (d := d) (by omega) o.Name
       have r4 := Read_eq (d := d') (by omega) o.Name
       have s3 := Safe_eq (d := d) (by omega) o.Name
       have s4 := Safe_eq (d := d') (by omega) o.Name
       rw [hw1, look_putF, if_pos rfl] at r4 s4
       rw [r3, Option.bind_some]
       show ((disk.Read d' o.Name).bind _) = _
       rw [r4, Option.bind_some]
       have hlen : (match look d.Files o.Name with | some x => (x.Data, (0 : Int)) | none => ([], 8)).1.length ≤ 5000 := by
        cases hlk2 : look d.Files o.Name with
        | none => exact Nat.zero_le _
        | some x => exact (hsm.b x (List.mem_of_find?_eq_some hlk2)).1
       have hdat : (match look d.Files o.Name with | some x => wrF sw x | none => ({ Name := o.Name, Data := sw, Synced := 0 } : api.File)).Data = (match look d.Files o.Name with | some x => (x.Data, (0 : Int)) | none => ([], 8)).1 ++ sw := by
        cases look d.Files o.Name <;> rfl
       have hsf : (match look d.Files o.Name with | some x => wrF sw x | none => ({ Name := o.Name, Data := sw, Synced := 0 } : api.File)).Data.take (clampN (match look d.Files o.Name with | some x => wrF sw x | none => ({ Name := o.Name, Data := sw, Synced := 0 } : api.File)).Synced (match look d.Files o.Name with | some x => wrF sw x | none => ({ Name := o.Name, Data := sw, Synced := 0 } : api.File)).Data.length) = (match look d.Files o.Name with | some x => x.Data.take (clampN x.Synced x.Data.length) | none => []) := by
        cases look d.Files o.Name with
        | none => simp [clampN]
        | some x =>
         have hc := clampN_le x.Synced x.Data.length
         show (x.Data ++ sw).take (clampN (clampN x.Synced x.Data.length : Int) (x.Data ++ sw).length) = _
         have e9 : clampN (clampN x.Synced x.Data.length : Int) (x.Data ++ sw).length = clampN x.Synced x.Data.length := by
          rw [List.length_append]
          generalize clampN x.Synced x.Data.length = c at hc
          unfold clampN
          omega
         rw [e9, List.take_append_of_le_length hc]
       rw [if_pos (show (0 : Int) = 0 from rfl), if_pos (show (0 : Int) ≤ (sw.length : Int) by omega), if_pos (show (sw.length : Int) ≤ (o.S.length : Int) by omega)]
       show (Option.bind (need (InR 0 (sw.length : Int) o.S.length) (need ((match look d.Files o.Name with | some x => (x.Data, (0 : Int)) | none => ([], 8)).1.length + (sub o.S 0 (sw.length : Int)).length ≤ 9223372036854775807) _)) _) = _
       rw [need_eq ⟨by omega, by omega, by omega⟩, htk, need_eq (by omega)]
       show (Option.bind (if (match look d.Files o.Name with | some x => wrF sw x | none => ({ Name := o.Name, Data := sw, Synced := 0 } : api.File)).Data = (match look d.Files o.Name with | some x => (x.Data, (0 : Int)) | none => ([], 8)).1 ++ sw then (disk.Safe d' o.Name).bind _ else _) _) = _
       rw [if_pos hdat, s4, Option.bind_some, s3, Option.bind_some]
       exact (congrArg (fun X => Option.bind X fun s108 => some s108) (if_pos (α := Option Bool) hsf)).trans rfl
      ·rw [if_neg k0]
       rfl

end Go.Pu

namespace Go.Pu.Pure
open Go.Lift Go.Pu
theorem DiskApart {a0 : api.Disk} {a1 : mewslaw16.Op} {a2 : List UInt8} (h0 : api.Disk.wf a0) (h1 : mewslaw16.Op.wf a1) (h2 : a2.length ≤ 140737488351232) : mewslaw16.DiskApart a0 a1 a2 = some true :=
 DiskApart_pure a0 a1 a2 (by have := h0.1.1; omega)
end Go.Pu.Pure
