import Derived.Test.YtlidepjlhmaldaaDSPuDisk5
set_option maxHeartbeats 0
set_option maxRecDepth 100000
namespace Go.Pu
open Go.Lift

theorem sameT_self (a : List Str) (ha : a.length < 1000000000000000) : mewsref02.Same a a = some true := by
 have : mewsref02.Same.loop0 a a ⟨0⟩ = some (.inl ()) := by
  unfold mewsref02.Same.loop0
  refine whileO_knownE ⟨0⟩ (fun i => (⟨(i : Int)⟩ : mewsref02.Same.S0)) a.length (fun i hi => ?_) ?_
  ·unfold mewsref02.Same.body0
   show (if (i : Int) < (a.length : Int) then _ else _) = _
   rw [if_pos (by omega), need_eq ⟨by show (0 : Int) ≤ (i : Int); omega, by show (i : Int) < (a.length : Int); omega⟩, need_eq ⟨by show (0 : Int) ≤ (i : Int); omega, by show (i : Int) < (a.length : Int); omega⟩, if_pos rfl]
   show some (Sum.inl (⟨IntKind.wrap .i64 ((i : Int) + 1)⟩ : mewsref02.Same.S0)) = _
   rw [i64w (by omega) (by omega), show (i : Int) + 1 = ((i + 1 : Nat) : Int) by omega]
  ·unfold mewsref02.Same.body0
   exact if_neg (by show ¬ (a.length : Int) < (a.length : Int); omega)
 unfold mewsref02.Same
 rw [if_pos rfl, this]
 rfl

theorem crF_crF (keeps : List api.Keep) (f : api.File) : crF [] (crF keeps f) = crF keeps f := by
 obtain ⟨h1, _⟩ := leftN_le keeps f
 have hl : (f.Data.take (leftN keeps f)).length = leftN keeps f := by rw [List.length_take]; omega
 have e : leftN [] (crF keeps f) = leftN keeps f := by
  show clampN (leftN keeps f : Int) (f.Data.take (leftN keeps f)).length + 0 = leftN keeps f
  rw [hl]
  unfold clampN
  omega
 show ({ Name := f.Name, Data := (f.Data.take (leftN keeps f)).take (leftN [] (crF keeps f)), Synced := (leftN [] (crF keeps f) : Int) } : api.File) = crF keeps f
 rw [e, List.take_take, Nat.min_self]
 rfl

theorem DiskSafe_pure (d : api.Disk) (keeps : List api.Keep) (hd : d.Files.length < 1000000000000000) (hk : keeps.length < 1000000000000000) : mewslaw16.DiskSafe d keeps = some true := by
 obtain ⟨b, hF, hF2⟩ := Far16_eq d [] hd (by simp)
 unfold mewslaw16.DiskSafe
 rw [hF, Option.bind_some, alive16]
 cases b with
 | true => rfl
 | false =>
  obtain ⟨hs, _⟩ := hF2 rfl
  rw [if_neg (by decide), Option.bind_some]
  by_cases hbig : 100 < (keeps.length : Int)
  ·rw [decide_eq_true hbig]; rfl
  ·rw [decide_eq_false hbig, if_neg (by decide)]
   have hf40 := hs.f
   have hb := hs.b
   rw [Crash_eq d keeps (by omega) (fun x hx => by have := (hb x hx).1; omega) (by omega), Option.bind_some]
   obtain ⟨c, hc⟩ : ∃ c : api.Disk, c = { Files := (fstA d.Files).map (crF keeps), Faults := [] } := ⟨_, rfl⟩
   rw [← hc]
   have hcF : c.Files = (fstA d.Files).map (crF keeps) := by rw [hc]
   have hcl : c.Files.length ≤ 40 := by
    rw [hcF, List.length_map]
    exact Nat.le_trans (fsts_len _ _) hf40
   have hlook : ∀ k, look c.Files k = (look d.Files k).map (crF keeps) := fun k => by rw [hcF]; exact look_fstA d.Files (crF keeps) (fun _ => rfl) k
   have hcb : ∀ x, x ∈ c.Files → x.Data.length < 1000000000 := fun x hx => by
    rw [hcF] at hx
    obtain ⟨y, hy, rfl⟩ := List.mem_map.1 hx
    obtain ⟨i, hi, _, rfl⟩ := fstA_mem hy
    have := (hb (ix d.Files (i : Int)) (by rw [ix_get hi]; exact List.getElem_mem hi)).1
    show ((ix d.Files (i : Int)).Data.take _).length < _
    rw [List.length_take]
    omega
   have hcn : (c.Files.map (·.Name)).Nodup := by
    rw [hcF, List.map_map]
    exact fstA_nodup d.Files
   obtain ⟨N, n1, n2, n3, n4⟩ := Names_eq d (by omega)
   obtain ⟨N', m1, m2, m3, m4⟩ := Names_eq c (by omega)
   have hNN : N' = N := asc_ext m2 n2 fun x => by
    rw [m3, n3, hlook]
    cases look d.Files x <;> rfl
   subst hNN
   have hcc : disk.Crash c [] = some c := by
    rw [Crash_eq c [] (by omega) hcb (by simp), fstA_self hcn]
    have : c.Files.map (crF []) = c.Files := by
     rw [hcF, List.map_map]
     exact List.map_congr_left fun x _ => crF_crF keeps x
    rw [this, hc]
   have hfc : c.Faults = [] := by rw [hc]
   rw [m1, Option.bind_some, n1, Option.bind_some, sameT_self _ (by omega), Option.bind_some, if_neg (by decide), if_neg (by rw [hfc]; decide), hcc, Option.bind_some, Same_selfD c (by omega) hfc, Option.bind_some, Option.bind_some, if_neg (by decide), Option.bind_some]
   have hloop : mewslaw16.DiskSafe.loop0 N' d c ⟨0⟩ = some (.inl ()) := by
    unfold mewslaw16.DiskSafe.loop0
    refine whileO_knownE ⟨0⟩ (fun i => (⟨(i : Int)⟩ : mewslaw16.DiskSafe.S0)) N'.length (fun i hi => ?_) ?_
    ·unfold mewslaw16.DiskSafe.body0
     show (if (i : Int) < (N'.length : Int) then _ else _) = _
     rw [if_pos (by omega), need_eq ⟨by show (0 : Int) ≤ (i : Int); omega, by show (i : Int) < (N'.length : Int); omega⟩]
     show ((disk.Read d (ix N' (i : Int))).bind _) = _
     rw [ix_get hi]
     obtain ⟨f, hf⟩ := Option.isSome_iff_exists.1 ((n3 N'[i]).1 (List.getElem_mem hi))
     have hg : look c.Files N'[i] = some (crF keeps f) := by rw [hlook, hf]; rfl
     have hfb := (hb f (look_some hf).1).1
     rw [Read_eq (by omega), Option.bind_some, hf]
     show ((disk.Read c N'[i]).bind _) = _
     rw [Read_eq (by omega), Option.bind_some, hg]
     show ((disk.Safe d N'[i]).bind _) = _
     rw [Safe_eq (by omega), Option.bind_some, hf]
     obtain ⟨l1, l2⟩ := leftN_le keeps f
     have e1 : (f.Data.take (leftN keeps f)).length = leftN keeps f := by rw [List.length_take]; omega
     have hcl2 := clampN_le f.Synced f.Data.length
     have e2 : (f.Data.take (clampN f.Synced f.Data.length)).length = clampN f.Synced f.Data.length := by rw [List.length_take]; omega
     show ((if (0 : Int) = 0 then (if (f.Data.length : Int) < ((f.Data.take (leftN keeps f)).length : Int) then some true else need (InR 0 ((f.Data.take (leftN keeps f)).length : Int) f.Data.length) (if (sub f.Data 0 ((f.Data.take (leftN keeps f)).length : Int)) = f.Data.take (leftN keeps f) then (if ((f.Data.take (leftN keeps f)).length : Int) < ((f.Data.take (clampN f.Synced f.Data.length)).length : Int) then some true else need (InR 0 ((f.Data.take (clampN f.Synced f.Data.length)).length : Int) (f.Data.take (leftN keeps f)).length) (if (sub (f.Data.take (leftN keeps f)) 0 ((f.Data.take (clampN f.Synced f.Data.length)).length : Int)) = f.Data.take (clampN f.Synced f.Data.length) then (disk.Safe c N'[i]).bind (fun r394 => some (!decide (r394 = f.Data.take (leftN keeps f)))) else some true)) else some true)) else some true : Option Bool).bind _) = _
     rw [if_pos rfl, e1, e2, if_neg (by omega), need_eq ⟨by omega, by omega, by omega⟩, sub0, if_pos rfl, if_neg (by omega), need_eq ⟨by omega, by omega, by omega⟩, sub0, List.take_take, Nat.min_eq_left l2, if_pos rfl, Safe_eq (by omega), Option.bind_some, hg]
     have e3 : (crF keeps f).Data.take (clampN (crF keeps f).Synced (crF keeps f).Data.length) = f.Data.take (leftN keeps f) := by
      show (f.Data.take (leftN keeps f)).take (clampN (leftN keeps f : Int) (f.Data.take (leftN keeps f)).length) = _
      rw [e1, List.take_take]
      congr 1
      unfold clampN
      omega
     show ((some (!decide ((crF keeps f).Data.take (clampN (crF keeps f).Synced (crF keeps f).Data.length) = f.Data.take (leftN keeps f))) : Option Bool).bind _) = _
     rw [e3, decide_eq_true rfl, Option.bind_some, if_neg (by decide)]
     show some (Sum.inl (⟨IntKind.wrap .i64 ((i : Int) + 1)⟩ : mewslaw16.DiskSafe.S0)) = _
     rw [i64w (by omega) (by omega), show (i : Int) + 1 = ((i + 1 : Nat) : Int) by omega]
    ·unfold mewslaw16.DiskSafe.body0
     exact if_neg (by show ¬ (N'.length : Int) < (N'.length : Int); omega)
   rw [hloop]
   rfl

end Go.Pu

namespace Go.Pu.Pure
open Go.Lift Go.Pu
theorem DiskSafe {a0 : api.Disk} {a1 : List api.Keep} (h0 : api.Disk.wf a0) (h1 : a1.length * 24 ≤ 140737488351232 ∧ ∀ y0, y0 ∈ a1 → api.Keep.wf y0) : mewslaw16.DiskSafe a0 a1 = some true :=
 DiskSafe_pure a0 a1 (by have := h0.1.1; omega) (by omega)
end Go.Pu.Pure
