import Derived.Test.YtmognhokagemiaaGreatRLPuDisk5A
import Derived.Test.YtmognhokagemiaaGreatRLPuDisk7
set_option maxHeartbeats 0
set_option maxRecDepth 100000
namespace Go.Pu
open Go.Lift

theorem clamp_iff (x : api.File) {n : Nat} (hn : n ≤ x.Data.length) : clampN x.Synced x.Data.length < n ↔ clampN x.Synced n < n := by unfold clampN; omega

/-- Both loads. -/
theorem Load_both (d : api.Disk) (name : List UInt8) (hd : BD 60000 d) (hn : name.length < 1000000) :
  ∃ d' r' l e, restore.Load d name = some (d', l, e) ∧ mewsref18.Load d name = some (r', l, e) ∧ Rl d' r' ∧ BD 60003 d' ∧ BD 60003 r' ∧ l.length ≤ 60003 ∧ ∀ u, u ∈ l → wtU u.Cmds ≤ 200000 := by
 obtain ⟨d1, r1, h1, h2, h3, h4, h5⟩ := Remove_step (n := 60000) (d := d) (r := d) ⟨fun _ => rfl, rfl⟩ hd hd (newN name) (by omega)
 have hf4 := h4.f
 have hf5 := h5.f
 have hz : ∀ (e : (60001 : Nat) ≤ 60003) (u : api.Unit), u ∈ ([] : List api.Unit) → wtU u.Cmds ≤ 200000 := fun _ u hu => by simp at hu
 have hnl : name.length + ([46, 110, 101, 119] : List Nat).length ≤ 9223372036854775807 := by show name.length + 4 ≤ _; omega
 unfold restore.Load restore.Other mewsref18.Load
 rw [need_eq hnl, Option.bind_some, need_eq hnl]
 show ∃ d' r' l e, ((disk.Remove d (newN name)).bind _) = some (d', l, e) ∧ ((mewsref16.Remove d (newN name)).bind _) = some (r', l, e) ∧ _
 rw [h1, h2, Option.bind_some, Option.bind_some, Read_eq (by omega), Option.bind_some, RFind_eq (by omega), Option.bind_some, lookR_mm, ← h3.m name]
 unfold mm
 cases hl : look d1.Files name with
 | none => exact ⟨d1, r1, [], 0, rfl, rfl, h3, h4.mono (by omega), h5.mono (by omega), by simp, fun u hu => by simp at hu⟩
 | some x =>
  have hb := h4.b x (List.mem_of_find?_eq_some hl)
  -- (what was there is not longer)
  have hx : x.Data.length ≤ 60000 := by
   have e := Option.some.inj (h1.symm.trans (Remove_eq (hd.sz (by omega)) (newN name)))
   rw [e] at hl
   exact hd.b x (List.mem_filter.1 (List.mem_of_find?_eq_some hl)).1
  obtain ⟨a1, a2, a3, a4⟩ := allM_le x.Data hx
  obtain ⟨q, hq⟩ : ∃ q, q = allM x.Data := ⟨_, rfl⟩
  have hA := AllU_eq _ hx
  have hB := rAllU_eq _ hx
  rw [← hq] at a1 a3 a4 hA hB
  obtain ⟨d2, r2, e2, c1, c2, c3, c4, c5⟩ := Cut_step h3 h4 h5 name (q.2 : Int) (by omega)
  have hce := c1.symm.trans (Cut_eq (h4.sz (by omega)) name (q.2 : Int))
  rw [hl, if_pos (show (some x).isSome = true from rfl)] at hce
  have hp : (d2, e2) = (({ d1 with Files := modF (cuF (q.2 : Int)) name d1.Files } : api.Disk), (0 : Int)) := Option.some.inj hce
  obtain ⟨hp1, rfl⟩ := Prod.mk.inj hp
  have hc : clampN (q.2 : Int) x.Data.length = q.2 := by unfold clampN; omega
  have hcu : cuF (q.2 : Int) x = { Name := x.Name, Data := x.Data.take q.2, Synced := (clampN x.Synced q.2 : Int) } := by
   unfold cuF
   rw [hc]
  have hlg : look d2.Files name = some (cuF (q.2 : Int) x) := by
   rw [hp1]
   show look (modF (cuF (q.2 : Int)) name d1.Files) name = _
   rw [look_modF (cuF (q.2 : Int)) (fun _ => rfl), if_pos rfl, hl]
   rfl
  have hf2 := c4.f
  have hsafe : disk.Safe d2 name = some ((x.Data.take q.2).take (clampN x.Synced q.2)) := by
   rw [Safe_eq (by omega), hlg, hcu]
   show some ((x.Data.take q.2).take (clampN (clampN x.Synced q.2 : Int) (x.Data.take q.2).length)) = _
   rw [List.length_take, show min q.2 x.Data.length = q.2 by omega, clampN_self]
  have hsl : ((x.Data.take q.2).take (clampN x.Synced q.2)).length = clampN x.Synced q.2 := by
   have := clampN_le x.Synced q.2
   rw [List.length_take, List.length_take]; omega
  have hxs : (sfF x).Synced = (clampN x.Synced x.Data.length : Int) := rfl
  have hci := clamp_iff x a1
  show ∃ d' r' l e, ((unit.All x.Data).bind _) = some (d', l, e) ∧ ((mewsref15.All x.Data).bind _) = some (r', l, e) ∧ _
  rw [hA, hB, Option.bind_some, Option.bind_some]
  show ∃ d' r' l e, ((disk.Cut d1 name (q.2 : Int)).bind _) = some (d', l, e) ∧ ((mewsref16.Cut r1 name (q.2 : Int)).bind _) = some (r', l, e) ∧ _
  rw [c1, c2, Option.bind_some, Option.bind_some]
  show ∃ d' r' l e, (((disk.Safe d2 name).bind fun r50 => if (r50.length : Int) < (q.2 : Int) then (disk.Sync d2 name).bind fun r51 => if r51.2 = 0 then some (Sum.inl (r51.1.Files, r51.1.Faults)) else some (Sum.inr (r51.1, ([] : List api.Unit), r51.2)) else some (Sum.inl (d2.Files, d2.Faults))) : Option ((List api.File × List api.Fault) ⊕ (api.Disk × List api.Unit × Int))).bind (fun s57 => onSum s57 (fun s47 => some (({ Files := s47.1, Faults := s47.2 } : api.Disk), q.1, (0 : Int))) fun s57x => some s57x) = some (d', l, e) ∧ (if (q.2 : Int) ≤ (sfF x).Synced then some (r2, q.1, (0 : Int)) else (mewsref16.Sync r2 name).bind fun r26 => if r26.2 = 0 then some (r26.1, q.1, (0 : Int)) else some (r26.1, ([] : List api.Unit), r26.2)) = some (r', l, e) ∧ _
  rw [hsafe, Option.bind_some, hsl, hxs]
  by_cases hlt : clampN x.Synced q.2 < q.2
  ·obtain ⟨d3, r3, e3, s1, s2, s3, s4, s5⟩ := Sync_step c3 c4 c5 name (by omega)
   rw [if_pos (show (clampN x.Synced q.2 : Int) < (q.2 : Int) by omega), if_neg (show ¬ (q.2 : Int) ≤ (clampN x.Synced x.Data.length : Int) by have := hci.2 hlt; omega), s1, s2, Option.bind_some, Option.bind_some]
   by_cases he : e3 = 0
   ·subst he
    exact ⟨d3, r3, q.1, 0, rfl, rfl, s3, s4, s5, by omega, fun u hu => (a3 u hu).2⟩
   ·rw [if_neg he, if_neg he]
    exact ⟨d3, r3, [], e3, rfl, rfl, s3, s4, s5, by simp, fun u hu => by simp at hu⟩
  ·rw [if_neg (show ¬ (clampN x.Synced q.2 : Int) < (q.2 : Int) by omega), if_pos (show (q.2 : Int) ≤ (clampN x.Synced x.Data.length : Int) by have : ¬ clampN x.Synced x.Data.length < q.2 := fun h => hlt (hci.1 h); omega)]
   exact ⟨d2, r2, q.1, 0, rfl, rfl, c3, c4.mono (by omega), c5.mono (by omega), by omega, fun u hu => (a3 u hu).2⟩

theorem RestoreLoads_pure (d : api.Disk) (name : List UInt8) (hd : d.Files.length < 1000000000000000) : mewslaw18.RestoreLoads d name = some true := by
 obtain ⟨b, hF, hF2⟩ := Far16_eq d [] hd (by simp)
 unfold mewslaw18.RestoreLoads
 rw [hF, Option.bind_some, alive18]
 cases b with
 | true => rfl
 | false =>
  obtain ⟨hs, _⟩ := hF2 rfl
  rw [if_neg (by decide), Option.bind_some]
  by_cases hbig : 200 < (name.length : Int)
  ·rw [decide_eq_true hbig]; rfl
  ·rw [decide_eq_false hbig, if_neg (by decide)]
   have hf := hs.f
   have ht := hs.t
   obtain ⟨a, r, l, e, h1, h2, h3, h4, h5, h6, h7⟩ := Load_both d name ⟨by omega, by omega, fun x hx => by have := (hs.b x hx).1; omega⟩ (by omega)
   rw [h1, h2, Option.bind_some, Option.bind_some]
   show ((((mewsref16.Same a r).bind fun r65 => if r65 = true then (mewsref15.SameAll l l).bind fun r67 => if r67 = true then if e = e then (restore.Other name).bind fun r70 => need (name.length + ([46, 110, 101, 119] : List Nat).length ≤ 9223372036854775807) (if r70 = (name ++ [46, 110, 101, 119]) then (some true).bind fun r73 => some r73 else some false) else some false else some false else some false) : Option Bool).bind fun s62 => some s62) = _
   have hnl : name.length + ([46, 110, 101, 119] : List Nat).length ≤ 9223372036854775807 := by show name.length + 4 ≤ _; omega
   unfold restore.Other
   rw [RSame_eq h3 h4 h5 (by omega), Option.bind_some, if_pos rfl, SameAll_self l (by omega) (fun u hu => fits_wt (by have := h7 u hu; omega)), Option.bind_some, if_pos rfl, if_pos rfl, need_eq hnl, Option.bind_some, need_eq hnl, if_pos rfl]
   rfl

end Go.Pu

namespace Go.Pu.Pure
open Go.Lift Go.Pu
theorem RestoreLoads {a0 : api.Disk} {a1 : List UInt8} (h0 : api.Disk.wf a0) (h1 : a1.length ≤ 140737488351232) : mewslaw18.RestoreLoads a0 a1 = some true :=
 RestoreLoads_pure a0 a1 (by have := h0.1.1; omega)
end Go.Pu.Pure
