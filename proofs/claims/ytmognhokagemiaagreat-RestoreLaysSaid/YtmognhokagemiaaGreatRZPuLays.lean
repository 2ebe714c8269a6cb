import Derived.Test.YtmognhokagemiaaGreatRZPuDisk5A
import Derived.Test.YtmognhokagemiaaGreatRZPuUnit3
import Derived.Test.YtmognhokagemiaaGreatRZPuDisk7
set_option maxHeartbeats 0
set_option maxRecDepth 100000
namespace Go.Pu
open Go.Lift

/-- Units' bytes behind some, or the first error. -/
def bytesM : List api.Unit → List UInt8 → List UInt8 × Int
 | [], s => (s, 0)
 | u :: l, s => if (putU u).2 = 0 then bytesM l (s ++ (putU u).1) else ([], (putU u).2)

theorem putU_le (u : api.Unit) (h : wtU u.Cmds ≤ 300000) : (putU u).1.length ≤ 12 * wtU u.Cmds + 9 := by
 have h1 := putL_len u.Cmds h
 have h2 := unitM_len u.Cmds
 unfold putU
 split
 ·show (unitM u.Cmds).length ≤ _
  omega
 ·simp

theorem bytesM_le : ∀ (l : List api.Unit) (s : List UInt8), wtL l ≤ 300000 → (bytesM l s).1.length ≤ s.length + 12 * wtL l + 9 * l.length
 | [], s, _ => by simp [bytesM, wtL]
 | u :: l, s, h => by
  simp only [wtL] at h
  have h1 := putU_le u (by omega)
  unfold bytesM
  split
  ·have := bytesM_le l (s ++ (putU u).1) (by omega)
   rw [List.length_append] at this
   simp only [wtL, List.length_cons]
   omega
  ·simp

/-- What both loops tell. -/
def bytesS (p : List UInt8 × Int) : List UInt8 ⊕ (List UInt8 × Int) := if p.2 = 0 then .inl p.1 else .inr p

theorem bytes_loop (l : List api.Unit) (hl : l.length ≤ 1000) : ∀ (m i : Nat) (s : List UInt8), i + m = l.length → s.length + 12 * wtL (l.drop i) + 9 * m ≤ 60000 →
  restore.bytes.loop0 l ⟨(i : Int), s⟩ = some (bytesS (bytesM (l.drop i) s)) ∧ mewsref18.Bytes.loop0 l ⟨s, (i : Int)⟩ = some (bytesS (bytesM (l.drop i) s))
 | 0, i, s, hi, hs => by
  have hd : l.drop i = [] := List.drop_of_length_le (by omega)
  rw [hd]
  unfold restore.bytes.loop0 mewsref18.Bytes.loop0
  constructor
  ·refine whileO_end ?_
   unfold restore.bytes.body0
   exact if_neg (by show ¬ (i : Int) < (l.length : Int); omega)
  ·refine whileO_end ?_
   unfold mewsref18.Bytes.body0
   exact if_neg (by show ¬ (i : Int) < (l.length : Int); omega)
 | m + 1, i, s, hi, hs => by
  have hil : i < l.length := by omega
  have hd : l.drop i = l[i] :: l.drop (i + 1) := List.drop_eq_getElem_cons hil
  rw [hd] at hs ⊢
  simp only [wtL] at hs
  have hp := putU_le l[i] (by omega)
  have hin : InB (i : Int) l.length := ⟨by omega, by omega⟩
  have hw : IntKind.wrap .i64 ((i : Int) + 1) = ((i + 1 : Nat) : Int) := by rw [i64w (by omega) (by omega)]; omega
  have b1 : restore.bytes.body0 l ⟨(i : Int), s⟩ = if (putU l[i]).2 = 0 then some (.inl ⟨((i + 1 : Nat) : Int), s ++ (putU l[i]).1⟩) else some (.inr (.inr ([], (putU l[i]).2))) := by
   unfold restore.bytes.body0 restore.bytes_1
   show (if (i : Int) < (l.length : Int) then _ else _) = _
   rw [if_pos (by omega)]
   show need (InB (i : Int) l.length) (((unit.Put (ix l (i : Int))).bind fun r5 => need (s.length + r5.1.length ≤ 140737488355328) (some (r5.2, s ++ r5.1))).bind _) = _
   rw [need_eq hin, ix_get hil, PutU_eq _ (by omega), Option.bind_some, need_eq (by omega), Option.bind_some]
   show (if (putU l[i]).2 = 0 then some (Sum.inl (⟨IntKind.wrap .i64 ((i : Int) + 1), _⟩ : restore.bytes.S0)) else _) = _
   rw [hw]
  have b2 : mewsref18.Bytes.body0 l ⟨s, (i : Int)⟩ = if (putU l[i]).2 = 0 then some (.inl ⟨s ++ (putU l[i]).1, ((i + 1 : Nat) : Int)⟩) else some (.inr (.inr ([], (putU l[i]).2))) := by
   unfold mewsref18.Bytes.body0
   show (if (i : Int) < (l.length : Int) then _ else _) = _
   rw [if_pos (by omega)]
   show need (InB (i : Int) l.length) ((mewsref15.Put (ix l (i : Int))).bind _) = _
   rw [need_eq hin, ix_get hil, rPutU_eq _ (by omega), Option.bind_some]
   show (if (putU l[i]).2 = 0 then need (s.length + (putU l[i]).1.length ≤ 9223372036854775807) (some (Sum.inl (⟨s ++ (putU l[i]).1, IntKind.wrap .i64 ((i : Int) + 1)⟩ : mewsref18.Bytes.S0))) else _) = _
   rw [need_eq (by omega), hw]
  unfold restore.bytes.loop0 mewsref18.Bytes.loop0
  unfold bytesM
  by_cases he : (putU l[i]).2 = 0
  ·rw [if_pos he] at b1 b2 ⊢
   rw [whileO_stp b1, whileO_stp b2]
   exact bytes_loop l hl m (i + 1) _ (by omega) (by rw [List.length_append]; omega)
  ·rw [if_neg he] at b1 b2 ⊢
   have hs : bytesS (([] : List UInt8), (putU l[i]).2) = .inr ([], (putU l[i]).2) := if_neg he
   rw [whileO_end b1, whileO_end b2, hs]
   exact ⟨rfl, rfl⟩

theorem bytesS_done (p : List UInt8 × Int) : ((some (bytesS p)).bind fun s => onSum s (fun s70 => some (s70, (0 : Int))) fun x => some x) = some p := by
 unfold bytesS
 by_cases h : p.2 = 0
 ·rw [if_pos h]
  show some (p.1, (0 : Int)) = some p
  rw [← h]
 ·rw [if_neg h]
  rfl

theorem bytes_both (l : List api.Unit) (hl : l.length ≤ 100) (hw : wtL l ≤ 4000) : restore.bytes l = some (bytesM l []) ∧ mewsref18.Bytes l = some (bytesM l []) := by
 obtain ⟨h1, h2⟩ := bytes_loop l (by omega) l.length 0 [] (by omega) (by simp only [List.drop_zero, List.length_nil]; omega)
 rw [List.drop_zero] at h1 h2
 constructor
 ·unfold restore.bytes
  have : restore.bytes.loop0 l ⟨0, []⟩ = _ := h1
  rw [this, bytesS_done]
 ·unfold mewsref18.Bytes
  have : mewsref18.Bytes.loop0 l ⟨[], 0⟩ = _ := h2
  rw [this, bytesS_done]

theorem newL {name : List UInt8} (hn : name.length < 1000000) : name.length + ([46, 110, 101, 119] : List Nat).length ≤ 9223372036854775807 := by
 show name.length + 4 ≤ _; omega
theorem Other_eq {name : List UInt8} (hn : name.length < 1000000) : restore.Other name = some (newN name) := by
 unfold restore.Other
 rw [need_eq (newL hn)]
 rfl

theorem Lay_both {n : Nat} {d r : api.Disk} (h : Rl d r) (hd : BD n d) (hr : BD n r) (name : List UInt8) (l : List api.Unit) (hn : name.length < 1000000) (hl : l.length ≤ 100) (hw : wtL l ≤ 4000) (hz : n + 60001 ≤ 800000) :
  ∃ a b m e, restore.Lay d name l = some (a, m, e) ∧ mewsref18.Lay r name l = some (b, m, e) ∧ Rl a b ∧ BD (n + 60001) a ∧ BD (n + 60001) b := by
 obtain ⟨h1, h2⟩ := bytes_both l hl hw
 have hb := bytesM_le l [] (by omega)
 rw [List.length_nil] at hb
 unfold restore.Lay mewsref18.Lay
 rw [h1, h2, Option.bind_some, Option.bind_some]
 generalize bytesM l [] = p at hb
 by_cases he : p.2 = 0
 ·rw [if_pos he, if_pos he, Other_eq hn, need_eq (newL hn), Option.bind_some]
  obtain ⟨a, b, m, e, w1, w2, w3, w4, w5⟩ := Write_step h hd hr (newN name) p.1 (by omega)
  refine ⟨a, b, m, e, ?_, ?_, w3, w4.mono (by omega), w5.mono (by omega)⟩
  ·rw [w1]; rfl
  ·show ((mewsref16.Write r (newN name) p.1).bind _) = _
   rw [w2]; rfl
 ·rw [if_neg he, if_neg he]
  exact ⟨d, r, 0, p.2, rfl, rfl, h, hd.mono (by omega), hr.mono (by omega)⟩

theorem Swap_both {n : Nat} {d r : api.Disk} (h : Rl d r) (hd : BD n d) (hr : BD n r) (name : List UInt8) (hn : name.length < 1000000) (hz : n + 2 ≤ 800000) :
  ∃ a b e, restore.Swap d name = some (a, e) ∧ mewsref18.Swap r name = some (b, e) ∧ Rl a b ∧ BD (n + 2) a ∧ BD (n + 2) b := by
 obtain ⟨a, b, e, s1, s2, s3, s4, s5⟩ := Sync_step h hd hr (newN name) (by omega)
 unfold restore.Swap mewsref18.Swap
 rw [Other_eq hn, need_eq (newL hn), Option.bind_some, s1, Option.bind_some, Option.bind_some]
 show ∃ a' b' e', _ ∧ ((mewsref16.Sync r (newN name)).bind _) = some (b', e') ∧ _
 rw [s2, Option.bind_some]
 show ∃ a' b' e', (if e = 0 then (disk.Rename a (newN name) name).bind fun r13 => some (r13.1, r13.2) else some (a, e)) = some (a', e') ∧ (if e = 0 then need (name.length + ([46, 110, 101, 119] : List Nat).length ≤ 9223372036854775807) ((mewsref16.Rename b (newN name) name).bind fun r13 => some (r13.1, r13.2)) else some (b, e)) = some (b', e') ∧ _
 by_cases he : e = 0
 ·rw [if_pos he, if_pos he, need_eq (newL hn)]
  obtain ⟨a2, b2, e2, q1, q2, q3, q4, q5⟩ := Rename_step s3 s4 s5 (newN name) name (by omega)
  refine ⟨a2, b2, e2, ?_, ?_, q3, q4.mono (by omega), q5.mono (by omega)⟩
  ·rw [q1]; rfl
  ·rw [q2]; rfl
 ·rw [if_neg he, if_neg he]
  exact ⟨a, b, e, rfl, rfl, s3, s4.mono (by omega), s5.mono (by omega)⟩

/-- A log made anew. -/
def madeM (g : api.Log) (n : Nat) : api.Log := { Name := g.Name, Policy := g.Policy, Quota := g.Quota, Size := (n : Int), Pending := [], Logged := g.Logged, Durable := g.Logged, Ends := [], Last := 7 }

theorem Anew_both {n : Nat} {d r : api.Disk} (h : Rl d r) (hd : BD n d) (hr : BD n r) (g : api.Log) (l : List api.Unit) (hn : g.Name.length < 1000000) (hl : l.length ≤ 100) (hw : wtL l ≤ 4000) (hz : n + 60010 ≤ 800000) :
  ∃ a b q e, restore.Anew d g l 7 = some (a, (if e = 0 then madeM g q else g), e) ∧ mewsref18.Anew r g.Name g.Quota l = some (b, (if e = 0 then (q : Int) else 0), e) ∧ Rl a b ∧ BD (n + 60010) a ∧ BD (n + 60010) b := by
 obtain ⟨h1, h2⟩ := bytes_both l hl hw
 have hb := bytesM_le l [] (by omega)
 rw [List.length_nil] at hb
 unfold restore.Anew mewsref18.Anew
 rw [h1, h2, Option.bind_some, Option.bind_some]
 generalize bytesM l [] = p at hb
 by_cases he : p.2 = 0
 ·rw [if_pos he, if_pos he]
  by_cases hq : g.Quota < (p.1.length : Int)
  ·rw [if_pos hq, if_pos hq]
   exact ⟨d, r, 0, 11, rfl, rfl, h, hd.mono (by omega), hr.mono (by omega)⟩
  ·rw [if_neg hq, if_neg hq, Other_eq hn, need_eq (newL hn), Option.bind_some]
   obtain ⟨d1, r1, a1, a2, a3, a4, a5⟩ := Remove_step h hd hr (newN g.Name) (by omega)
   rw [a1, Option.bind_some, Option.bind_some]
   show ∃ a b q e, _ ∧ ((mewsref16.Remove r (newN g.Name)).bind _) = some (b, _, e) ∧ _
   rw [a2, Option.bind_some, need_eq (newL hn)]
   obtain ⟨d2, r2, m2, e2, b1, b2, b3, b4, b5⟩ := Write_step a3 a4 a5 (newN g.Name) p.1 (by omega)
   rw [b1, Option.bind_some]
   show ∃ a b q e, _ ∧ ((mewsref16.Write r1 (newN g.Name) p.1).bind _) = some (b, _, e) ∧ _
   rw [b2, Option.bind_some]
   -- what is swapped
   obtain ⟨d3, r3, e3, c1, c2, c3, c4, c5⟩ : ∃ d3 r3 e3, (if e2 = 0 then (restore.Swap d2 g.Name).bind fun r38 => some (r38.2, r38.1.Files, r38.1.Faults) else some (e2, d2.Files, d2.Faults)) = some (e3, d3.Files, d3.Faults) ∧ (if e2 = 0 then (mewsref18.Swap r2 g.Name).bind fun r37 => some (r37.2, r37.1.Files, r37.1.Faults) else some (e2, r2.Files, r2.Faults)) = some (e3, r3.Files, r3.Faults) ∧ Rl d3 r3 ∧ BD (n + 60005) d3 ∧ BD (n + 60005) r3 := by
    by_cases h0 : e2 = 0
    ·obtain ⟨d3, r3, e3, c1, c2, c3, c4, c5⟩ := Swap_both b3 b4 b5 g.Name hn (by omega)
     rw [if_pos h0, if_pos h0, c1, c2]
     exact ⟨d3, r3, e3, rfl, rfl, c3, c4.mono (by omega), c5.mono (by omega)⟩
    ·rw [if_neg h0, if_neg h0]
     exact ⟨d2, r2, e2, rfl, rfl, b3, b4.mono (by omega), b5.mono (by omega)⟩
   show ∃ a b q e, ((if e2 = 0 then (restore.Swap d2 g.Name).bind fun r38 => some (r38.2, r38.1.Files, r38.1.Faults) else some (e2, d2.Files, d2.Faults)).bind _) = some (a, _, e) ∧ ((if e2 = 0 then (mewsref18.Swap r2 g.Name).bind fun r37 => some (r37.2, r37.1.Files, r37.1.Faults) else some (e2, r2.Files, r2.Faults)).bind _) = some (b, _, e) ∧ _
   rw [c1, c2, Option.bind_some, Option.bind_some]
   show ∃ a b q e, (if e3 = 0 then (aof.Open g.Name g.Policy g.Quota (p.1.length : Int) 7).bind fun r42 => some (d3, { r42 with Logged := g.Logged, Durable := g.Logged }, (0 : Int)) else (some (newN g.Name)).bind fun r40 => (disk.Remove d3 r40).bind fun r41 => some (r41, g, e3)) = some (a, (if e = 0 then madeM g q else g), e) ∧ (if e3 = 0 then some (r3, (p.1.length : Int), (0 : Int)) else need (g.Name.length + ([46, 110, 101, 119] : List Nat).length ≤ 9223372036854775807) ((mewsref16.Remove r3 (newN g.Name)).bind fun r40 => some (r40, 0, e3))) = some (b, (if e = 0 then (q : Int) else 0), e) ∧ _
   by_cases h3 : e3 = 0
   ·rw [if_pos h3, if_pos h3]
    refine ⟨d3, r3, p.1.length, 0, ?_, rfl, c3, c4.mono (by omega), c5.mono (by omega)⟩
    have hs : (if (p.1.length : Int) < 0 then 0 else (p.1.length : Int)) = (p.1.length : Int) := if_neg (by omega)
    unfold aof.Open
    rw [hs]
    rfl
   ·rw [if_neg h3, if_neg h3, need_eq (newL hn), Option.bind_some]
    obtain ⟨d4, r4, f1, f2, f3, f4, f5⟩ := Remove_step c3 c4 c5 (newN g.Name) (by omega)
    rw [f1, f2]
    refine ⟨d4, r4, 0, e3, ?_, ?_, f3, f4.mono (by omega), f5.mono (by omega)⟩
    ·rw [if_neg h3]; rfl
    ·rw [if_neg h3]; rfl
 ·rw [if_neg he, if_neg he]
  refine ⟨d, r, 0, p.2, ?_, ?_, h, hd.mono (by omega), hr.mono (by omega)⟩
  ·rw [if_neg he]
  ·rw [if_neg he]

theorem Same17_self (g : api.Log) (hg : g.Ends.length ≤ 1000000000000000) : mewsref17.Same g g = some true := by
 have hloop : mewsref17.Same.loop0 g g ⟨0⟩ = some (.inl ()) := by
  unfold mewsref17.Same.loop0
  refine whileO_knownE ⟨0⟩ (fun i => (⟨(i : Int)⟩ : mewsref17.Same.S0)) g.Ends.length (fun i hi => ?_) ?_
  ·unfold mewsref17.Same.body0
   show (if (i : Int) < (g.Ends.length : Int) then _ else _) = _
   rw [if_pos (by omega), need_eq ⟨by show (0 : Int) ≤ (i : Int); omega, by show (i : Int) < (g.Ends.length : Int); omega⟩, need_eq ⟨by show (0 : Int) ≤ (i : Int); omega, by show (i : Int) < (g.Ends.length : Int); omega⟩, if_pos rfl]
   show some (Sum.inl (⟨IntKind.wrap .i64 ((i : Int) + 1)⟩ : mewsref17.Same.S0)) = _
   rw [i64w (by omega) (by omega), show (i : Int) + 1 = ((i + 1 : Nat) : Int) by omega]
  ·unfold mewsref17.Same.body0
   exact if_neg (by show ¬ (g.Ends.length : Int) < (g.Ends.length : Int); omega)
 unfold mewsref17.Same
 rw [if_pos rfl, hloop, Option.bind_some]
 show letO (if g.Name = g.Name then if g.Policy = g.Policy then if g.Quota = g.Quota then if g.Size = g.Size then if g.Pending = g.Pending then if g.Logged = g.Logged then if g.Durable = g.Durable then decide (g.Last = g.Last) else false else false else false else false else false else false else false) (fun s109 => some s109) = some true
 rw [if_pos rfl, if_pos rfl, if_pos rfl, if_pos rfl, if_pos rfl, if_pos rfl, if_pos rfl, decide_eq_true rfl]
 rfl

theorem RestoreLays_pure (d : api.Disk) (g : api.Log) (l : List api.Unit) (hd : d.Files.length < 1000000000000000) (hg : g.Ends.length ≤ 1000000000000000) (hgn : g.Name.length ≤ 140737488351232) (hgp : g.Pending.length ≤ 140737488351232) (hl : l.length ≤ 1000000000000000) (hu : ∀ u ∈ l, FitsC u.Cmds) : mewslaw18.RestoreLays d g l = some true := by
 obtain ⟨b, hF, hF2⟩ := Far16_eq d [] hd (by simp)
 obtain ⟨x, hf, hf2⟩ := Far_eq l hl hu
 unfold mewslaw18.RestoreLays
 rw [hF, Option.bind_some, hf, Option.bind_some, alive18, i64w (by omega) (by omega)]
 cases b with
 | true => rfl
 | false =>
  cases x with
  | true => rfl
  | false =>
   obtain ⟨hs, _⟩ := hF2 rfl
   obtain ⟨f1, f2⟩ := hf2 rfl
   rw [if_neg (by decide), if_neg (by decide), Option.bind_some]
   by_cases hbig : 300 < (g.Name.length : Int) + (g.Pending.length : Int)
   ·rw [decide_eq_true hbig]; rfl
   ·rw [decide_eq_false hbig, if_neg (by decide)]
    have hf := hs.f
    have ht := hs.t
    have hB : BD 60000 d := ⟨by omega, by omega, fun x hx => by have := (hs.b x hx).1; omega⟩
    obtain ⟨a, b, m, e, l1, l2, l3, l4, l5⟩ := Lay_both (d := d) (r := d) ⟨fun _ => rfl, rfl⟩ hB hB g.Name l (by omega) f1 f2 (by omega)
    obtain ⟨a2, b2, e2, s1, s2, s3, s4, s5⟩ := Swap_both l3 l4 l5 g.Name (by omega) (by omega)
    obtain ⟨u, v, q, k, n1, n2, n3, n4, n5⟩ := Anew_both (d := d) (r := d) ⟨fun _ => rfl, rfl⟩ hB hB g l (by omega) f1 f2 (by omega)
    rw [l1, l2, Option.bind_some, Option.bind_some]
    show ((restore.Swap a g.Name).bind fun r84 => (mewsref18.Swap b g.Name).bind fun r86 => _) = _
    rw [s1, s2, Option.bind_some, Option.bind_some]
    rw [RSame_eq l3 l4 l5 (by omega), Option.bind_some, if_neg (by decide), if_pos rfl, if_pos rfl, RSame_eq s3 s4 s5 (by omega), Option.bind_some, if_neg (by decide), decide_eq_true rfl]
    show ((restore.Anew d g l 7).bind fun r103 => (mewsref18.Anew d g.Name g.Quota l).bind fun r106 => _) = _
    rw [n1, n2, Option.bind_some, Option.bind_some, RSame_eq n3 n4 n5 (by omega)]
    by_cases hk : k = 0
    ·subst hk
     show (((mewsref17.Same (madeM g q) (madeM g q)).bind _) : Option Bool).bind _ = _
     rw [Same17_self _ (by show 0 ≤ _; omega)]
     rfl
    ·rw [if_neg hk, if_neg hk]
     show (((mewsref17.Same g g).bind fun r125 => if r125 = true then if k = k then (some true).bind fun r128 => some r128 else some false else some false) : Option Bool).bind (fun s120 => some s120) = _
     rw [Same17_self _ hg, Option.bind_some, if_pos rfl, if_pos rfl]
     rfl

end Go.Pu

namespace Go.Pu.Pure
open Go.Lift Go.Pu
theorem RestoreLays {a0 : api.Disk} {a1 : api.Log} {a2 : List api.Unit} (h0 : api.Disk.wf a0) (h1 : api.Log.wf a1) (h2 : a2.length * 24 ≤ 140737488351232 ∧ ∀ y0, y0 ∈ a2 → api.Unit.wf y0) : mewslaw18.RestoreLays a0 a1 a2 = some true :=
 RestoreLays_pure a0 a1 a2 (by have := h0.1.1; omega) (by have := h1.2.2.2.2.2.2.2.1.1; omega) h1.1 h1.2.2.2.2.1 (by omega) fun u hu => fits_wf (h2.2 u hu)
end Go.Pu.Pure
