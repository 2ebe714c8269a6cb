/- The pure law ParseFeeds. -/
import Derived.Test.YtfapgollkabopaaCQPuStream
set_option maxRecDepth 100000
namespace Go.Pu
open Go.Lift

theorem alive05 : mewslaw05.alive = some true := mewslaw05.alive.c_le 100 true (by decide +kernel)

theorem texts_self (a : List (List UInt8)) (h : a.length ≤ 1000000000) : mewsref05.texts a a = some true := by
 unfold mewsref05.texts mewsref05.texts.loop0
 rw [if_pos rfl, whileO_knownE ⟨0⟩ (fun i => (⟨(i : Int)⟩ : mewsref05.texts.S0)) a.length (r := .inl ()) ?_ ?_]
 ·rfl
 ·intro i hi
  unfold mewsref05.texts.body0
  simp only
  rw [if_pos (by omega), need_eq ⟨by omega, by omega⟩, need_eq ⟨by omega, by omega⟩, if_pos (by trivial), i64w (by omega) (by omega)]
  rfl
 ·unfold mewsref05.texts.body0
  simp

theorem Same5_self (a : List api.Request) (h : a.length ≤ 1000000000) (hb : OutB a) : mewsref05.Same a a = some true := by
 unfold mewsref05.Same mewsref05.Same.loop0
 rw [if_pos rfl, whileO_knownE ⟨0⟩ (fun i => (⟨(i : Int)⟩ : mewsref05.Same.S0)) a.length (r := .inl ()) ?_ ?_]
 ·rfl
 ·intro i hi
  unfold mewsref05.Same.body0
  simp only
  have := hb a[i] (List.getElem_mem hi)
  rw [if_pos (by omega), need_eq ⟨by omega, by omega⟩, need_eq ⟨by omega, by omega⟩, if_pos (by trivial), need_eq ⟨by omega, by omega⟩, need_eq ⟨by omega, by omega⟩, ix_get hi, texts_self _ (by omega), i64w (by omega) (by omega)]
  rfl
 ·unfold mewsref05.Same.body0
  simp

theorem SameInput_self (a : api.Input) (h : a.Args.length ≤ 1000000000) : mewsref05.SameInput a a = some true := by
 unfold mewsref05.SameInput
 rw [if_pos rfl, texts_self _ h]
 simp only [Option.bind_some, if_true]
 simp

theorem far05_eq (l : List (List UInt8)) (hl : l.length < 1000000000000000) : ∃ b, mewslaw05.far l = some b ∧ (b = false → l.length ≤ 100 ∧ lenS l ≤ 5000) := by
 have main : ∀ (rest pre : List (List UInt8)), l = pre ++ rest → lenS pre ≤ 5000 →
   ∃ r, whileO (mewslaw05.far.body0 l) ⟨(lenS pre : Int), (pre.length : Int)⟩ = some r ∧ (r = .inr true ∨ (r = .inl () ∧ lenS l ≤ 5000)) := by
  intro rest
  induction rest with
  | nil =>
   intro pre e hp
   rw [List.append_nil] at e
   refine ⟨.inl (), whileO_end ?_, .inr ⟨rfl, by rw [e]; exact hp⟩⟩
   unfold mewslaw05.far.body0
   simp only
   rw [e, if_neg (by omega)]
  | cons x rest ih =>
   intro pre e hp
   have hlen : l.length = pre.length + (rest.length + 1) := by rw [e]; simp
   have hx : ix l (pre.length : Int) = x := by
    rw [ix_get (by omega)]; simp [e]
   have hmin : (if 10000 < (x.length : Int) then (10000 : Int) else (x.length : Int)) = ((min x.length 10000 : Nat) : Int) := by
    by_cases h : 10000 < (x.length : Int)
    ·rw [if_pos h]; omega
    ·rw [if_neg h]; omega
   have hb : mewslaw05.far.body0 l ⟨(lenS pre : Int), (pre.length : Int)⟩ = if 5000 < lenS pre + min x.length 10000 then some (.inr (.inr true)) else some (.inl ⟨((lenS pre + min x.length 10000 : Nat) : Int), ((pre.length + 1 : Nat) : Int)⟩) := by
    unfold mewslaw05.far.body0
    simp only
    rw [if_pos (by omega), need_eq ⟨by omega, by omega⟩, hx, hmin, i64w (n := (lenS pre : Int) + _) (by omega) (by omega), i64w (n := (pre.length : Int) + 1) (by omega) (by omega)]
    by_cases h : 5000 < lenS pre + min x.length 10000
    ·rw [if_pos (by omega), if_pos h]
    ·rw [if_neg (by omega), if_neg h]; rfl
   by_cases h : 5000 < lenS pre + min x.length 10000
   ·rw [if_pos h] at hb
    exact ⟨_, whileO_end hb, .inl rfl⟩
   ·rw [if_neg h] at hb
    have e1 : lenS (pre ++ [x]) = lenS pre + min x.length 10000 := by rw [lenS_append]; simp only [lenS]; omega
    obtain ⟨r, h1, h2⟩ := ih (pre ++ [x]) (by rw [e]; simp) (by rw [e1]; omega)
    rw [e1, show (pre ++ [x]).length = pre.length + 1 by simp] at h1
    exact ⟨r, whileO_next hb h1, h2⟩
 obtain ⟨r, h1, h2⟩ := main l [] rfl (by simp [lenS])
 unfold mewslaw05.far mewslaw05.far.loop0
 rw [show (⟨0, 0⟩ : mewslaw05.far.S0) = ⟨((lenS [] : Nat) : Int), (([] : List (List UInt8)).length : Int)⟩ from rfl, h1]
 rcases h2 with rfl | ⟨rfl, h2⟩
 ·exact ⟨true, rfl, fun h => by cases h⟩
 ·refine ⟨decide (100 < (l.length : Int)), rfl, fun h => ⟨?_, h2⟩⟩
  rw [decide_eq_false_iff_not] at h; omega

theorem ParseFeeds_pure (s : List UInt8) (l : api.Limits) : mewslaw05.ParseFeeds s l = some true := by
 unfold mewslaw05.ParseFeeds
 obtain ⟨b, hf, hf2⟩ := far05_eq [s] (by simp)
 rw [hf, alive05]
 cases b with
 | true => rfl
 | false =>
  have hs := (hf2 rfl).2
  simp only [lenS] at hs
  have hinv := start_inv s l (by omega)
  have hr := (runP_inv hinv).1
  have ho := hr.out
  have ha := hr.args
  have hob := runP_out hinv (fun r hr => by cases hr)
  simp only [Option.bind_some, Bool.false_eq_true, if_false]
  rw [Feed_eq emptyIn s l rfl hinv, All_eq s l (by omega)]
  simp only [Option.bind_some, feedM, allOf]
  rw [SameInput_self _ (by simp only; omega)]
  simp only [Option.bind_some, if_true]
  rw [Same5_self _ (by omega) hob]
  simp only [Option.bind_some, if_true]
  rw [Limits_eq, rLimits_eq]
  simp only [Option.bind_some, if_true, parse.Idle, letO]
  by_cases h1 : (runP (startP emptyIn s l)).s = []
  ·by_cases h2 : (runP (startP emptyIn s l)).in_.Size = 0
   ·simp [h1, h2]
   ·simp [h1, h2]
  ·simp [h1]

end Go.Pu

namespace Go.Pu.Pure
open Go.Lift Go.Pu
theorem ParseFeeds {a0 : List UInt8} {a1 : api.Limits} (h0 : a0.length ≤ 140737488351232) (h1 : api.Limits.wf a1) : mewslaw05.ParseFeeds a0 a1 = some true := ParseFeeds_pure a0 a1
end Go.Pu.Pure
