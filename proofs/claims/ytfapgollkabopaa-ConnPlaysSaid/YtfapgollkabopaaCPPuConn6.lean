/- The pure law ConnPlays. -/
import Derived.Test.YtfapgollkabopaaCPPuConn5
set_option maxRecDepth 100000
namespace Go.Pu
open Go.Lift

structure PlayI (t : api.Tenant) (n m : Nat) (all : List UInt8) (read : Int) (c : api.Conn) : Prop where
 read : read = ((runP (startP emptyIn all t.Limits)).out.length : Int)
 allLen : all.length ≤ m
 inp : c.In = inOf (runP (startP emptyIn all t.Limits))
 held : c.Held.length ≤ n
 taken : ∃ k : Nat, c.Taken = (k : Int) ∧ k + c.Out.length + (bytesOf c.Held).length ≤ m
 asked : 0 ≤ c.Asked ∧ c.Asked ≤ sizeQ (runP (startP emptyIn all t.Limits)).out
 live : c.Shut = false → (runP (startP emptyIn all t.Limits)).in_.Dead = 0

theorem PlayI.more {t n m all read c} (h : PlayI t n m all read c) {n' m' : Nat} (hn : n ≤ n') (hm : m ≤ m') : PlayI t n' m' all read c := by
 obtain ⟨h1, h2, h3, h4, ⟨k, h5, h6⟩, h7, h8⟩ := h
 exact ⟨h1, by omega, h3, by omega, ⟨k, h5, by omega⟩, h7, h8⟩

theorem PlayI.free {t n m all read c} (h : PlayI t n m all read c) (d : Int) : PlayI t n m all read (freeC c d) := by
 obtain ⟨h1, h2, h3, h4, ⟨k, h5, h6⟩, h7, h8⟩ := h
 refine ⟨h1, h2, h3, Nat.le_trans (keepOf_le d _) h4, ⟨k, h5, ?_⟩, h7, h8⟩
 have := free_len c d
 omega

theorem PlayI.say {t n m all read c} (h : PlayI t n m all read c) (s : List UInt8) (nd d lim : Int) : PlayI t (n + 1) (m + s.length) all read (sayC c s nd d lim) := by
 have h0 := h
 obtain ⟨h1, h2, h3, h4, ⟨k, h5, h6⟩, h7, h8⟩ := h
 have hpre : PlayI t (n + 1) (m + s.length) all read { c with Held := c.Held ++ [({ Need := nd, S := s } : api.Held)] } := by
  refine ⟨h1, by omega, h3, by simp; omega, ⟨k, h5, ?_⟩, h7, h8⟩
  simp only [bytesOf_append, bytesOf_one, List.length_append]; omega
 unfold sayC
 split
 ·exact h0.more (by omega) (by omega)
 ·split
  ·obtain ⟨g1, g2, g3, g4, ⟨k', g5, g6⟩, g7, g8⟩ := hpre.free d
   exact ⟨g1, g2, g3, by simp, ⟨k', g5, by simp [bytesOf]; omega⟩, g7, g8⟩
  ·exact hpre.free d

theorem play_tail (c : api.Conn) (h1 : c.Held.length ≤ 1000000) (h2 : c.Out.length + (bytesOf c.Held).length ≤ 1000000) (h3 : c.In.Args.length ≤ 1000000000) :
  ((mewsref43.Same c c).bind fun r1461 => if (!r1461) = true then some true else (conn.Pending c).bind fun r1463 => (mewsref43.Pending c).bind fun r1464 => some (!decide (r1463 = r1464))) = some false := by
 rw [rSame_self c (by omega) h3]
 simp only [Option.bind_some, Bool.not_true, Bool.false_eq_true, if_false]
 rw [Pending_eq c (by omega) h1, rPending_eq c (by omega) h1]
 simp

theorem done_eq (a n : Int) (ha : 0 ≤ a ∧ a ≤ 1000000000) (hn : -9223372036854775808 ≤ n ∧ n < 9223372036854775808) :
  (if (IntKind.wrap .i64 (a - (if n < 0 then 0 else n))) < 0 then 0 else (IntKind.wrap .i64 (a - (if n < 0 then 0 else n)))) = (if n < 0 then a else if a < n then 0 else a - n) ∧
  (if 0 < (IntKind.wrap .i64 (a - (if 0 < n then n else 0))) then (IntKind.wrap .i64 (a - (if 0 < n then n else 0))) else 0) = (if n < 0 then a else if a < n then 0 else a - n) := by
 by_cases h : n < 0
 ·simp only [if_pos h, if_neg (show ¬ 0 < n by omega)]
  rw [i64w (by omega) (by omega)]
  constructor
  ·rw [if_neg (by omega)]; omega
  ·split <;> omega
 ·simp only [if_neg h]
  have e : (if 0 < n then n else 0) = n := by split <;> omega
  rw [e, i64w (by omega) (by omega)]
  constructor
  ·split <;> split <;> omega
  ·split <;> split <;> omega

end Go.Pu
