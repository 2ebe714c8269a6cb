/- The reference's connection: Free, Pending, Say, Take, Same. -/
import Derived.Test.YtfapgollkabopaaCPPuConn3
set_option maxRecDepth 100000
namespace Go.Pu
open Go.Lift

theorem rFree_go (d : Int) : ∀ (held : List api.Held) (out : List UInt8), held.length ≤ 1000000 → out.length + (bytesOf held).length ≤ 9223372036854775807 →
  mewsref43.Free.loop0 d ⟨held, out⟩ = some (keepOf d held, out ++ bytesOf (relOf d held))
 | [], out, _, _ => by
  unfold mewsref43.Free.loop0
  apply whileO_end
  unfold mewsref43.Free.body0
  simp only
  rw [if_neg (by simp)]
  simp [keepOf, relOf, bytesOf]
 | x :: held, out, hl, hb => by
  rw [bytesOf_cons, List.length_append] at hb
  simp only [List.length_cons] at hl
  by_cases h : x.Need ≤ d
  ·have ih := rFree_go d held (out ++ x.S) (by omega) (by rw [List.length_append]; omega)
   have e1 : keepOf d (x :: held) = keepOf d held := by simp [keepOf, List.dropWhile_cons, h]
   have e2 : relOf d (x :: held) = x :: relOf d held := by simp [relOf, List.takeWhile_cons, h]
   rw [e1, e2, bytesOf_cons, ← List.append_assoc]
   refine whileO_next ?_ ih
   unfold mewsref43.Free.body0
   simp only
   rw [if_pos (by simp), need_eq ⟨by omega, by simp⟩, ix_zero, decide_eq_true h]
   simp only [Option.bind_some, if_true]
   rw [need_eq ⟨by omega, by simp⟩, need_eq (by omega), need_eq ⟨by omega, by simp only [List.length_cons]; omega, by omega⟩, sub_all, need_eq (by simp; omega)]
   rfl
  ·have e1 : keepOf d (x :: held) = x :: held := by simp [keepOf, List.dropWhile_cons, h]
   have e2 : relOf d (x :: held) = [] := by simp [relOf, List.takeWhile_cons, h]
   rw [e1, e2]
   unfold mewsref43.Free.loop0
   apply whileO_end
   unfold mewsref43.Free.body0
   simp only
   rw [if_pos (by simp), need_eq ⟨by omega, by simp⟩, ix_zero, decide_eq_false h]
   simp [bytesOf]

theorem rFree_eq (c : api.Conn) (d : Int) (hl : c.Held.length ≤ 1000000) (hb : c.Out.length + (bytesOf c.Held).length ≤ 9223372036854775807) : mewsref43.Free c d = some (freeC c d) := by
 unfold mewsref43.Free
 rw [rFree_go d _ _ hl hb]
 simp only [Option.bind_some, letO, freeC]
 congr 2
 have e0 : ((keepOf d c.Held).isEmpty) = decide (((keepOf d c.Held).length : Int) = 0) := by cases keepOf d c.Held <;> simp <;> omega
 rw [e0]
 cases c.Closed <;> cases c.Shut <;> by_cases h1 : c.Asked = 0 <;> by_cases h2 : ((keepOf d c.Held).length : Int) = 0 <;> simp [h1, h2]

theorem rPending_eq (c : api.Conn) (hb : c.Out.length + (bytesOf c.Held).length ≤ 9223372036854775807) (hl : c.Held.length ≤ 1000000) : mewsref43.Pending c = some ((c.Out.length + (bytesOf c.Held).length : Nat) : Int) := by
 unfold mewsref43.Pending mewsref43.Pending.loop0
 rw [whileO_inv (fun i s => s.i = (i : Int) ∧ s.n = ((c.Out.length + (bytesOf (c.Held.take i)).length : Nat) : Int)) c.Held.length (r := ((c.Out.length + (bytesOf c.Held).length : Nat) : Int)) ?_ ?_ _ ⟨rfl, by simp [bytesOf]⟩]
 ·rfl
 ·rintro i s hi ⟨h1, h2⟩
  have hle : (bytesOf (c.Held.take (i + 1))).length = (bytesOf (c.Held.take i)).length + c.Held[i].S.length := by
   rw [List.take_add_one, List.getElem?_eq_getElem hi, bytesOf_append]; simp [bytesOf]
  have hle2 : (bytesOf (c.Held.take (i + 1))).length ≤ (bytesOf c.Held).length := by
   conv => rhs; rw [← List.take_append_drop (i + 1) c.Held, bytesOf_append]
   simp
  unfold mewsref43.Pending.body0
  refine ⟨_, by rw [h1, if_pos (by omega), need_eq ⟨by omega, by omega⟩], ?_, ?_⟩
  ·show IntKind.wrap .i64 ((i : Int) + 1) = ((i + 1 : Nat) : Int)
   rw [i64w (by omega) (by omega)]; omega
  ·show IntKind.wrap .i64 (s.n + ((ix c.Held (i : Int)).S.length : Int)) = _
   rw [h2, ix_get hi, i64w (by omega) (by omega), hle]; omega
 ·rintro s ⟨h1, h2⟩
  unfold mewsref43.Pending.body0
  rw [h1, if_neg (by omega), h2, List.take_length]

theorem rSay_eq (c : api.Conn) (s : List UInt8) (n d : Int) (t : api.Tenant) (hl : c.Held.length ≤ 999999) (hb : c.Out.length + (bytesOf c.Held).length + s.length ≤ 9223372036854775807) : mewsref43.Say c s n d t = some (sayC c s n d t.Out) := by
 unfold mewsref43.Say sayC
 by_cases h : c.Closed = true
 ·rw [if_pos h, if_pos h]
 ·rw [if_neg h, if_neg h, need_eq (by simp; omega), need_eq (by simp; omega), List.nil_append]
  have hbb : (bytesOf (c.Held ++ [({ Need := n, S := s } : api.Held)])).length = (bytesOf c.Held).length + s.length := by rw [bytesOf_append]; simp [bytesOf]
  have hb2 : c.Out.length + (bytesOf (c.Held ++ [({ Need := n, S := s } : api.Held)])).length ≤ 9223372036854775807 := by omega
  rw [rFree_eq _ d (by simp; omega) hb2, Option.bind_some, rPending_eq]
  ·simp only [Option.bind_some]
   split <;> rfl
  ·rw [free_len]; exact hb2
  ·refine Nat.le_trans (keepOf_le d _) ?_
   simp; omega

theorem rTake_go (n : Int) : ∀ (out s : List UInt8) (k : Nat), out.length + s.length ≤ 1000000000 → k + out.length ≤ 1000000000000 →
  mewsref43.Take.loop0 n ⟨s, out, (k : Int)⟩ = some (s ++ out.take (min out.length (n - s.length).toNat), out.drop (min out.length (n - s.length).toNat), ((k + min out.length (n - s.length).toNat : Nat) : Int))
 | [], s, k, _, _ => by
  unfold mewsref43.Take.loop0
  apply whileO_end
  unfold mewsref43.Take.body0
  simp [letO]
 | c :: out, s, k, hl, hk => by
  simp only [List.length_cons] at hl hk
  by_cases h : (s.length : Int) < n
  ·have ih := rTake_go n out (s ++ [c]) (k + 1) (by simp; omega) (by omega)
   have e : min (c :: out).length (n - s.length).toNat = min out.length (n - ((s ++ [c]).length : Int)).toNat + 1 := by
    simp only [List.length_cons, List.length_append, List.length_nil]; omega
   rw [e, List.take_succ_cons, List.drop_succ_cons]
   rw [show s ++ c :: out.take (min out.length (n - ((s ++ [c]).length : Int)).toNat) = (s ++ [c]) ++ out.take (min out.length (n - ((s ++ [c]).length : Int)).toNat) by simp, show k + (min out.length (n - ((s ++ [c]).length : Int)).toNat + 1) = k + 1 + min out.length (n - ((s ++ [c]).length : Int)).toNat by omega]
   refine whileO_next ?_ ih
   unfold mewsref43.Take.body0
   simp only [letO]
   have hg : (if 0 < ((c :: out).length : Int) then decide ((s.length : Int) < n) else false) = true := by
    rw [if_pos (by simp only [List.length_cons]; omega), decide_eq_true h]
   rw [hg, if_pos rfl, need_eq ⟨by omega, by omega, by simp only [List.length_cons]; omega⟩, need_eq (by simp [sub]; omega), need_eq ⟨by omega, by simp only [List.length_cons]; omega, by omega⟩, sub_all, i64w (by omega) (by omega)]
   rfl
  ·have e : min (c :: out).length (n - s.length).toNat = 0 := by
    have : (n - s.length).toNat = 0 := by omega
    rw [this]; simp
   rw [e]
   unfold mewsref43.Take.loop0
   apply whileO_end
   unfold mewsref43.Take.body0
   simp only [letO]
   have hg : (if 0 < ((c :: out).length : Int) then decide ((s.length : Int) < n) else false) = false := by
    rw [if_pos (by simp only [List.length_cons]; omega), decide_eq_false h]
   rw [hg]
   simp

theorem rTake_eq (c : api.Conn) (n : Int) (k : Nat) (hk : c.Taken = (k : Int)) (hb : c.Out.length ≤ 1000000000) (hk2 : k + c.Out.length ≤ 1000000000000) : mewsref43.Take c n = conn.Take c n := by
 rw [Take_eq c n (by omega)]
 unfold mewsref43.Take
 rw [hk, rTake_go n c.Out [] k (by simpa using hb) hk2]
 have e : min c.Out.length (n - (([] : List UInt8).length : Int)).toNat = takeN c n := by unfold takeN; simp
 rw [e]
 have h2 : takeN c n ≤ c.Out.length := Nat.min_le_left _ _
 simp only [Option.bind_some, List.nil_append]
 rw [i64w (by omega) (by omega)]
 simp

theorem rSame_self (c : api.Conn) (hl : c.Held.length ≤ 1000000000) (ha : c.In.Args.length ≤ 1000000000) : mewsref43.Same c c = some true := by
 unfold mewsref43.Same mewsref43.Same.loop0
 rw [if_pos rfl, whileO_knownE ⟨0⟩ (fun i => (⟨(i : Int)⟩ : mewsref43.Same.S0)) c.Held.length (r := .inl ()) ?_ ?_]
 ·simp only [Option.bind_some, onSum]
  rw [SameInput_self _ ha]
  simp
 ·intro i hi
  unfold mewsref43.Same.body0
  simp only
  rw [if_pos (by omega), need_eq ⟨by omega, by omega⟩, need_eq ⟨by omega, by omega⟩, if_pos (by trivial), i64w (by omega) (by omega)]
  rfl
 ·unfold mewsref43.Same.body0
  simp

end Go.Pu
