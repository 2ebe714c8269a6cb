import Derived.Test.YtngliepchpkiiaaDoorTAPuTab0
import Derived.Test.YtngliepchpkiiaaDoorTAPuNumP
set_option maxHeartbeats 0
set_option maxRecDepth 100000
namespace Go.Pu
open Go.Lift

/-- What stands between a byte. -/
def splW (b : UInt8) : List UInt8 → List UInt8 → List (List UInt8)
 | now, [] => [now]
 | now, c :: t => if c = b then now :: splW b [] t else splW b (now ++ [c]) t

theorem toNat_eqI (c b : UInt8) : ((c.toNat : Int) = (b.toNat : Int)) ↔ c = b := by
 constructor
 ·intro h; exact UInt8.toNat_inj.1 (by omega)
 ·rintro rfl; rfl

theorem splitLoop_eq (s : List UInt8) (b : UInt8) (hs : s.length ≤ 1000000) : ∀ (m i : Nat) (out : List (List UInt8)) (now : List UInt8), i + m = s.length → out.length ≤ i → now.length ≤ i →
  ∃ o n, mewsref28.split.loop0 s (b.toNat : Int) ⟨out, now, (i : Int)⟩ = some (o, n) ∧ o ++ [n] = out ++ splW b now (s.drop i) ∧ o.length ≤ s.length
 | 0, i, out, now, e, ho, hn => by
  refine ⟨out, now, ?_, ?_, by omega⟩
  ·unfold mewsref28.split.loop0
   apply whileO_end
   unfold mewsref28.split.body0
   rw [if_neg (by simp only; omega)]
  ·rw [List.drop_eq_nil_of_le (by omega)]; rfl
 | m + 1, i, out, now, e, ho, hn => by
  have hi : i < s.length := by omega
  have hb : mewsref28.split.body0 s (b.toNat : Int) ⟨out, now, (i : Int)⟩ = some (.inl (if s[i] = b then ⟨out ++ [now], [], ((i + 1 : Nat) : Int)⟩ else ⟨out, now ++ [s[i]], ((i + 1 : Nat) : Int)⟩)) := by
   unfold mewsref28.split.body0
   simp only
   rw [if_pos (by omega), need_eq ⟨by omega, by omega⟩, bix_get' hi, i64w (by omega) (by omega)]
   by_cases h : s[i] = b
   ·rw [if_pos ((toNat_eqI _ _).2 h), need_eq (by simp only [List.length_singleton]; omega), if_pos h]
    rfl
   ·rw [if_neg (fun q => h ((toNat_eqI _ _).1 q)), need_eq ⟨by omega, by omega, by omega⟩, sub_one hi, need_eq (by simp only [List.length_singleton]; omega), if_neg h]
    rfl
  rw [List.drop_eq_getElem_cons hi]
  unfold mewsref28.split.loop0 at *
  by_cases h : s[i] = b
  ·rw [if_pos h] at hb
   obtain ⟨o, n, h1, h2, h3⟩ := splitLoop_eq s b hs m (i + 1) (out ++ [now]) [] (by omega) (by simp; omega) (by simp)
   refine ⟨o, n, whileO_next hb h1, ?_, h3⟩
   rw [h2, splW, if_pos h, List.append_assoc]
   rfl
  ·rw [if_neg h] at hb
   obtain ⟨o, n, h1, h2, h3⟩ := splitLoop_eq s b hs m (i + 1) out (now ++ [s[i]]) (by omega) (by omega) (by simp; omega)
   refine ⟨o, n, whileO_next hb h1, ?_, h3⟩
   rw [h2, splW, if_neg h]

theorem split28_eq (s : List UInt8) (b : UInt8) (hs : s.length ≤ 1000000) : mewsref28.split s (b.toNat : Int) = some (splW b [] s) := by
 obtain ⟨o, n, h1, h2, h3⟩ := splitLoop_eq s b hs s.length 0 [] [] (by omega) (by simp) (by simp)
 unfold mewsref28.split
 rw [show mewsref28.split.loop0 s (b.toNat : Int) ⟨[], [], 0⟩ = some (o, n) from h1, Option.bind_some, need_eq (by simp only [List.length_singleton]; omega), h2]
 rfl

/-- A text that is a number's own. -/
def numT (s : List UInt8) : Bool := decide (s.length ≤ 20) && decide (-9223372036854775808 ≤ sval s) && decide (sval s < 9223372036854775808) && decide (s = itext (sval s))
theorem number_eq {s : List UInt8} (h : numT s = true) : mewsref28.number s = some (sval s) := by
 unfold numT at h
 simp only [Bool.and_eq_true, decide_eq_true_eq] at h
 obtain ⟨⟨⟨h1, h2⟩, h2'⟩, h3⟩ := h
 obtain ⟨b, hb, hiff, _⟩ := rParseI s (by omega)
 have : b = true := hiff.2 ⟨_, ⟨h2, h2'⟩, h3⟩
 subst this
 unfold mewsref28.number
 rw [hb]
 rfl

theorem has_eq (s : List UInt8) (c : UInt8) (hs : s.length ≤ 1000000) : mewsref28.has s (c.toNat : Int) = some (s.any (fun x => decide (x = c))) := by
 have hl : mewsref28.has.loop0 s (c.toNat : Int) ⟨0⟩ = some (if s.any (fun x => decide (x = c)) = true then .inr true else .inl ()) := by
  unfold mewsref28.has.loop0
  refine whileO_anyL _ (fun i => ⟨(i : Int)⟩) s _ _ _ (fun i hi => ?_) ?_
  ·unfold mewsref28.has.body0
   simp only
   rw [if_pos (by omega), need_eq ⟨by omega, by omega⟩, bix_get' hi, i64w (by omega) (by omega)]
   by_cases h : s[i] = c
   ·rw [if_pos ((toNat_eqI _ _).2 h), if_pos (decide_eq_true h)]
   ·rw [if_neg (fun q => h ((toNat_eqI _ _).1 q)), if_neg (by simp [h])]
    rfl
  ·unfold mewsref28.has.body0
   rw [if_neg (by simp only; omega)]
 unfold mewsref28.has
 rw [hl]
 cases s.any (fun x => decide (x = c)) <;> rfl

/-- A line's command. -/
def lineC (l : List UInt8) : api.Command :=
 let f := splW 32 [] l
 ⟨f.getD 0 [], sval (f.getD 1 []), sval (f.getD 2 []), (f.getD 3 []).any (fun x => decide (x = 119)), (f.getD 3 []).any (fun x => decide (x = 103)), (f.getD 3 []).any (fun x => decide (x = 102)), sval (f.getD 4 []), sval (f.getD 5 []), sval (f.getD 6 []), sval (f.getD 7 [])⟩
def lineT (l : List UInt8) : Bool :=
 decide (l.length ≤ 1000) && (decide ((splW 32 [] l).length = 8) && (decide (((splW 32 [] l).getD 3 []).length ≤ 1000) && [1, 2, 4, 5, 6, 7].all fun k => numT ((splW 32 [] l).getD k [])))

theorem lines_ok : (splW 10 [] longS1).all lineT = true := by decide +kernel
theorem lines_cmds : (splW 10 [] longS1).map lineC = cmdsL := by decide +kernel
theorem long_len : longS1.length ≤ 1000000 := by decide +kernel
theorem lines_len : (splW 10 [] longS1).length ≤ 200 := by decide +kernel

theorem getD_ix (f : List (List UInt8)) (k : Nat) : ix f (k : Int) = f.getD k [] := by
 simp [ix, List.getD]
 rfl

theorem Commands_eq : mewsref28.Commands = some cmdsL := by
 unfold mewsref28.Commands
 rw [show (10 : Int) = ((10 : UInt8).toNat : Int) from rfl, split28_eq _ _ long_len, Option.bind_some]
 have hlen := lines_len
 have hok := lines_ok
 rw [← lines_cmds]
 generalize splW 10 [] longS1 = L at hlen hok ⊢
 have hl : mewsref28.Commands.loop0 L ⟨[], 0⟩ = some (L.map lineC) := by
  unfold mewsref28.Commands.loop0
  refine whileO_knownE _ (fun i => ⟨(L.take i).map lineC, (i : Int)⟩) L.length (fun i hi => ?_) ?_ (by simp)
  ·have hT := List.all_eq_true.1 hok L[i] (List.getElem_mem hi)
   unfold lineT at hT
   simp only [Bool.and_eq_true, decide_eq_true_eq, List.all_cons, List.all_nil, Bool.and_true] at hT
   obtain ⟨h0, h8, h3, n1, n2, n4, n5, n6, n7⟩ := hT
   have hn : (L.take (i + 1)).map lineC = (L.take i).map lineC ++ [lineC L[i]] := by
    rw [List.take_add_one, List.getElem?_eq_getElem hi, List.map_append]; rfl
   unfold mewsref28.Commands.body0
   simp only
   rw [if_pos (by omega), need_eq ⟨by omega, by omega⟩, ix_get hi, show (32 : Int) = ((32 : UInt8).toNat : Int) from rfl, split28_eq _ _ (by omega), Option.bind_some]
   have e0 : ix (splW 32 [] L[i]) (0 : Int) = (splW 32 [] L[i]).getD 0 [] := getD_ix _ 0
   have e1 : ix (splW 32 [] L[i]) (1 : Int) = (splW 32 [] L[i]).getD 1 [] := getD_ix _ 1
   have e2 : ix (splW 32 [] L[i]) (2 : Int) = (splW 32 [] L[i]).getD 2 [] := getD_ix _ 2
   have e3 : ix (splW 32 [] L[i]) (3 : Int) = (splW 32 [] L[i]).getD 3 [] := getD_ix _ 3
   have e4 : ix (splW 32 [] L[i]) (4 : Int) = (splW 32 [] L[i]).getD 4 [] := getD_ix _ 4
   have e5 : ix (splW 32 [] L[i]) (5 : Int) = (splW 32 [] L[i]).getD 5 [] := getD_ix _ 5
   have e6 : ix (splW 32 [] L[i]) (6 : Int) = (splW 32 [] L[i]).getD 6 [] := getD_ix _ 6
   have e7 : ix (splW 32 [] L[i]) (7 : Int) = (splW 32 [] L[i]).getD 7 [] := getD_ix _ 7
   rw [need_eq ⟨by omega, by omega⟩, need_eq ⟨by omega, by omega⟩, e1, number_eq n1, Option.bind_some, need_eq ⟨by omega, by omega⟩, e2, number_eq n2, Option.bind_some, need_eq ⟨by omega, by omega⟩, e3, show (119 : Int) = ((119 : UInt8).toNat : Int) from rfl, has_eq _ _ (by omega), Option.bind_some, need_eq ⟨by omega, by omega⟩, show (103 : Int) = ((103 : UInt8).toNat : Int) from rfl, has_eq _ _ (by omega), Option.bind_some, need_eq ⟨by omega, by omega⟩, show (102 : Int) = ((102 : UInt8).toNat : Int) from rfl, has_eq _ _ (by omega), Option.bind_some, need_eq ⟨by omega, by omega⟩, e4, number_eq n4, Option.bind_some, need_eq ⟨by omega, by omega⟩, e5, number_eq n5, Option.bind_some, need_eq ⟨by omega, by omega⟩, e6, number_eq n6, Option.bind_some, need_eq ⟨by omega, by omega⟩, e7, number_eq n7, Option.bind_some, need_eq (by simp only [List.length_map, List.length_take, List.length_singleton]; omega), i64w (by omega) (by omega), hn, e0]
   rfl
  ·unfold mewsref28.Commands.body0
   rw [if_neg (by simp only; omega)]
   simp
 rw [hl]
 rfl

end Go.Pu
