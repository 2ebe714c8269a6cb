/- Numbers in decimals: Add, Text; str.Add. -/
import Derived.Test.YtlehodoiabaaaaaFUPuFldN
set_option maxHeartbeats 0
set_option maxRecDepth 100000
namespace Go.Pu
open Go.Lift

theorem addBoth {a b : Int} (ha : I64 a) (hb : I64 b) : ∃ v ok, num.Add a b = some (v, ok) ∧ mewsref01.Add a b = some (v, ok) ∧ (ok = true → I64 v ∧ v = a + b) ∧ (I64 (a + b) → ok = true) := by
 obtain ⟨a1, a2⟩ := ha
 obtain ⟨b1, b2⟩ := hb
 unfold num.Add mewsref01.Add letO
 by_cases h1 : a + b < -9223372036854775808
 ·refine ⟨0, false, ?_, ?_, (fun h => by cases h), fun h => by unfold I64 at h; omega⟩
  ·rw [IntKind.wrap_i64, decide_eq_true (show a < (a + b + 9223372036854775808) % 18446744073709551616 - 9223372036854775808 by omega), decide_eq_false (show ¬ 0 < b by omega), if_pos (by rfl), decide_eq_false (show ¬ b = 0 by omega)]
   rfl
  ·rw [if_neg (show ¬ 0 < b by omega), if_pos (show b < 0 by omega), i64w (n := -9223372036854775808 - b) (by omega) (by omega), decide_eq_true (by omega)]
   rfl
 ·by_cases h2 : 9223372036854775808 ≤ a + b
  ·refine ⟨0, false, ?_, ?_, (fun h => by cases h), fun h => by unfold I64 at h; omega⟩
   ·rw [IntKind.wrap_i64, decide_eq_false (show ¬ a < (a + b + 9223372036854775808) % 18446744073709551616 - 9223372036854775808 by omega), decide_eq_true (show 0 < b by omega), if_pos (by rfl), decide_eq_false (show ¬ b = 0 by omega)]
    rfl
   ·rw [if_pos (show 0 < b by omega), i64w (n := 9223372036854775807 - b) (by omega) (by omega), if_pos (by omega)]
    rfl
  ·refine ⟨a + b, true, ?_, ?_, fun _ => ⟨⟨by omega, by omega⟩, rfl⟩, fun _ => rfl⟩
   ·rw [i64w (n := a + b) (by omega) (by omega)]
    have : decide (a < a + b) = decide (0 < b) := by
     congr 1
     exact propext ⟨fun h => by omega, fun h => by omega⟩
    rw [this]
    simp
   ·rw [i64w (n := a + b) (by omega) (by omega)]
    by_cases h3 : 0 < b
    ·rw [if_pos h3, i64w (n := 9223372036854775807 - b) (by omega) (by omega), if_neg (by omega), if_neg (by omega)]
     rfl
    ·rw [if_neg h3]
     by_cases h4 : b < 0
     ·rw [if_pos h4, i64w (n := -9223372036854775808 - b) (by omega) (by omega), decide_eq_false (by omega)]
      rfl
     ·rw [if_neg h4]
      rfl

theorem drop_upd {arr : Str} {i : Nat} {c : UInt8} (h : i < arr.length) : (upd arr (i : Int) c).drop i = c :: arr.drop (i + 1) := by
 unfold upd
 rw [Int.toNat_natCast, List.drop_eq_getElem_cons (by rw [List.length_set]; exact h), List.getElem_set_self, List.drop_set_of_lt (by omega)]

theorem u8_eq (d : Nat) (h : d < 256) : u8 (d : Int) = UInt8.ofNat d := rfl

/-- The digits of a number, from the end of twenty places. -/
theorem text_loop (N : Nat) (hN : N ≤ 9223372036854775808) : ∃ q, num.Text.loop0 ⟨20, (N : Int), List.replicate 20 (0 : UInt8)⟩ = some q ∧ ∃ i : Nat, q.1 = (i : Int) ∧ 1 ≤ i ∧ i ≤ 20 ∧ q.2.length = 20 ∧ q.2.drop i = dtext N := by
 have h19 : (dtext N).length ≤ 19 := dtext_len2 18 N (by omega)
 unfold num.Text.loop0
 refine whileO_meas (fun t => ∃ (i u : Nat), t.at_ = (i : Int) ∧ t.u = (u : Int) ∧ u ≤ N ∧ i ≤ 20 ∧ t.v.length = 20 ∧ dtext u ++ t.v.drop i = dtext N) (fun t => t.at_.toNat) _ (fun t => ?_) _ ⟨20, N, rfl, rfl, Nat.le_refl _, by omega, by simp, by simp⟩
 obtain ⟨ta, tu, tv⟩ := t
 rintro ⟨i, u, e1, e2, hu, hi, hl, ht⟩
 replace e1 : ta = (i : Int) := e1
 replace e2 : tu = (u : Int) := e2
 replace hl : tv.length = 20 := hl
 replace ht : dtext u ++ tv.drop i = dtext N := ht
 subst e1 e2
 have hlen := congrArg List.length ht
 rw [List.length_append, List.length_drop, hl] at hlen
 have hu1 := (dtext_len u).1
 have h10 := Nat.mod_lt u (y := 10) (by omega)
 have hd : IntKind.wrap .u8 (IntKind.wrap .u64 (48 + (u : Int).tmod 10)) = ((48 + u % 10 : Nat) : Int) := by
  have : (u : Int).tmod 10 = ((u % 10 : Nat) : Int) := rfl
  rw [this, u64w (by omega) (by omega), u8w (by omega) (by omega)]
  omega
 have hq : IntKind.wrap .u64 ((u : Int).tdiv 10) = ((u / 10 : Nat) : Int) := by
  have : (u : Int).tdiv 10 = ((u / 10 : Nat) : Int) := rfl
  rw [this, u64w (by omega) (by omega)]
 have ha : IntKind.wrap .i64 ((i : Int) - 1) = ((i - 1 : Nat) : Int) := by rw [i64w (by omega) (by omega)]; omega
 have hup : (upd tv ((i - 1 : Nat) : Int) (UInt8.ofNat (48 + u % 10))).drop (i - 1) = UInt8.ofNat (48 + u % 10) :: tv.drop i := by
  rw [drop_upd (by omega), show i - 1 + 1 = i by omega]
 have hul : (upd tv ((i - 1 : Nat) : Int) (UInt8.ofNat (48 + u % 10))).length = 20 := by
  unfold upd
  rw [List.length_set, hl]
 unfold num.Text.body0
 simp only [ha, hd, hq]
 rw [need_eq ⟨by omega, by omega⟩, need_eq hl, need_eq ⟨by omega, by omega⟩, need_eq ⟨by omega, by omega⟩, u8_eq _ (by omega)]
 by_cases h9 : u < 10
 ·rw [if_pos (by omega)]
  refine .inr ⟨_, rfl, i - 1, rfl, by omega, by omega, hul, ?_⟩
  show (upd tv ((i - 1 : Nat) : Int) (UInt8.ofNat (48 + u % 10))).drop (i - 1) = dtext N
  rw [hup, ← ht, dtext_small h9, show u % 10 = u by omega]
  rfl
 ·rw [if_neg (by omega)]
  refine .inl ⟨_, rfl, ⟨i - 1, u / 10, rfl, rfl, by omega, by omega, hul, ?_⟩, ?_⟩
  ·show dtext (u / 10) ++ (upd tv ((i - 1 : Nat) : Int) (UInt8.ofNat (48 + u % 10))).drop (i - 1) = dtext N
   rw [hup, ← ht, dtext_big h9, List.append_assoc]
   rfl
  ·show ((i - 1 : Nat) : Int).toNat < (i : Int).toNat
   omega

theorem pTextI (v : Int) (h : I64 v) : num.Text v = some (itext v) := by
 obtain ⟨h1, h2⟩ := h
 unfold num.Text letO
 have hu : (if v < 0 then IntKind.wrap .u64 (0 - IntKind.wrap .u64 v) else IntKind.wrap .u64 v) = (v.natAbs : Int) := by
  by_cases hn : v < 0
  ·rw [if_pos hn]
   simp only [IntKind.wrap, IntKind.bits, IntKind.signed]
   simp
   omega
  ·rw [if_neg hn, u64w (by omega) (by omega)]
   omega
 obtain ⟨q, hq, i, e, hi, hi2, hl, ht⟩ := text_loop v.natAbs (by omega)
 obtain ⟨qa, qv⟩ := q
 replace e : qa = (i : Int) := e
 replace hl : qv.length = 20 := hl
 replace ht : qv.drop i = dtext v.natAbs := ht
 subst e
 show (num.Text.loop0 ⟨20, (if v < 0 then IntKind.wrap .u64 (0 - IntKind.wrap .u64 v) else IntKind.wrap .u64 v), List.replicate 20 (0 : UInt8)⟩).bind _ = _
 rw [hu, hq, Option.bind_some]
 unfold itext
 by_cases hn : v < 0
 ·rw [if_pos hn, if_pos hn]
  have ha : IntKind.wrap .i64 ((i : Int) - 1) = ((i - 1 : Nat) : Int) := by rw [i64w (by omega) (by omega)]; omega
  show ((need (InB (IntKind.wrap .i64 ((i : Int) - 1)) 20) (need (qv.length = 20) (need (InB (IntKind.wrap .i64 ((i : Int) - 1)) qv.length) (need (IsU8 45) (some (IntKind.wrap .i64 ((i : Int) - 1), upd qv (IntKind.wrap .i64 ((i : Int) - 1)) (u8 45))))))).bind _) = _
  rw [ha, need_eq ⟨by omega, by omega⟩, need_eq hl, need_eq ⟨by omega, by omega⟩, need_eq ⟨by omega, by omega⟩, Option.bind_some]
  have hul : (upd qv ((i - 1 : Nat) : Int) (u8 45)).length = 20 := by
   unfold upd
   rw [List.length_set, hl]
  show need (InR ((i - 1 : Nat) : Int) ((upd qv ((i - 1 : Nat) : Int) (u8 45)).length : Int) (upd qv ((i - 1 : Nat) : Int) (u8 45)).length) (need ((upd qv ((i - 1 : Nat) : Int) (u8 45)).length = 20) (some (sub (upd qv ((i - 1 : Nat) : Int) (u8 45)) ((i - 1 : Nat) : Int) ((upd qv ((i - 1 : Nat) : Int) (u8 45)).length : Int)))) = _
  rw [need_eq ⟨by omega, by omega, by omega⟩, need_eq hul, sub_all, Int.toNat_natCast, drop_upd (by omega), show i - 1 + 1 = i by omega, ht]
  rfl
 ·rw [if_neg hn, if_neg hn, Option.bind_some]
  show need (InR (i : Int) (qv.length : Int) qv.length) (need (qv.length = 20) (some (sub qv (i : Int) (qv.length : Int)))) = _
  rw [need_eq ⟨by omega, by omega, by omega⟩, need_eq hl, sub_all, Int.toNat_natCast, ht]

theorem itext_len {v : Int} (h : I64 v) : (itext v).length ≤ 20 := by
 obtain ⟨h1, h2⟩ := h
 have := dtext_len2 18 v.natAbs (by omega)
 unfold itext
 split
 ·rw [List.length_cons]; omega
 ·omega

theorem itext_inj {v w : Int} (h : itext v = itext w) : v = w := by
 have h1 := body_itext (v := v)
 have h2 := body_itext (v := w)
 rw [h] at h1
 have e1 : decide (v < 0) = decide (w < 0) := h1.1.symm.trans h2.1
 have e2 : dtext v.natAbs = dtext w.natAbs := h1.2.symm.trans h2.2
 have e3 : v.natAbs = w.natAbs := by rw [← (dtext_dig v.natAbs).2, e2, (dtext_dig w.natAbs).2]
 have e4 : (v < 0) ↔ (w < 0) := by simpa using e1
 omega

theorem rParse_itext {v : Int} (h : I64 v) : mewsref01.Parse (itext v) = some (v, true) := by
 obtain ⟨b, hb, hiff, hcan⟩ := rParseI (itext v) (by have := itext_len h; omega)
 have hbt : b = true := hiff.2 ⟨v, h, rfl⟩
 rw [hb, hbt, if_pos rfl, itext_inj (hcan hbt).2.symm]

/-- Add on a text: both the same; if it is told, by its numbers. -/
theorem sAdd {s : Str} {by_ : Int} (hs : s.length < 1000000000000000) (hb : I64 by_) :
  ∃ x e, str.Add s by_ = some (x, e) ∧ mewsref20.Add s by_ = some (x, e) ∧ (e = 0 ∨ (e ≠ 0 ∧ x = [])) ∧ (e = 0 → ∃ v, canon s v ∧ I64 (v + by_) ∧ x = itext (v + by_)) := by
 obtain ⟨b, hp, hiff, hcan⟩ := rParseI s hs
 unfold str.Add mewsref20.Add
 rw [pParse_eq s hs, hp, Option.bind_some, Option.bind_some]
 cases b with
 | false => exact ⟨[], 2, rfl, rfl, .inr ⟨by decide, rfl⟩, fun h => by cases h⟩
 | true =>
  have hc := hcan rfl
  obtain ⟨v, ok, h1, h2, h3, h4⟩ := addBoth hc.1 hb
  rw [if_pos rfl, if_neg (fun h => by cases h), if_neg (fun h => by cases h)]
  show ∃ x e, ((num.Add (sval s) by_).bind _) = some (x, e) ∧ ((mewsref01.Add (sval s) by_).bind _) = some (x, e) ∧ _
  rw [h1, h2, Option.bind_some, Option.bind_some]
  cases ok with
  | false => exact ⟨[], 13, rfl, rfl, .inr ⟨by decide, rfl⟩, fun h => by cases h⟩
  | true =>
   obtain ⟨hI, rfl⟩ := h3 rfl
   rw [if_neg (fun h => by cases h), if_neg (fun h => by cases h)]
   show ∃ x e, ((num.Text (sval s + by_)).bind _) = some (x, e) ∧ ((mewsref01.Text (sval s + by_)).bind _) = some (x, e) ∧ _
   rw [pTextI _ hI, rTextI _ hI, Option.bind_some]
   exact ⟨_, 0, rfl, rfl, .inl rfl, fun _ => ⟨sval s, hc, hI, rfl⟩⟩

end Go.Pu
