import Derived.Test.YtakmcdnailmhlaaPTPuNum
set_option maxRecDepth 100000
namespace Go.Pu
open Go.Lift

inductive HR where
 | more
 | dead (e : Int)
 | ok (n size : Nat)
 deriving DecidableEq

def crEnd (n i : Nat) : List UInt8 → HR
 | [] => .more
 | d :: _ => if d = 10 then .ok n (i + 2) else .dead 5

def hdrGo (most : Nat) (over : Int) : List UInt8 → Nat → Nat → HR
 | [], _, _ => .more
 | c :: t, i, n =>
  if c = 13 ∧ 1 < i then crEnd n i t
  else if ¬ isDig c ∨ (1 < i ∧ n = 0) then .dead 5
  else if most < 10 * n + (c.toNat - 48) then .dead over
  else hdrGo most over t (i + 1) (10 * n + (c.toNat - 48))

def hdrM (s : List UInt8) (mark : UInt8) (most : Nat) (over : Int) : HR :=
 match s with
 | [] => .more
 | c :: t => if c = mark then hdrGo most over t 1 0 else .dead 5

theorem hdrGo_ok {most : Nat} {over : Int} : ∀ {t : List UInt8} {i n m k : Nat}, hdrGo most over t i n = .ok m k → 1 ≤ i → n ≤ most → i + 2 ≤ k ∧ k ≤ i + t.length ∧ m ≤ most
 | [], i, n, m, k, h, _, _ => by simp [hdrGo] at h
 | c :: t, i, n, m, k, h, h1, h2 => by
  rw [hdrGo] at h
  by_cases hc : c = 13 ∧ 1 < i
  ·rw [if_pos hc] at h
   cases t with
   | nil => simp [crEnd] at h
   | cons d t =>
    simp only [crEnd] at h
    by_cases hd : d = 10
    ·rw [if_pos hd] at h; injection h with e1 e2; subst e1 e2; simp; omega
    ·rw [if_neg hd] at h; simp at h
  ·rw [if_neg hc] at h
   by_cases hx : ¬ isDig c ∨ (1 < i ∧ n = 0)
   ·rw [if_pos hx] at h; simp at h
   ·rw [if_neg hx] at h
    by_cases hm : most < 10 * n + (c.toNat - 48)
    ·rw [if_pos hm] at h; simp at h
    ·rw [if_neg hm] at h
     have := hdrGo_ok h (by omega) (by omega)
     simp; omega

theorem hdrM_ok {s : List UInt8} {mark : UInt8} {most : Nat} {over : Int} {m k : Nat} (h : hdrM s mark most over = .ok m k) : 3 ≤ k ∧ k ≤ s.length ∧ m ≤ most := by
 cases s with
 | nil => simp [hdrM] at h
 | cons c t =>
  rw [hdrM] at h
  by_cases hc : c = mark
  ·rw [if_pos hc] at h
   have := hdrGo_ok h (by omega) (by omega)
   simp; omega
  ·rw [if_neg hc] at h; simp at h

theorem bix_app (pre t : List UInt8) (c : UInt8) : bix (pre ++ c :: t) (pre.length : Int) = (c.toNat : Int) := by
 rw [bix_get' (by simp)]; simp
theorem bix_app1 (pre t : List UInt8) (c d : UInt8) : bix (pre ++ c :: d :: t) ((pre.length : Int) + 1) = (d.toNat : Int) := by
 rw [show (pre.length : Int) + 1 = ((pre.length + 1 : Nat) : Int) by omega, bix_get' (by simp)]; simp

theorem toNat_eq_iff (c d : UInt8) : (c.toNat : Int) = (d.toNat : Int) ↔ c = d :=
 ⟨fun h => UInt8.toNat_inj.1 (by omega), fun h => by rw [h]⟩

def deadP (p : parse.parser) (e : Int) : parse.parser := { p with in_ := ({ Rest := [], Args := [], Left := 0, Size := 0, Body := false, Need := 0, Dead := e } : api.Input), s := [] }
def pastP (p : parse.parser) (k : Nat) : parse.parser := { p with in_ := { p.in_ with Size := p.in_.Size + k }, s := p.s.drop k }

theorem dies_eq (e : Int) (p : parse.parser) : parse.parser.dies e p = some (false, deadP p e) := rfl
theorem past_eq (k : Nat) (p : parse.parser) (hk : k ≤ p.s.length) (h0 : 0 ≤ p.in_.Size) (hs : p.in_.Size + p.s.length ≤ 9223372036854775807) : parse.parser.past (k : Int) p = some (pastP p k) := by
 unfold parse.parser.past pastP
 rw [need_eq ⟨by omega, by omega, by omega⟩, i64w (by omega) (by omega), sub_all, Int.toNat_natCast]

def hdrP (r : HR) (p : parse.parser) : Int × Bool × parse.parser :=
 match r with
 | .more => (0, false, p)
 | .dead e => (0, false, deadP p e)
 | .ok n k => ((n : Int), true, pastP p k)

theorem header_go (p : parse.parser) (most : Nat) (over : Int) (hm : most ≤ 2000000) (hl : p.s.length ≤ 1000000000) (h0 : 0 ≤ p.in_.Size) (hs : p.in_.Size ≤ 1000000000) :
  ∀ (t pre : List UInt8) (n : Nat), p.s = pre ++ t → 1 ≤ pre.length → n ≤ most →
   ∃ r, whileO (parse.parser.header.body0 p (most : Int) over) ⟨(n : Int), (pre.length : Int)⟩ = some r ∧ (onSum r (fun _ => some (0, false, p)) fun x => some x) = some (hdrP (hdrGo most over t pre.length n) p)
 | [], pre, n, e, h1, hn => by
  rw [List.append_nil] at e
  refine ⟨.inl (), whileO_end ?_, rfl⟩
  unfold parse.parser.header.body0
  rw [if_neg (by simp only [e]; omega)]
 | c :: t, pre, n, e, h1, hn => by
  have hlen : p.s.length = pre.length + (t.length + 1) := by rw [e]; simp
  have hb : bix p.s (pre.length : Int) = (c.toNat : Int) := by rw [e, bix_app]
  have hc255 := c.toNat_lt
  rw [hdrGo]
  by_cases hc : c = 13 ∧ 1 < pre.length
  ·rw [if_pos hc]
   have hg : (if bix p.s (pre.length : Int) = 13 then decide (1 < (pre.length : Int)) else false) = true := by
    rw [hb, if_pos (by rw [hc.1]; rfl)]; simp; omega
   cases t with
   | nil =>
    refine ⟨.inr (0, false, p), whileO_end ?_, rfl⟩
    unfold parse.parser.header.body0
    simp only [letO]
    rw [if_pos (by omega), need_eq ⟨by omega, by omega⟩, hg, if_pos rfl, i64w (by omega) (by omega), if_pos (by simp at hlen; omega)]
   | cons d t =>
    have hb1 : bix p.s ((pre.length : Int) + 1) = (d.toNat : Int) := by rw [e, bix_app1]
    simp only [List.length_cons] at hlen
    simp only [crEnd]
    by_cases hd : d = 10
    ·rw [if_pos hd]
     refine ⟨.inr (n, true, pastP p (pre.length + 2)), whileO_end ?_, rfl⟩
     unfold parse.parser.header.body0
     simp only [letO]
     rw [if_pos (by omega), need_eq ⟨by omega, by omega⟩, hg, if_pos rfl, i64w (n := (pre.length : Int) + 1) (by omega) (by omega), if_neg (by omega), need_eq ⟨by omega, by omega⟩, hb1, if_pos (by rw [hd]; rfl), i64w (by omega) (by omega),
      show (pre.length : Int) + 2 = ((pre.length + 2 : Nat) : Int) by omega, past_eq _ _ (by omega) h0 (by omega)]
     rfl
    ·rw [if_neg hd]
     refine ⟨.inr (0, false, deadP p 5), whileO_end ?_, rfl⟩
     unfold parse.parser.header.body0
     simp only [letO]
     rw [if_pos (by omega), need_eq ⟨by omega, by omega⟩, hg, if_pos rfl, i64w (n := (pre.length : Int) + 1) (by omega) (by omega), if_neg (by omega), need_eq ⟨by omega, by omega⟩, hb1, if_neg (show ¬ (d.toNat : Int) = 10 from fun h => hd ((toNat_eq_iff d 10).1 h)), dies_eq]
     rfl
  ·rw [if_neg hc]
   have hg : (if bix p.s (pre.length : Int) = 13 then decide (1 < (pre.length : Int)) else false) = false := by
    rw [hb]
    by_cases h : (c.toNat : Int) = 13
    ·rw [if_pos h]
     have : c = 13 := (toNat_eq_iff c 13).1 h
     have h3 : ¬ 1 < pre.length := fun h2 => hc ⟨this, h2⟩
     rw [decide_eq_false_iff_not]; omega
    ·rw [if_neg h]
   have hx : (if bix p.s (pre.length : Int) < 48 then true else if 57 < bix p.s (pre.length : Int) then true else if 1 < (pre.length : Int) then decide ((n : Int) = 0) else false) = decide (¬ isDig c ∨ (1 < pre.length ∧ n = 0)) := by
    rw [hb]
    unfold isDig
    by_cases g1 : (c.toNat : Int) < 48
    ·rw [if_pos g1]; symm; rw [decide_eq_true_eq]; left; omega
    ·rw [if_neg g1]
     by_cases g2 : 57 < (c.toNat : Int)
     ·rw [if_pos g2]; symm; rw [decide_eq_true_eq]; left; omega
     ·rw [if_neg g2]
      by_cases g3 : 1 < (pre.length : Int)
      ·rw [if_pos g3]; apply decide_eq_decide.2; omega
      ·rw [if_neg g3]; symm; rw [decide_eq_false_iff_not]; omega
   by_cases hbad : ¬ isDig c ∨ (1 < pre.length ∧ n = 0)
   ·rw [if_pos hbad]
    refine ⟨.inr (0, false, deadP p 5), whileO_end ?_, rfl⟩
    unfold parse.parser.header.body0
    simp only [letO]
    rw [if_pos (by omega), need_eq ⟨by omega, by omega⟩, hg]
    simp only [Bool.false_eq_true, if_false]
    rw [hx, decide_eq_true hbad, if_pos rfl, dies_eq]
    rfl
   ·rw [if_neg hbad]
    have hdig : isDig c := by
     by_cases h : isDig c
     ·exact h
     ·exact absurd (.inl h) hbad
    obtain ⟨d1, d2⟩ := hdig
    have hv : IntKind.wrap .i64 ((IntKind.wrap .i64 (10 * (n : Int))) + (IntKind.wrap .i64 (IntKind.wrap .u8 ((bix p.s (pre.length : Int)) - 48)))) = ((10 * n + (c.toNat - 48) : Nat) : Int) := by
     rw [hb, u8w (by omega) (by omega), i64w (n := 10 * (n : Int)) (by omega) (by omega), i64w (n := (c.toNat : Int) - 48) (by omega) (by omega), i64w (by omega) (by omega)]; omega
    by_cases hov : most < 10 * n + (c.toNat - 48)
    ·rw [if_pos hov]
     refine ⟨.inr (0, false, deadP p over), whileO_end ?_, rfl⟩
     unfold parse.parser.header.body0
     simp only [letO]
     rw [if_pos (by omega), need_eq ⟨by omega, by omega⟩, hg]
     simp only [Bool.false_eq_true, if_false]
     rw [hx, decide_eq_false hbad]
     simp only [Bool.false_eq_true, if_false]
     rw [hv, if_pos (by omega), dies_eq]
     rfl
    ·rw [if_neg hov]
     obtain ⟨r, g1, g2⟩ := header_go p most over hm hl h0 hs t (pre ++ [c]) (10 * n + (c.toNat - 48)) (by rw [e]; simp) (by simp) (by omega)
     have hpl : (pre ++ [c]).length = pre.length + 1 := by simp
     rw [hpl] at g1 g2
     refine ⟨r, whileO_next ?_ g1, g2⟩
     unfold parse.parser.header.body0
     simp only [letO]
     rw [if_pos (by omega), need_eq ⟨by omega, by omega⟩, hg]
     simp only [Bool.false_eq_true, if_false]
     rw [hx, decide_eq_false hbad]
     simp only [Bool.false_eq_true, if_false]
     rw [hv, if_neg (by omega), i64w (n := (pre.length : Int) + 1) (by omega) (by omega)]
     rfl

theorem header_eq (p : parse.parser) (mark : UInt8) (most : Nat) (over : Int) (hm : most ≤ 2000000) (hl : p.s.length ≤ 1000000000) (h0 : 0 ≤ p.in_.Size) (hs : p.in_.Size ≤ 1000000000) :
  parse.parser.header (mark.toNat : Int) (most : Int) over p = some (hdrP (hdrM p.s mark most over) p) := by
 unfold parse.parser.header
 cases e : p.s with
 | nil => rfl
 | cons c t =>
  have hb : bix (c :: t) 0 = (c.toNat : Int) := by
   have := bix_app [] t c
   simpa using this
  rw [if_neg (by simp), need_eq ⟨by omega, by simp⟩, hb]
  rw [hdrM]
  by_cases hc : c = mark
  ·rw [if_pos (by rw [hc]), if_pos hc]
   obtain ⟨r, g1, g2⟩ := header_go p most over hm hl h0 hs t [c] 0 (by rw [e]; rfl) (by simp) (by omega)
   unfold parse.parser.header.loop0
   have : (⟨0, 1⟩ : parse.parser.header.S0) = ⟨((0 : Nat) : Int), (([c] : List UInt8).length : Int)⟩ := rfl
   rw [this, g1]
   exact g2
  ·rw [if_neg (fun h => hc ((toNat_eq_iff c mark).1 h)), if_neg hc, dies_eq]
   rfl

end Go.Pu
