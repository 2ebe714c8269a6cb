/- Sizes along a stream; what is cut off. -/
import Derived.Test.YtfapgollkabopaaPBPuPutL
import Derived.Test.YtfapgollkabopaaPBPuPiece1
set_option maxRecDepth 100000
namespace Go.Pu
open Go.Lift

/-! ### Sizes along a stream -/
def massP (p : parse.parser) : Int := sizeN p.out + p.in_.Size + p.s.length

theorem stepP_mass {p : parse.parser} (h : PInv p) : massP (stepP p).2 ≤ massP p := by
 obtain ⟨hl, ⟨z1, z2⟩, ho, ha, ⟨n1, n2⟩, ⟨l1, l2⟩, hb⟩ := h
 have hdead : ∀ e, massP (deadP p e) ≤ massP p := fun e => by
  show sizeN p.out + 0 + (([] : List UInt8).length : Int) ≤ sizeN p.out + p.in_.Size + p.s.length
  simp; omega
 unfold stepP
 by_cases h1 : p.in_.Body = true
 ·rw [if_pos h1]
  cases hc : crlfM (p.s.drop (needN p)) with
  | more => exact Int.le_refl _
  | dead => exact hdead 5
  | ok =>
   have hk := crlf_len hc
   simp only
   unfold bodyP massP
   by_cases hz : p.in_.Left - 1 = 0
   ·rw [if_pos hz]
    simp only [sizeN_append, sizeN]
    show _ + _ + (0 : Int) + _ ≤ _
    simp; omega
   ·rw [if_neg hz]
    simp; omega
 ·rw [if_neg h1]
  by_cases h2 : 0 < p.in_.Left
  ·rw [if_pos h2]
   cases hc : hdrM p.s 36 p.l.Bulk.toNat 6 with
   | more => exact Int.le_refl _
   | dead e => exact hdead e
   | ok n k =>
    obtain ⟨k1, k2, k3⟩ := hdrM_ok hc
    show sizeN p.out + (p.in_.Size + (k : Int)) + ((p.s.drop k).length : Int) ≤ sizeN p.out + p.in_.Size + p.s.length
    simp; omega
  ·rw [if_neg h2]
   cases hp : p.s with
   | nil => exact Int.le_refl _
   | cons c t =>
    simp only
    rw [← hp]
    by_cases h3 : c = 42
    ·rw [if_pos h3]
     cases hc : hdrM p.s 42 p.l.Args.toNat 7 with
     | more => exact Int.le_refl _
     | dead e => exact hdead e
     | ok n k =>
      obtain ⟨k1, k2, k3⟩ := hdrM_ok hc
      simp only
      unfold manyHP
      by_cases hn : n = 0
      ·rw [if_pos hn]
       show sizeN p.out + 0 + ((p.s.drop k).length : Int) ≤ sizeN p.out + p.in_.Size + p.s.length
       simp; omega
      ·rw [if_neg hn]
       show sizeN p.out + (p.in_.Size + (k : Int)) + ((p.s.drop k).length : Int) ≤ sizeN p.out + p.in_.Size + p.s.length
       simp; omega
    ·rw [if_neg h3]
     cases hc : lineM p.s p.l with
     | more => exact Int.le_refl _
     | dead e => exact hdead e
     | ok args n =>
      obtain ⟨k1, k2, k3⟩ := lineM_ok hc
      show sizeN (if args ≠ [] then p.out ++ [({ Args := args, Size := p.in_.Size + ((n + 1 : Nat) : Int) } : api.Request)] else p.out) + 0 + ((p.s.drop (n + 1)).length : Int) ≤ sizeN p.out + p.in_.Size + p.s.length
      split
      ·rw [sizeN_append]; simp only [sizeN]; simp; omega
      ·simp; omega

theorem runP_mass {p : parse.parser} (h : PInv p) : massP (runP p) ≤ massP p := by
 refine runP_ind (motive := fun p => massP (runP p) ≤ massP p) (fun p hp hs => ?_) (fun p hp hs ih => ?_) p h
 ·rw [runP_stop hs]; exact stepP_mass hp
 ·rw [runP_next hp hs]; exact Int.le_trans ih (stepP_mass hp)

/-- No sizes below nothing. -/
theorem stepP_pos {p : parse.parser} (h : PInv p) (ho : ∀ r ∈ p.out, 0 ≤ r.Size) : ∀ r ∈ (stepP p).2.out, 0 ≤ r.Size := by
 obtain ⟨hl, ⟨z1, z2⟩, _, ha, ⟨n1, n2⟩, ⟨l1, l2⟩, hb⟩ := h
 unfold stepP
 by_cases h1 : p.in_.Body = true
 ·rw [if_pos h1]
  cases hc : crlfM (p.s.drop (needN p)) with
  | more => exact ho
  | dead => exact ho
  | ok =>
   simp only
   unfold bodyP
   by_cases hz : p.in_.Left - 1 = 0
   ·rw [if_pos hz]
    intro r hr
    rcases List.mem_append.1 hr with hr | hr
    ·exact ho r hr
    ·rw [List.mem_singleton] at hr; subst hr
     show 0 ≤ p.in_.Size + _
     omega
   ·rw [if_neg hz]; exact ho
 ·rw [if_neg h1]
  by_cases h2 : 0 < p.in_.Left
  ·rw [if_pos h2]
   cases hc : hdrM p.s 36 p.l.Bulk.toNat 6 <;> exact ho
  ·rw [if_neg h2]
   cases hp : p.s with
   | nil => exact ho
   | cons c t =>
    simp only
    rw [← hp]
    by_cases h3 : c = 42
    ·rw [if_pos h3]
     cases hc : hdrM p.s 42 p.l.Args.toNat 7 with
     | more => exact ho
     | dead e => exact ho
     | ok n k =>
      simp only
      unfold manyHP
      split <;> exact ho
    ·rw [if_neg h3]
     cases hc : lineM p.s p.l with
     | more => exact ho
     | dead e => exact ho
     | ok args n =>
      show ∀ r ∈ (if args ≠ [] then p.out ++ [({ Args := args, Size := p.in_.Size + ((n + 1 : Nat) : Int) } : api.Request)] else p.out), 0 ≤ r.Size
      split
      ·intro r hr
       rcases List.mem_append.1 hr with hr | hr
       ·exact ho r hr
       ·rw [List.mem_singleton] at hr; subst hr
        show 0 ≤ p.in_.Size + _
        omega
      ·exact ho

theorem runP_pos {p : parse.parser} (h : PInv p) (ho : ∀ r ∈ p.out, 0 ≤ r.Size) : ∀ r ∈ (runP p).out, 0 ≤ r.Size := by
 refine runP_ind (motive := fun p => (∀ r ∈ p.out, 0 ≤ r.Size) → ∀ r ∈ (runP p).out, 0 ≤ r.Size) (fun p hp hs ho => ?_) (fun p hp hs ih ho => ?_) p h ho
 ·rw [runP_stop hs]; exact stepP_pos hp ho
 ·rw [runP_next hp hs]; exact ih (stepP_pos hp ho)

/-- What was put, cut off: no request, no fault. -/
theorem cut_put (args : List (List UInt8)) (l : api.Limits) (k : Nat) (hk : k < (putM args).length) (hlen : (putM args).length ≤ 1000000)
  (hgood : (args.length : Int) ≤ (limM l).Args ∧ ∀ x ∈ args, (x.length : Int) ≤ (limM l).Bulk) :
  (runP (startP emptyIn ((putM args).take k) l)).out = [] ∧ (runP (startP emptyIn ((putM args).take k) l)).in_.Dead = 0 := by
 have hinv0 := start_inv (putM args) l (by omega)
 have hst : startP emptyIn (putM args) l = freshP (putM args ++ []) (limM l) [] := by rw [List.append_nil]; rfl
 rw [hst] at hinv0
 have htot : runP (startP emptyIn (putM args) l) = freshP [] (limM l) (if args = [] then [] else [({ Args := args, Size := ((putM args).length : Int) } : api.Request)]) := by
  rw [hst]
  rcases run_put (limM l) (limM_good l) [] [] args hinv0 with ⟨h1, h2, h3⟩ | ⟨e, h1, h2, h3⟩
  ·rw [h2, runP_stop (by rfl)]
   by_cases ha : args = [] <;> simp [ha] <;> rfl
  ·rcases h3 with h3 | ⟨x, hx, h3⟩
   ·have := hgood.1; omega
   ·have := hgood.2 x hx; omega
 have hsplit : (putM args).take k ++ (putM args).drop k = putM args := List.take_append_drop k _
 have hm := feed_more (all := (putM args).take k) (b := (putM args).drop k) (l := l) (by rw [← List.length_append, hsplit]; omega)
 rw [hsplit, htot] at hm
 have hinv := start_inv ((putM args).take k) l (by simp; omega)
 rcases hm with ⟨h1, h2, h3⟩ | ⟨e, h1, h2, h3⟩
 ·refine ⟨?_, h1⟩
  have hout := congrArg parse.parser.out h3
  have hmass := runP_mass hinv
  have hpos := runP_pos hinv (by intro r hr; cases hr)
  have hi := (runP_inv hinv).1
  obtain ⟨z1, z2⟩ := hi.size
  generalize runP (startP emptyIn ((putM args).take k) l) = q at *
  simp only [addO, freshP] at hout
  by_cases ha : args = []
  ·rw [if_pos ha] at hout
   exact (List.append_eq_nil_iff.1 hout.symm).1
  ·rw [if_neg ha] at hout
   cases hq : q.out with
   | nil => rfl
   | cons r rs =>
    rw [hq] at hout
    simp only [List.cons_append, List.cons.injEq] at hout
    have hr := hout.1
    have hrs := (List.append_eq_nil_iff.1 hout.2.symm).1
    unfold massP at hmass
    rw [hq, hrs, ← hr] at hmass
    simp only [sizeN] at hmass
    have e1 : (startP emptyIn ((putM args).take k) l).in_.Size = 0 := rfl
    have e2 : (startP emptyIn ((putM args).take k) l).out = [] := rfl
    have e3 : (startP emptyIn ((putM args).take k) l).s = (putM args).take k := rfl
    rw [e1, e2, e3] at hmass
    simp only [sizeN, List.length_take] at hmass
    omega
 ·exfalso
  have := congrArg api.Input.Dead h2
  rw [← h3] at this
  simp only [inOf, freshP, emptyIn] at this
  omega

end Go.Pu
