/- What a stream gives: how many arguments; how much there is. -/
import Derived.Test.YtdgbjndkccjijaaUBPuParse3
set_option maxRecDepth 100000
namespace Go.Pu
open Go.Lift

def OutB (out : List api.Request) : Prop := ∀ r ∈ out, r.Args.length ≤ 100000000

theorem stepP_out {p : parse.parser} (h : PInv p) (ho : OutB p.out) : OutB (stepP p).2.out := by
 have hstop : (stepP p).1 = false → OutB (stepP p).2.out := fun hs => by
  rcases stepP_stop hs with h | ⟨e, h⟩ <;> rw [h] <;> exact ho
 cases hs : (stepP p).1 with
 | false => exact hstop hs
 | true =>
  unfold stepP at hs ⊢
  by_cases h1 : p.in_.Body = true
  ·rw [if_pos h1] at hs ⊢
   cases hc : crlfM (p.s.drop (needN p)) with
   | more => rw [hc] at hs; cases hs
   | dead => rw [hc] at hs; cases hs
   | ok =>
    have hk := crlf_len hc
    have ha := h.args
    simp only
    unfold bodyP
    by_cases hz : p.in_.Left - 1 = 0
    ·rw [if_pos hz]
     intro r hr
     rcases List.mem_append.1 hr with hr | hr
     ·exact ho r hr
     ·rw [List.mem_singleton] at hr; subst hr; simp; omega
    ·rw [if_neg hz]; exact ho
  ·rw [if_neg h1] at hs ⊢
   by_cases h2 : 0 < p.in_.Left
   ·rw [if_pos h2] at hs ⊢
    cases hc : hdrM p.s 36 p.l.Bulk.toNat 6 with
    | more => exact ho
    | dead e => exact ho
    | ok n k => exact ho
   ·rw [if_neg h2] at hs ⊢
    cases hp : p.s with
    | nil => exact ho
    | cons c t =>
     rw [hp] at hs
     simp only at hs ⊢
     rw [← hp] at hs ⊢
     by_cases h3 : c = 42
     ·rw [if_pos h3] at hs ⊢
      cases hc : hdrM p.s 42 p.l.Args.toNat 7 with
      | more => exact ho
      | dead e => exact ho
      | ok n k =>
       simp only
       unfold manyHP
       split <;> exact ho
     ·rw [if_neg h3] at hs ⊢
      cases hc : lineM p.s p.l with
      | more => exact ho
      | dead e => exact ho
      | ok args n =>
       have := (lineM_ok hc).2.2
       have hl := h.lim.a
       show OutB (if args ≠ [] then p.out ++ [({ Args := args, Size := (pastP p (n + 1)).in_.Size } : api.Request)] else p.out)
       by_cases hne : args ≠ []
       ·rw [if_pos hne]
        intro r hr
        rcases List.mem_append.1 hr with hr | hr
        ·exact ho r hr
        ·rw [List.mem_singleton] at hr; subst hr; simp only; omega
       ·rw [if_neg hne]; exact ho

theorem runP_out {p : parse.parser} (h : PInv p) (ho : OutB p.out) : OutB (runP p).out := by
 refine runP_ind (motive := fun p => OutB p.out → OutB (runP p).out) (fun p hp hs ho => ?_) (fun p hp hs ih ho => ?_) p h ho
 ·rw [runP_stop hs]; exact stepP_out hp ho
 ·rw [runP_next hp hs]; exact ih (stepP_out hp ho)

/-! ### How much there is -/
def lenS : List (List UInt8) → Nat
 | [] => 0
 | s :: l => s.length + lenS l
theorem lenS_append (a b : List (List UInt8)) : lenS (a ++ b) = lenS a + lenS b := by
 induction a with
 | nil => simp [lenS]
 | cons x a ih => simp [lenS, ih]; omega

end Go.Pu
