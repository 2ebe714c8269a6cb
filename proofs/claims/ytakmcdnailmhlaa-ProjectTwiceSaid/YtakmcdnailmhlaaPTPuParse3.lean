import Derived.Test.YtakmcdnailmhlaaPTPuParse2
set_option maxRecDepth 100000
namespace Go.Pu
open Go.Lift

theorem hdrGo_dead {most : Nat} {over e : Int} : ∀ {t : List UInt8} {i n : Nat}, hdrGo most over t i n = .dead e → e = 5 ∨ e = over
 | [], i, n, h => by simp [hdrGo] at h
 | c :: t, i, n, h => by
  rw [hdrGo] at h
  by_cases hc : c = 13 ∧ 1 < i
  ·rw [if_pos hc] at h
   cases t with
   | nil => simp [crEnd] at h
   | cons d t =>
    simp only [crEnd] at h
    by_cases hd : d = 10
    ·rw [if_pos hd] at h; cases h
    ·rw [if_neg hd] at h; injection h with h; exact .inl h.symm
  ·rw [if_neg hc] at h
   by_cases hx : ¬ isDig c ∨ (1 < i ∧ n = 0)
   ·rw [if_pos hx] at h; injection h with h; exact .inl h.symm
   ·rw [if_neg hx] at h
    by_cases hm : most < 10 * n + (c.toNat - 48)
    ·rw [if_pos hm] at h; injection h with h; exact .inr h.symm
    ·rw [if_neg hm] at h; exact hdrGo_dead h
theorem hdrM_dead {s : List UInt8} {mark : UInt8} {most : Nat} {over e : Int} (h : hdrM s mark most over = .dead e) : e = 5 ∨ e = over := by
 cases s with
 | nil => simp [hdrM] at h
 | cons c t =>
  rw [hdrM] at h
  by_cases hc : c = mark
  ·rw [if_pos hc] at h; exact hdrGo_dead h
  ·rw [if_neg hc] at h; injection h with h; exact .inl h.symm
theorem lineM_dead {s : List UInt8} {l : api.Limits} {e : Int} (h : lineM s l = .dead e) : e = 6 ∨ e = 7 ∨ e = 16 := by
 unfold lineM at h
 split at h
 ·split at h
  ·injection h with h; exact .inl h.symm
  ·split at h
   ·injection h with h; exact .inr (.inr h.symm)
   ·split at h
    ·injection h with h; exact .inr (.inl h.symm)
    ·split at h
     ·injection h with h; exact .inl h.symm
     ·cases h
 ·split at h
  ·injection h with h; exact .inl h.symm
  ·cases h

end Go.Pu
