/- Lift, part ZY: functions of the library that take texts: strings.Contains at one byte, strings.Fields. -/
import Derived.Test.YtngliepchpkiiaaDoorLiftZX
import Derived.Test.YtngliepchpkiiaaDoorLiftZU
import Derived.Lib.Fields
namespace Go.Lift
open Go.RowKit

/-- What takes two texts and tells yes or no. -/
theorem spec_str2b {P : Program} {f : FuncId} {s t : List UInt8} {b : Bool} (h : ∀ w, Calls P f #[.string ⟨s.toArray⟩, .string ⟨t.toArray⟩] w fun e w' => e = .returned (.bool b) ∧ w' = w) : Spec P f [.str s, .str t] [] (fun v H => v = .bool b ∧ H = []) := by
  intro E F g w vs hvs hrd hr
  obtain ⟨v, u, rfl⟩ := arr2 (by simpa using hvs)
  have h0 : Reads g w v (.str s) := hrd 0 (by simp)
  have h1 : Reads g w u (.str t) := hrd 1 (by simp)
  cases h0
  cases h1
  refine (h w).mono ?_
  rintro e w' ⟨he, rfl⟩
  exact ⟨_, .bool b, [], g, he, ⟨rfl, rfl⟩, .bool _, hr, GLe.refl _ _⟩

/-- What takes a text and tells texts in a new row, where the package-level variables hold what is laid. -/
theorem spec_strL {P : Program} {f : FuncId} {s : List UInt8} {ss : List (List UInt8)} {T : TypeId} (hm : ss.length ≤ maxLen)
    (h : ∀ w : World, (∀ x, x ∈ layL → w.cell? ⟨x.1, x.2.1, Option.none⟩ = some x.2.2) → Calls P f #[.string ⟨s.toArray⟩] w fun e w' => e = .returned (.slice (some ⟨w.heap.size, 0, Option.none⟩) ss.length ss.length) ∧ w' = w.alloc (.cells (ss.map fun l => Value.string ⟨l.toArray⟩).toArray T)) :
    Spec P f [.str s] [] (fun v H => v = .sl .no 1 (ss.map AV.str) ∧ H = []) := by
  intro E F g w vs hvs hrd hr
  obtain ⟨v, rfl⟩ := arr1 (by simpa using hvs)
  have h0 : Reads g w v (.str s) := hrd 0 (by simp)
  cases h0
  refine (h w fun x hx => hr.lay hx).mono ?_
  rintro e w' ⟨he, rfl⟩
  obtain ⟨t, g', h1, h2, h3, h4⟩ := hr.row (ss.map fun l => Value.string ⟨l.toArray⟩).toArray T ss.length ss.length (by simp) (Nat.le_refl _) (by simp)
  refine ⟨_, .sl .no 1 (ss.map AV.str), [], g', he, ⟨rfl, rfl⟩, ?_, h3.drop, h4⟩
  have hb := Blk.new w (ss.map fun l => Value.string ⟨l.toArray⟩).toArray T
  refine .sl w.heap.size 0 (fun j _ => .string ⟨(ss.getD j []).toArray⟩) (by rw [List.length_map]) (Nat.le_refl _) hm (.inl rfl) (fun x hx => ?_) (by omega) (fun j k hj hk => ?_) (fun j k hj hk => ?_) trivial
  · obtain ⟨l, _, rfl⟩ := List.mem_map.1 hx
    rfl
  · rw [List.length_map] at hj
    obtain rfl : k = 0 := by omega
    refine ⟨h2 _ (by omega), ?_⟩
    rw [hb.cell]
    simp [List.getD, hj]
  · rw [List.length_map] at hj
    obtain rfl : k = 0 := by omega
    have e : ((ss.map AV.str).getD j .un) = AV.str (ss.getD j []) := by simp [List.getD, hj]
    rw [e]
    exact .str _
end Go.Lift
