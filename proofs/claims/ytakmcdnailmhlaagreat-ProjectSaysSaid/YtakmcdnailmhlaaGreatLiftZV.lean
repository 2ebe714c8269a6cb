/- Lift, part ZV: the sorted keys of a map of one's own (numbers). -/
import Derived.Test.YtakmcdnailmhlaaGreatLiftZM
import Derived.Test.YtakmcdnailmhlaaGreatLiftZS
import Derived.Lib.SlKeysI
namespace Go.Lift
open Go.RowKit Go.Maps

/-- maps.Keys: a function over a new place that holds the map. -/
theorem spec_mapsKeys {P : Program} {f g10 : FuncId} {T : TypeId} (h : ∀ (mb : Option Nat) (w : World), Calls P f #[.map mb] w fun e w' => e = .returned (.func (.func g10) #[] #[.pointer (some ⟨w.heap.size, 0, Option.none⟩)]) ∧ w' = w.alloc (.cells #[.map mb] T)) (o : Nat) :
    Spec P f [.map o] [] (fun v H => ∃ p, v = .fn g10 [.ptr p 0] ∧ H = [(p, .cells [.map o])]) := by
  intro E F g w vs hvs hrd hr
  obtain ⟨v, rfl⟩ := arr1 hvs
  have h0 : Reads g w v (.map o) := hrd 0 (by simp)
  obtain ⟨b, bs, S, rfl, hob, hb0⟩ := map_inv h0
  refine (h (some b) w).mono fun ex w' ⟨he, hw⟩ => ?_
  subst hw
  obtain ⟨p, g', h1, h2, h3⟩ := hr.box #[.map (some b)] T [.map o] rfl rfl (fun j hj => by
    obtain rfl : j = 0 := by simpa using hj
    exact h0)
  refine ⟨_, _, _, g', he, ⟨p, rfl, rfl⟩, .fn rfl fun j hj => ?_, h2, h3⟩
  obtain rfl : j = 0 := by simpa using hj
  exact .ptr 0 h1

theorem mpE_intKeys {V : Type} {vf : V → AV} {g : Gh} {w : World} : ∀ {l : List (Int × V)} {es : List (Lit × Value)}, RdM g w es (mpE mkI vf l) → intKeys (DataW.map (es.map rawE)) = l.map Prod.fst
  | [], [], _ => rfl
  | x :: l, y :: es, ⟨h1, _, h3⟩ => by
    have ih := mpE_intKeys h3
    show intOf y.1 :: intKeys (DataW.map (es.map rawE)) = x.1 :: l.map Prod.fst
    rw [ih, h1]
    rfl
  | [], _ :: _, h => h.elim
  | _ :: _, [], h => h.elim

/-- slices.Sorted of a map's keys. -/
theorem spec_sortedKeys {V : Type} {P : Program} {f g10 : FuncId} {kt T : TypeId} {vf : V → AV}
    (h : ∀ (B b : Nat) (es : List (Lit × Value)) (w : World), w.cell? ⟨B, 0, Option.none⟩ = some (.map (some b)) → B < w.heap.size → w.ownsMap P kt rawR b es.length (.map (es.map rawE)) → es.length * 8 ≤ 140737488355328 →
      Calls P f #[.func (.func g10) #[] #[.pointer (some ⟨B, 0, Option.none⟩)]] w fun e w' => ∃ (v : Value) (ss : List Int), e = .returned v ∧ ss.Perm (intKeys (DataW.map (es.map rawE))) ∧
        w'.ownsRow w.heap.size T 1 v ss.length ((ss.mergeSort fun x y => decide (x ≤ y)).map encZ) ∧ (v = .slice Option.none 0 0 ↔ ss = []) ∧ Below w.heap.size w w')
    {l : List (Int × V)} (hl : l.length * 8 ≤ 140737488355328) (p o : Nat) :
    Spec P f [.fn g10 [.ptr p 0]] [(p, .cells [.map o]), (o, .abs (mapAbs P kt (mpE mkI vf l)))]
      (fun v H => v = .sl .no 1 (((l.map Prod.fst).mergeSort fun x y => decide (x ≤ y)).map (AV.int .i64)) ∧ H = [(p, .cells [.map o]), (o, .abs (mapAbs P kt (mpE mkI vf l)))]) := by
  intro E F g w vs hvs hrd hr
  obtain ⟨v, rfl⟩ := arr1 hvs
  have h0 : Reads g w v (.fn g10 [.ptr p 0]) := hrd 0 (by simp)
  have hr' : Rel E ((p, .cells [.map o]) :: (o, .abs (mapAbs P kt (mpE mkI vf l))) :: F) g w := hr
  -- the place that holds the map
  obtain ⟨B, rfl, hpB⟩ : ∃ B, v = .func (.func g10) #[] #[.pointer (some ⟨B, 0, Option.none⟩)] ∧ g.ob p = .cells B := by
    cases h0 with
    | @fn f cs as hs hh =>
      obtain ⟨u, rfl⟩ := arr1 hs
      have hu : Reads g w u (.ptr p 0) := hh 0 (by simp)
      cases hu with
      | ptr off h => exact ⟨_, rfl, h⟩
  have hk1 := hr'.ok p _ (List.mem_cons_self ..)
  rw [hpB] at hk1
  obtain ⟨_, arr, hblk, hsz, _, hcell⟩ := hk1
  have hm0 : Reads g w (arr.getD 0 undef) (.map o) := hcell 0 (by simp)
  obtain ⟨b, bs, S, he, hob, hb0⟩ := map_inv hm0
  have hk2 := hr'.ok o _ (List.mem_cons_of_mem _ (List.mem_cons_self ..))
  rw [hob] at hk2
  obtain ⟨b', es, rfl, hS, hown, hrdm⟩ := hk2.2
  obtain rfl : b' = b := Option.some.inj hb0
  have hlen := hrdm.length
  rw [List.length_map] at hlen
  have hown' : w.ownsMap P kt rawR b' es.length (.map (es.map rawE)) := by
    have := ownsMap_tight hown
    rwa [List.length_map] at this
  have hc : w.cell? ⟨B, 0, Option.none⟩ = some (.map (some b')) := by
    have h1 : 0 < arr.size := by rw [hsz]; simp
    rw [hblk.cell, Array.getElem?_eq_getElem h1, ← he]
    simp [Array.getD_eq_getD_getElem?, Array.getElem?_eq_getElem h1]
  refine (h B b' es w hc hblk.lt hown' (by omega)).mono ?_
  rintro e w' ⟨u, ss, rfl, hperm, hrow, hnil, hbl⟩
  have hsort : (ss.mergeSort fun x y => decide (x ≤ y)) = (l.map Prod.fst).mergeSort fun x y => decide (x ≤ y) := mergeSort_of_perm_i (by rw [← mpE_intKeys hrdm]; exact hperm)
  have hsl : ss.length = l.length := by
    have := hperm.length_eq
    rw [mpE_intKeys hrdm, List.length_map] at this
    exact this
  rw [← hsort]
  rcases hrow.2 with ⟨rfl, hz⟩ | ⟨gb, cap, cur, rfl, hbase, hgb, r1, r2, r3, r4⟩
  · obtain rfl : ss = [] := List.eq_nil_of_length_eq_zero hz
    obtain ⟨h5, h6⟩ := hr'.below hbl
    refine ⟨_, _, _, g, rfl, ⟨rfl, rfl⟩, ?_, h5, h6⟩
    have e0 : (([] : List Int).mergeSort fun x y => decide (x ≤ y)) = [] := List.eq_nil_of_length_eq_zero (by rw [List.length_mergeSort]; rfl)
    rw [e0]
    exact .sl 0 0 (fun _ _ => undef) rfl (Nat.le_refl _) (Nat.zero_le _) (.inr ⟨rfl, rfl⟩) (by simp) (by omega) (fun j k hj => absurd hj (Nat.not_lt_zero _)) (fun j k hj => absurd hj (Nat.not_lt_zero _)) trivial
  · rw [Nat.mul_one] at r3 r4
    have hblk2 : Blk w' gb cur := ⟨_, (0, 0), hgb, fun off _ h => Nat.not_lt_zero _ h.2⟩
    obtain ⟨h5, h6⟩ := hr'.grow (g' := g.prot (fun b off => b = gb ∧ off < ss.length)) (w' := w') hbl.os hbl.tape hbl.output hbl.size (fun k hk => hbl.block k hk) (fun _ _ hp => .inl hp)
      (fun b off hp => hp.elim .inl (fun hp => .inr ⟨by omega, by
        obtain ⟨rfl, hlt⟩ := hp
        rw [hblk2.cell, Array.getElem?_eq_getElem (by omega)]; rfl⟩)) (fun _ _ => rfl) hr'.fresh
    refine ⟨_, _, _, _, rfl, ⟨rfl, rfl⟩, ?_, h5, h6⟩
    have hml : (ss.mergeSort fun x y => decide (x ≤ y)).length = ss.length := List.length_mergeSort ss
    refine .sl gb 0 (fun j _ => cur.getD j undef) (by rw [List.length_map, hml]) r1 r2 (.inl rfl) (fun x hx => by obtain ⟨y, _, rfl⟩ := List.mem_map.1 hx; rfl) (by omega) (fun j k hj hk => ?_) (fun j k hj hk => ?_) trivial
    · obtain rfl : k = 0 := by omega
      rw [List.length_map, hml] at hj
      rw [Nat.mul_one, Nat.add_zero, Nat.zero_add]
      refine ⟨.inr ⟨rfl, hj⟩, ?_⟩
      rw [hblk2.cell, Array.getElem?_eq_getElem (by omega)]
      simp [Array.getD_eq_getD_getElem?, Array.getElem?_eq_getElem (show j < cur.size by omega)]
    · obtain rfl : k = 0 := by omega
      rw [List.length_map, hml] at hj
      have hx : cur.getD j undef = encZ ((ss.mergeSort fun x y => decide (x ≤ y))[j]'(by omega)) := by
        have h7 : (cur.toList.take ss.length)[j]? = some (encZ ((ss.mergeSort fun x y => decide (x ≤ y))[j]'(by omega))) := by
          rw [r4, List.getElem?_map, List.getElem?_eq_getElem (by omega)]
          rfl
        rw [List.getElem?_take, if_pos hj] at h7
        rw [Array.getD_eq_getD_getElem?, ← Array.getElem?_toList, h7]
        rfl
      rw [hx]
      have e : ((List.map (AV.int .i64) (ss.mergeSort fun x y => decide (x ≤ y))).getD j .un).cells.getD 0 .un = .int .i64 ((ss.mergeSort fun x y => decide (x ≤ y))[j]'(by omega)) := by
        simp [List.getD, List.getElem?_eq_getElem (show j < (ss.mergeSort fun x y => decide (x ≤ y)).length by omega), AV.cells]
      rw [e]
      exact .int _ _

end Go.Lift
