/- Lift, part ZU: slices.SortFunc at structs over a vector of one's own, by the shelf's contract. -/
import Derived.Test.YtmognhokagemiaaGreatLiftZS
import Derived.Shelf.GgSortFunc.InsertionK
import Derived.Lib.Bytealg
import Derived.Shelf.SlSortCmp.Insertion
namespace Go.Lift
open Go.RowKit Go.Sort

theorem flat_at {α : Type} [Inhabited α] (enc : α → List Value) {k : Nat} (d : Array α) {j c : Nat} (hj : j < d.size) (hc : c < k) : j * k + c < d.size * k ∧ (Go.Sort.flatK enc k d)[j * k + c]! = (enc d[j]!)[c]! := by
  have lt : j * k + c < d.size * k := by
    have := Nat.mul_le_mul_right k (show j + 1 ≤ d.size from hj); rw [Nat.add_mul, Nat.one_mul] at this; omega
  have e1 : (j * k + c) / k = j := (Go.Sort.blk_iff k j _ (by omega)).1 ⟨by omega, by omega⟩
  have e2 : (j * k + c) % k = c := by rw [Nat.mod_eq_sub_div_mul, e1]; omega
  exact ⟨lt, by rw [Go.Sort.get_flatK _ _ _ _ lt, e1, e2]⟩

theorem spec_sortF {P : Program} {f g : FuncId} {α : Type} [Inhabited α] {k : Nat} (k0 : 0 < k) (enc : α → List Value) (mk : α → AV) (lt : α → α → Bool)
    (hk : ∀ x, (enc x).length = k)
    (hrd : ∀ (x : α) (gh : Gh) (w : World) (c : Nat) (v : Value), c < k → Reads gh w v ((mk x).cells.getD c .un) → v = (enc x)[c]!)
    (hwr : ∀ (x : α) (gh : Gh) (w : World) (c : Nat), c < k → Reads gh w ((enc x)[c]!) ((mk x).cells.getD c .un))
    (helt : ∀ x, (mk x).elt k = true)
    (hS : ∀ (blk off cap : Nat) (d : Array α) (w : World), Go.Sort.HoldsK enc k w blk off d → blk < w.heap.size → d.size < 4611686018427387904 →
      Calls P f #[.slice (some ⟨blk, off, Option.none⟩) d.size cap, .func (.func g) #[] #[]] w fun e w' => e = .returned (.tuple #[]) ∧ ∃ d' n os, Go.Sort.PermIn 0 d.size d d' ∧ Go.Sort.SortedIn lt 0 d.size d' ∧ w' = Go.Proofs.sortWorldK enc k w blk off n d' os)
    (hN : ∀ (p : Option Addr) (cap : Nat) (fv : Value) (w : World), Calls P f #[.slice p 0 cap, fv] w fun e w' => e = .returned (.tuple #[]) ∧ w' = w)
    {xs ys : List α} (hu : ∀ d : List α, d.Perm xs → d.Pairwise (fun a b => lt b a = false) → d = ys) (hl : xs.length < 4611686018427387904) (o : Nat) :
    Spec P f [.vec o, .fn g []] [(o, .vec k (xs.map mk))] (fun v H => v = .tup [] ∧ H = [(o, .vec k (ys.map mk))]) := by
  intro E F gh w vs hsz hrds hrel
  obtain ⟨v, u, rfl⟩ := arr2 (by simpa using hsz)
  have hv : Reads gh w v (.vec o) := by have := hrds 0 (by simp); simpa using this
  have hf : Reads gh w u (.fn g []) := by have := hrds 1 (by simp); simpa using this
  obtain ⟨A, b, nn, cc, rfl, hp, hn, hnc, hA⟩ := vec_inv (q := 0) (st := [(o, .vec k (xs.map mk))]) hrel rfl hv
  rw [List.length_map] at hn
  have hrel' : Rel E ((o, .vec k (xs.map mk)) :: F) gh w := hrel
  have hok := hrel'.ok o _ (List.mem_cons_self ..)
  rw [hp] at hok
  obtain ⟨_, _, _, hcm, hz0, he, hok⟩ := hok
  by_cases h0 : nn = 0
  · have hx : xs = [] := List.eq_nil_of_length_eq_zero (by omega)
    subst hx h0
    have hy : ys = [] := (hu [] (List.Perm.refl _) List.Pairwise.nil).symm
    subst hy
    refine (hN A cc u w).mono ?_
    rintro e w' ⟨rfl, rfl⟩
    exact ⟨_, .tup [], _, gh, rfl, ⟨rfl, rfl⟩, .tup («as» := []) rfl (fun j hj => absurd hj (Nat.not_lt_zero _)), hrel, GLe.refl _ _⟩
  · have h0c : 0 < cc := by omega
    have hA' : A = some ⟨b, 0, Option.none⟩ := hA.resolve_right (by omega)
    subst hA'
    obtain ⟨hB, arr, hblk, hs, hrdc⟩ := hok h0c
    have hle : xs.length * k ≤ cc * k := Nat.mul_le_mul_right k (by omega)
    have hu2 : u = .func (.func g) #[] #[] := by
      cases hf with
      | @fn _ cs _ hs2 _ =>
        have : cs = #[] := Array.eq_empty_of_size_eq_zero (by simpa using hs2)
        rw [this]
    subst hu2
    have hcell : ∀ j c, (hj : j < xs.length) → c < k → arr.getD (j * k + c) undef = (enc xs[j])[c]! := fun j c hj hc => by
      have := hrdc j c (by rw [List.length_map]; exact hj) hc
      have e : (xs.map mk).getD j .un = mk xs[j] := by simp [List.getD, List.getElem?_eq_getElem hj]
      rw [e] at this
      exact hrd _ _ _ _ _ hc this
    have hH : Go.Sort.HoldsK enc k w b 0 xs.toArray := fun t ht => by
      have ht' : t < xs.length * k := by simpa using ht
      have hlt : 0 + t < arr.size := by rw [hs]; omega
      have hj : t / k < xs.length := Nat.div_lt_of_lt_mul (by rw [Nat.mul_comm]; exact ht')
      have hc : t % k < k := Nat.mod_lt _ k0
      have ht2 : t / k * k + t % k = t := by rw [Nat.mul_comm]; exact Nat.div_add_mod t k
      refine ⟨?_, hblk.frozen hlt⟩
      rw [hblk.cell, Array.getElem?_eq_getElem hlt]
      have h1 := hcell (t / k) (t % k) hj hc
      rw [ht2, Array.getD_eq_getD_getElem?, Array.getElem?_eq_getElem (by omega : t < arr.size)] at h1
      simp only [Option.getD_some] at h1
      simp only [Nat.zero_add]
      rw [h1, Go.Sort.get_flatK _ _ _ _ (by simpa using ht')]
      simp [hj]
    rw [hn]
    refine (hS b 0 cc xs.toArray w hH hblk.lt (by simpa using hl)).mono ?_
    rintro e w' ⟨rfl, d', m, os, hperm, hsort, rfl⟩
    obtain ⟨hd1, _, hd3⟩ := hperm
    have hd1 : d'.size = xs.length := by simpa using hd1
    have hys : d'.toList = ys := by
      refine hu _ ?_ ?_
      · have e1 : (d'.extract 0 xs.toArray.size).toList = d'.toList := by
          rw [show xs.toArray.size = d'.size by simp [hd1], Array.extract_size]
        have e2 : (xs.toArray.extract 0 xs.toArray.size).toList = xs := by rw [Array.extract_size]
        rw [e1, e2] at hd3
        exact hd3
      · rw [List.pairwise_iff_getElem]
        intro i j hi hj hij
        have := hsort i j (Nat.zero_le _) hij (by simpa [hd1] using hj)
        rw [getElem!_pos _ j (by simpa using hj), getElem!_pos _ i (by simpa using hi)] at this
        simpa using this
    have hyl : ys.length = xs.length := by rw [← hys]; simpa using hd1
    have hps := putCells_size (id : Value → Value) 0 (Go.Sort.flatK enc k d') arr
    obtain ⟨h3, h4⟩ := rel_rewrite hrel' hp h0c hblk hB hs hps (ys := ys.map mk) (by rw [List.length_map, List.length_map, hyl]) (fun y hy => by obtain ⟨x, _, rfl⟩ := List.mem_map.1 hy; exact helt x) (fun j c hj hc => by
      rw [List.length_map] at hj
      have hjd : j < d'.size := by omega
      obtain ⟨f1, f2⟩ := flat_at enc d' hjd hc
      have hflt : j * k + c < arr.size := by
        have : d'.size * k ≤ cc * k := by rw [hd1]; exact hle
        rw [hs]; omega
      rw [putCells_getD _ _ _ hflt, if_pos (by simpa using f1)]
      have e : (ys.map mk).getD j .un = mk ys[j] := by simp [List.getD, List.getElem?_eq_getElem hj]
      have e3 : d'[j]! = ys[j] := by
        rw [getElem!_pos _ j hjd]
        simp only [← hys, Array.getElem_toList]
      rw [e]
      show Reads gh w (Go.Sort.flatK enc k d')[j * k + c]! _
      rw [f2, e3]
      exact hwr _ _ _ _ hc)
    have hbl := below_put (enc := (id : Value → Value)) (d := Go.Sort.flatK enc k d') (m := m) (os := os) hblk
    obtain ⟨h5, h6⟩ := h3.below hbl
    exact ⟨_, .tup [], _, gh, rfl, ⟨rfl, rfl⟩, .tup («as» := []) rfl (fun j hj => absurd hj (Nat.not_lt_zero _)), h5, h4.trans h6⟩

/-! ### The order of bytes -/
theorem sl_cons (a b : UInt8) (x y : List UInt8) : strLt (a :: x) (b :: y) = (decide (a < b) || (a == b && strLt x y)) := rfl
theorem sl_nil (x : List UInt8) : strLt x [] = false := by cases x <;> rfl

theorem sl_irrefl : ∀ x : List UInt8, strLt x x = false
  | [] => rfl
  | a :: x => by rw [sl_cons, sl_irrefl x]; simp [UInt8.lt_irrefl]

theorem sl_trans : ∀ {x y z : List UInt8}, strLt x y = true → strLt y z = true → strLt x z = true
  | x, y, [], _, h => by simp [sl_nil] at h
  | x, [], _ :: _, h, _ => by simp [sl_nil] at h
  | [], _ :: _, _ :: _, _, _ => rfl
  | a :: x, b :: y, c :: z, h1, h2 => by
    rw [sl_cons] at *
    simp only [Bool.or_eq_true, decide_eq_true_eq, Bool.and_eq_true, beq_iff_eq] at *
    rcases h1 with h1 | ⟨h1, h1'⟩
    · rcases h2 with h2 | ⟨h2, _⟩
      · exact .inl (UInt8.lt_trans h1 h2)
      · exact .inl (h2 ▸ h1)
    · rcases h2 with h2 | ⟨h2, h2'⟩
      · exact .inl (h1 ▸ h2)
      · exact .inr ⟨h1.trans h2, sl_trans h1' h2'⟩

theorem sl_tri : ∀ x y : List UInt8, x = y ∨ strLt x y = true ∨ strLt y x = true
  | [], [] => .inl rfl
  | [], _ :: _ => .inr (.inl rfl)
  | _ :: _, [] => .inr (.inr rfl)
  | a :: x, b :: y => by
    rw [sl_cons, sl_cons]
    simp only [Bool.or_eq_true, decide_eq_true_eq, Bool.and_eq_true, beq_iff_eq]
    by_cases h : a = b
    · subst h
      rcases sl_tri x y with h | h | h
      · exact .inl (by rw [h])
      · exact .inr (.inl (.inr ⟨rfl, h⟩))
      · exact .inr (.inr (.inr ⟨rfl, h⟩))
    · by_cases h1 : a < b
      · exact .inr (.inl (.inl h1))
      · refine .inr (.inr (.inl ?_))
        have h2 : b ≤ a := UInt8.not_lt.1 h1
        exact UInt8.lt_of_le_of_ne h2 (fun e => h e.symm)

theorem sl_asymm {x y : List UInt8} (h : strLt x y = true) : strLt y x = false := by
  cases h2 : strLt y x with
  | false => rfl
  | true => have := sl_trans h h2; rw [sl_irrefl] at this; cases this


theorem cmpB_lt : ∀ a b : List UInt8, decide (Go.Lib.compareBytes a b < 0) = strLt a b
  | [], [] => rfl
  | [], _ :: _ => rfl
  | _ :: _, [] => rfl
  | a :: x, b :: y => by
    rw [sl_cons, Go.Lib.compareBytes]
    by_cases h : a < b
    · simp [h]
    · rw [if_neg h]
      by_cases h2 : b < a
      · have : ¬ a = b := fun e => UInt8.lt_irrefl b (e ▸ h2)
        simp [h, h2, this]
      · have e : a = b := UInt8.le_antisymm (UInt8.not_lt.1 h2) (UInt8.not_lt.1 h)
        rw [if_neg h2, cmpB_lt x y]
        simp [h, e]

theorem swo_key {α : Type} (key : α → List UInt8) : Go.Sort.SWO (Go.Proofs.ltOf fun x y : α => Go.Lib.compareBytes (key x) (key y)) where
  irrefl x := by show decide _ = false; rw [cmpB_lt]; exact sl_irrefl _
  trans x y z h1 h2 := by
    have h1 : decide _ = true := h1
    have h2 : decide _ = true := h2
    show decide _ = true
    rw [cmpB_lt] at *
    exact sl_trans h1 h2
  ntrans x y z h1 h2 := by
    have h1 : decide _ = false := h1
    have h2 : decide _ = false := h2
    show decide _ = false
    rw [cmpB_lt] at *
    rcases sl_tri (key x) (key y) with h | h | h
    · rw [h]; exact h2
    · rw [h1] at h; cases h
    · rcases sl_tri (key y) (key z) with h' | h' | h'
      · rw [← h']; exact h1
      · rw [h2] at h'; cases h'
      · exact sl_asymm (sl_trans h' h)

/-- What is sorted by keys of which none is there twice is one list. -/
theorem key_unique {α : Type} (key : α → List UInt8) {x d : List α} (hn : (x.map key).Nodup) (hp : d.Perm x) (hs : d.Pairwise fun a b => Go.Proofs.ltOf (fun x y : α => Go.Lib.compareBytes (key x) (key y)) b a = false) : d = x.mergeSort fun a b => !strLt (key b) (key a) := by
  have hs2 := List.pairwise_mergeSort (le := fun a b : α => !strLt (key b) (key a)) (fun a b c h1 h2 => by
    simp only [Bool.not_eq_true'] at *
    rcases sl_tri (key a) (key b) with h | h | h
    · rw [h]; exact h2
    · rcases sl_tri (key b) (key c) with h' | h' | h'
      · rw [← h']; exact sl_asymm h
      · exact sl_asymm (sl_trans h h')
      · rw [h2] at h'; cases h'
    · rw [h1] at h; cases h) (fun a b => by
    simp only [Bool.or_eq_true, Bool.not_eq_true']
    rcases sl_tri (key a) (key b) with h | h | h
    · rw [h]; exact .inl (sl_irrefl _)
    · exact .inl (sl_asymm h)
    · exact .inr (sl_asymm h)) x
  have hp2 := List.mergeSort_perm x fun a b => !strLt (key b) (key a)
  have strict : ∀ l : List α, l.Perm x → l.Pairwise (fun a b => strLt (key b) (key a) = false) → l.Pairwise fun a b => strLt (key a) (key b) = true := fun l hl h => by
    have hnl : (l.map key).Nodup := (hl.map key).nodup_iff.2 hn
    have hnl2 : l.Pairwise fun a b => key a ≠ key b := List.pairwise_map.1 hnl
    refine (h.and hnl2).imp fun {a b} hab => ?_
    obtain ⟨h1, h2⟩ := hab
    rcases sl_tri (key a) (key b) with h | h | h
    · exact absurd h h2
    · exact h
    · rw [h1] at h; cases h
  have hd := strict d hp (hs.imp fun {a b} h => by
    have h : decide _ = false := h
    rw [cmpB_lt] at h
    exact h)
  have hm := strict _ hp2 (hs2.imp fun {a b} h => by simpa using h)
  have uniq : ∀ (a b : List α), a.Pairwise (fun u v => strLt (key u) (key v) = true) → b.Pairwise (fun u v => strLt (key u) (key v) = true) → a.Perm b → a = b := by
    intro a
    induction a with
    | nil => intro b _ _ h; exact (List.nil_perm.1 h).symm
    | cons u a ih =>
      intro b ha hb h
      cases b with
      | nil => exact absurd h (by simp)
      | cons v b =>
        have ha' := List.pairwise_cons.1 ha
        have hb' := List.pairwise_cons.1 hb
        have e : u = v := by
          rcases List.mem_cons.1 (h.mem_iff.1 List.mem_cons_self) with e | e
          · exact e
          · rcases List.mem_cons.1 (h.mem_iff.2 (List.mem_cons_self (a := v))) with e2 | e2
            · exact e2.symm
            · have h1 := hb'.1 u e
              have h2 := ha'.1 v e2
              rw [sl_asymm h1] at h2; cases h2
        subst e
        rw [ih b ha'.2 hb'.2 (List.perm_cons u |>.1 h)]
  exact uniq _ _ hd hm (hp.trans hp2.symm)

end Go.Lift
