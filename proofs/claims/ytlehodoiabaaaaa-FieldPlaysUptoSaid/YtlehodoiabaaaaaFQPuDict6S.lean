import Derived.Test.YtlehodoiabaaaaaFQPuDict5S
set_option maxHeartbeats 0
namespace Go.Pu
open Go.Lift

theorem shl_i64 {s : Nat} (hs : s ≤ 16) : IntKind.wrap .i64 (1 * 2 ^ min (Int.toNat (s : Int)) (IntKind.bits .i64)) = ((2 ^ s : Nat) : Int) := by
 have h1 := two_pow_le16 hs
 have h2 : min (Int.toNat (s : Int)) (IntKind.bits .i64) = s := by simp only [IntKind.bits, Int.toNat_natCast]; omega
 rw [h2, Int.one_mul]
 have h3 : ((2 : Int) ^ s) = ((2 ^ s : Nat) : Int) := by simp
 rw [h3]
 have h4 : ((2 ^ s : Nat) : Int) ≤ 65536 := Int.ofNat_le.2 h1
 have h5 : (0 : Int) ≤ ((2 ^ s : Nat) : Int) := Int.natCast_nonneg _
 generalize ((2 ^ s : Nat) : Int) = N at h4 h5
 exact i64_wrap (by omega) (by omega)

def newPlaces (s : Nat) : List RV := List.replicate (2 ^ s) (.pt none)

theorem empty_eq (r : Reg) {s : Nat} (hs : s ≤ 16) : dict.empty_string (s : Int) r = some ({ size := s, l := slc r.length (2 ^ s) }, r ++ [newPlaces s]) := by
 have h1 := two_pow_le16 hs
 have h4 : ((2 ^ s : Nat) : Int) ≤ 65536 := Int.ofNat_le.2 h1
 have h5 : (0 : Int) ≤ ((2 ^ s : Nat) : Int) := Int.natCast_nonneg _
 have h6 : Room ((2 ^ s : Nat) : Int) 8 := by
  generalize ((2 ^ s : Nat) : Int) = N at h4 h5
  exact ⟨h5, by omega⟩
 unfold dict.empty_string
 rw [shl_i64 hs, need_eq (by omega), need_eq h6, Int.toNat_natCast]
 rfl

theorem half_new (r : Reg) (s : Nat) : Half (r ++ [newPlaces s]) r.length (List.replicate (2 ^ s) []) := by
 have h0 : (r ++ [newPlaces s])[r.length]? = some (newPlaces s) := by simp
 refine ⟨⟨_, h0, by simp [newPlaces]⟩, fun i xs hi => ?_⟩
 obtain ⟨h1, h2⟩ := List.getElem?_eq_some_iff.1 hi
 obtain rfl : xs = [] := by rw [← h2]; simp
 refine ⟨none, rld_at h0 ?_, rfl⟩
 have : i < 2 ^ s := by simpa using h1
 simp [newPlaces, this]

/-- An empty table. -/
def Tab.fresh (seed : Int) (b : Nat) : Tab := { seed := seed, s0 := 2, b0 := b, c0 := List.replicate (2 ^ 2) [], s1 := 0, b1 := 0, c1 := [], moved := 0, two := false }

theorem fresh_all (seed : Int) (b : Nat) : (Tab.fresh seed b).all = [] := rfl

theorem fresh_ok (seed : Int) (b : Nat) : (Tab.fresh seed b).ok := by
 refine ⟨rfl, (fun h => by cases h), fun _ => ⟨rfl, rfl, rfl⟩, ⟨Nat.le_refl _, (by show 2 ≤ 16; decide)⟩, (fun h => by cases h), (by show 0 < 2 ^ 2; decide), fun i hi => absurd hi (Nat.not_lt_zero _), fun i xs hi x hx => ?_, fun i xs hi => (by simp [Tab.fresh] at hi), List.nodup_nil, fun x hx => (by cases hx), (by show 0 < 1000000; decide)⟩
 have : xs = [] := List.eq_of_mem_replicate (List.mem_of_getElem? (show (List.replicate (2 ^ 2) [])[i]? = some xs from hi))
 subst this
 cases hx

theorem New_eq (r : Reg) (seed : Int) : ∃ r', dict.New_string seed r = some (some (r.length + 1, 0), r') ∧ TabAt r' (r.length + 1) (Tab.fresh seed r.length) 0 ∧ Ext [] r r' ∧ r'.length = r.length + 2 := by
 have e := empty_eq r (s := 2) (by decide)
 have hl : (r ++ [newPlaces 2]).length = r.length + 1 := by simp
 have hr : ∀ k, k < r.length + 1 → ((r ++ [newPlaces 2]) ++ [(Tab.fresh seed r.length).cells 0])[k]? = (r ++ [newPlaces 2])[k]? := fun k hk => List.getElem?_append_left (by rw [hl]; exact hk)
 refine ⟨(r ++ [newPlaces 2]) ++ [(Tab.fresh seed r.length).cells 0], ?_, ⟨?_, ?_, (fun h => by cases h), ?_⟩, ⟨by simp, fun k hk _ => ?_⟩, by simp⟩
 ·unfold dict.New_string
  rw [show (2 : Int) = ((2 : Nat) : Int) from rfl, e, Option.bind_some]
  show letO _ _ = _
  unfold letO
  rw [hl]
  rfl
 ·rw [← hl]; simp
 ·refine (half_new r 2).frame (hr _ (Nat.lt_succ_self _)) fun x hx => ?_
  rw [flatten_replicate_nil] at hx
  cases hx
 ·show ((r.length + 1) :: [r.length] ++ ids []).Nodup
  simp [ids]
 ·rw [hr k (by omega)]
  exact List.getElem?_append_left hk

theorem ready_eq {r : Reg} {t n : Nat} {m : Tab} (h : TabAt r t m n) : dict.Table_string.ready (some (t, 0)) r = some (true, r) := by
 unfold dict.Table_string.ready
 rw [if_isSome]
 simp only [rpAdd_some, need_isSome]
 rw [need_eq (by decide), show 0 + 1 + 0 + 1 = 2 from rfl, h.ldL0, Option.bind_some]
 rfl

theorem part_eq {r : Reg} {t n : Nat} {m : Tab} (h : TabAt r t m n) (hm : m.ok) (h2 : m.two = false) {s : Nat} (hs : s ≤ 16) :
  ∃ r', dict.Table_string.part (some (t, 0)) (s : Int) r = some r' ∧ TabAt r' t (m.part r.length s) n ∧ Ext [t] r r' ∧ r'.length = r.length + 1 := by
 have hlt := h.lt hm
 have htlt : t < r.length := hlt t (by simp [Tab.foot])
 obtain ⟨hc1, hs1, hmv⟩ := hm.no1 h2
 obtain ⟨f1, f2, f3, f4, f5⟩ := h.tfree
 have hr1 : ∀ k, k < r.length → (r ++ [newPlaces s])[k]? = r[k]? := fun k hk => List.getElem?_append_left hk
 have ht : (r ++ [newPlaces s])[t]? = some (m.cells n) := (hr1 t htlt).trans h.tab
 have hN := half_new r s
 have hlen : (r ++ [newPlaces s]).length = r.length + 1 := by simp
 generalize hR : r ++ [newPlaces s] = R at hr1 ht hN hlen
 have t0 : R[t]? = some [.it .u64 m.seed, .it .i64 m.s0, .sc (slc m.b0 (2 ^ m.s0)), .it .i64 (m.s1 : Int), .sc none, .it .i64 (m.moved : Int), .bo false, .it .i64 n] := by
  rw [ht]; simp [Tab.cells, h2]
 have e1 : rSto R (some (t, 3)) [.it .i64 s, .sc (slc r.length (2 ^ s))] = some (R.set t [.it .u64 m.seed, .it .i64 m.s0, .sc (slc m.b0 (2 ^ m.s0)), .it .i64 (s : Int), .sc (slc r.length (2 ^ s)), .it .i64 (m.moved : Int), .bo false, .it .i64 n]) := by
  rw [rsto_at t0 (by simp)]; rfl
 have t1 := set_same (x := [.it .u64 m.seed, .it .i64 m.s0, .sc (slc m.b0 (2 ^ m.s0)), .it .i64 (s : Int), .sc (slc r.length (2 ^ s)), .it .i64 (m.moved : Int), .bo false, .it .i64 n]) t0
 have g1 : ∀ j, j ≠ t → (R.set t [.it .u64 m.seed, .it .i64 m.s0, .sc (slc m.b0 (2 ^ m.s0)), .it .i64 (s : Int), .sc (slc r.length (2 ^ s)), .it .i64 (m.moved : Int), .bo false, .it .i64 n])[j]? = R[j]? := fun j hj => set_ne hj
 have l1 : (R.set t [.it .u64 m.seed, .it .i64 m.s0, .sc (slc m.b0 (2 ^ m.s0)), .it .i64 (s : Int), .sc (slc r.length (2 ^ s)), .it .i64 (m.moved : Int), .bo false, .it .i64 n]).length = R.length := List.length_set
 generalize R.set t [.it .u64 m.seed, .it .i64 m.s0, .sc (slc m.b0 (2 ^ m.s0)), .it .i64 (s : Int), .sc (slc r.length (2 ^ s)), .it .i64 (m.moved : Int), .bo false, .it .i64 n] = R1 at e1 t1 g1 l1
 have e2 : rSto R1 (some (t, 6)) [.bo true] = some (R1.set t [.it .u64 m.seed, .it .i64 m.s0, .sc (slc m.b0 (2 ^ m.s0)), .it .i64 (s : Int), .sc (slc r.length (2 ^ s)), .it .i64 (m.moved : Int), .bo true, .it .i64 n]) := by
  rw [rsto_at t1 (by simp)]; rfl
 have t2 := set_same (x := [.it .u64 m.seed, .it .i64 m.s0, .sc (slc m.b0 (2 ^ m.s0)), .it .i64 (s : Int), .sc (slc r.length (2 ^ s)), .it .i64 (m.moved : Int), .bo true, .it .i64 n]) t1
 have g2 : ∀ j, j ≠ t → (R1.set t [.it .u64 m.seed, .it .i64 m.s0, .sc (slc m.b0 (2 ^ m.s0)), .it .i64 (s : Int), .sc (slc r.length (2 ^ s)), .it .i64 (m.moved : Int), .bo true, .it .i64 n])[j]? = R1[j]? := fun j hj => set_ne hj
 have l2 : (R1.set t [.it .u64 m.seed, .it .i64 m.s0, .sc (slc m.b0 (2 ^ m.s0)), .it .i64 (s : Int), .sc (slc r.length (2 ^ s)), .it .i64 (m.moved : Int), .bo true, .it .i64 n]).length = R1.length := List.length_set
 generalize R1.set t [.it .u64 m.seed, .it .i64 m.s0, .sc (slc m.b0 (2 ^ m.s0)), .it .i64 (s : Int), .sc (slc r.length (2 ^ s)), .it .i64 (m.moved : Int), .bo true, .it .i64 n] = R2 at e2 t2 g2 l2
 have e3 : rSto R2 (some (t, 5)) [.it .i64 0] = some (R2.set t ((m.part r.length s).cells n)) := by
  rw [rsto_at t2 (by simp)]; rfl
 have t3 := set_same (x := (m.part r.length s).cells n) t2
 have g3 : ∀ j, j ≠ t → (R2.set t ((m.part r.length s).cells n))[j]? = R2[j]? := fun j hj => set_ne hj
 have l3 : (R2.set t ((m.part r.length s).cells n)).length = R2.length := List.length_set
 generalize R2.set t ((m.part r.length s).cells n) = R3 at e3 t3 g3 l3
 have g : ∀ j, j ≠ t → R3[j]? = R[j]? := fun j hj => ((g3 j hj).trans (g2 j hj)).trans (g1 j hj)
 have gr : ∀ j, j ≠ t → j < r.length → R3[j]? = r[j]? := fun j hj hl => (g j hj).trans (hr1 j hl)
 have hall := part_all hm h2 r.length s
 refine ⟨R3, ?_, ⟨t3, ?_, fun _ => ?_, ?_⟩, ⟨by omega, fun k hk hkt => gr k (fun e => hkt (by simp [e])) hk⟩, by omega⟩
 ·unfold dict.Table_string.part
  rw [empty_eq r hs, Option.bind_some, need_isSome]
  simp only [rpAdd_some, need_isSome]
  rw [need_eq (by decide), hR, show 0 + 1 + 2 = 3 from rfl, e1, Option.bind_some, show 0 + 6 = 6 from rfl, e2, Option.bind_some, show 0 + 5 = 5 from rfl, e3]
  rfl
 ·refine h.h0.frame (gr _ (fun e => f1 (by simp [Tab.blocks, ← e])) (hlt _ (by simp [Tab.foot, Tab.blocks]))) fun x hx => ?_
  have hx' : x ∈ m.all := List.mem_append_left _ hx
  exact gr _ (fun e => f2 (e ▸ mem_ids hx')) (hlt _ (List.mem_append_right _ (mem_ids hx')))
 ·refine hN.frame (g _ (by omega)) fun x hx => ?_
  rw [flatten_replicate_nil] at hx
  cases hx
 ·show (t :: [m.b0, r.length] ++ ids (m.part r.length s).all).Nodup
  rw [hall]
  have hold : (m.foot t).Nodup := h.nd
  have e : m.foot t = t :: ([m.b0] ++ ids m.all) := by simp [Tab.foot, Tab.blocks, h2]
  have hp : (t :: [m.b0, r.length] ++ ids m.all).Perm (r.length :: m.foot t) := by
   rw [e]
   show (t :: m.b0 :: r.length :: ids m.all).Perm (r.length :: t :: m.b0 :: ids m.all)
   exact ((List.Perm.swap _ _ _).cons t).trans (List.Perm.swap _ _ _)
  rw [hp.nodup_iff, List.nodup_cons]
  exact ⟨fun hj => Nat.lt_irrefl _ (hlt _ hj), hold⟩

end Go.Pu
