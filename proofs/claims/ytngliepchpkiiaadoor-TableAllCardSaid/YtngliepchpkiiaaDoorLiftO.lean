/- Lift, part O: lists of data in slices; vectors of one's own; reserved names. -/
import Derived.Test.YtngliepchpkiiaaDoorLiftN
import Derived.Laws.MakeOwn
namespace Go.Lift
open Go.RowKit
variable {tp : Bool}

/-- The element at a place. -/
def ix {α : Type} [Inhabited α] (xs : List α) (i : Int) : α := xs.getD i.toNat default
/-- The elements from a place to another one. -/
def sub {α : Type} (xs : List α) (a b : Int) : List α := (xs.take b.toNat).drop a.toNat
/-- The byte at a place, as a number. -/
def bix (s : List UInt8) (i : Int) : Int := (s.getD i.toNat 0).toNat
/-- A place's element turned. -/
def upd {α : Type} (xs : List α) (i : Int) (x : α) : List α := xs.set i.toNat x
/-- A number as a byte. -/
def u8 (n : Int) : UInt8 := UInt8.ofNat n.toNat

theorem byteAV_u8 {n : Int} (h0 : 0 ≤ n) (h1 : n < 256) : byteAV (u8 n) = .int .u8 n := by
  unfold byteAV u8
  have : (UInt8.ofNat n.toNat).toNat = n.toNat := by
    rw [UInt8.toNat_ofNat']
    omega
  rw [this]
  congr 1
  omega

theorem map_ix {α : Type} [Inhabited α] {xs : List α} (f : α → AV) {i : Int} (h : 0 ≤ i ∧ i < xs.length) : (xs.map f).getD i.toNat .un = f (ix xs i) := by
  have hlt : i.toNat < xs.length := by omega
  simp [ix, List.getD, List.getElem?_eq_getElem hlt]

theorem map_sub {α : Type} {xs : List α} (f : α → AV) (a b : Int) : ((xs.map f).take b.toNat).drop a.toNat = (sub xs a b).map f := by
  simp [sub, List.map_drop, List.map_take]

section
variable {P : Program} {n : Nat} {ops : Array Oper} {o : Oper} {l l1 l2 : List Oper} {fr : Fr} {st : St} {K : Fr → St → Prop} {k : AV → St → Prop} {α : Type}

theorem pu_lenM {t e : TypeId} {x : Operand} {tok : Tok} {sz : Nat} {xs : List α} {f : α → AV} (ho : o.op = .call { callee := .builtin .len, args := #[x], argTypes := #[t] }) (ht : P.underlying t = some (.slice e)) (hx : AEv fr x (.sl tok sz (xs.map f)))
    : APure P n o fr (.int .i64 xs.length) := by
  have := pu_len (n := n) ho ht hx
  rwa [List.length_map] at this

theorem pu_indexAddrM [Inhabited α] {t e : TypeId} {x y : Operand} {tok : Tok} {sz : Nat} {xs : List α} {f : α → AV} {kk : IntKind} {i : Int} {cs : List AV} (ho : o.op = .indexAddr t x y) (ht : P.underlying t = some (.slice e)) (hsz : ∀ w, (sizeOf e).run P w = .ok sz w)
    (hx : AEv fr x (.sl tok sz (xs.map f))) (hy : AEv fr y (.int kk i)) (h : 0 ≤ i ∧ i < xs.length) (hcs : (f (ix xs i)).cells = cs) : APure P n o fr (.vptr cs) :=
  pu_indexAddr ho ht hsz hx hy h.1 (by rw [List.length_map]; exact h.2) (by rw [map_ix f h]; exact hcs)

theorem pu_strIdxM {t : TypeId} {x y : Operand} {s : List UInt8} {kk : IntKind} {i : Int} (ho : o.op = .index t x y) (ht : P.underlying t = some .string) (hx : AEv fr x (.str s)) (hy : AEv fr y (.int kk i))
    (h : 0 ≤ i ∧ i < s.length) : APure P n o fr (.int .u8 (bix s i)) := pu_strIdx ho ht hx hy h.1 h.2

theorem pu_strSliceM {t : TypeId} {x : Operand} {lo hi : Option Operand} {s : List UInt8} {a b : Int} (ho : o.op = .slice t x lo hi none) (ht : P.underlying t = some .string) (hx : AEv fr x (.str s))
    (hlo : OptInt fr lo 0 a) (hhi : OptInt fr hi s.length b) (h : 0 ≤ a ∧ a ≤ b ∧ b ≤ s.length) : APure P n o fr (.str (sub s a b)) := pu_strSlice ho ht hx hlo hhi h.1 h.2.1 h.2.2

theorem pu_sliceM {t e : TypeId} {x : Operand} {lo hi : Option Operand} {tok : Tok} {sz : Nat} {xs : List α} {f : α → AV} {a b : Int} (ho : o.op = .slice t x lo hi none) (ht : P.underlying t = some (.slice e)) (hsz : ∀ w, (sizeOf e).run P w = .ok sz w)
    (hx : AEv fr x (.sl tok sz (xs.map f))) (hlo : OptInt fr lo 0 a) (hhi : OptInt fr hi xs.length b) (h : 0 ≤ a ∧ a ≤ b ∧ b ≤ xs.length) : APure P n o fr (.sl .no sz ((sub xs a b).map f)) :=
  pu_slice ho ht hsz hx hlo (by rw [List.length_map]; exact hhi) h.1 h.2.1 (by rw [List.length_map]; exact h.2.2) (map_sub f a b)

theorem op_appendFM {s x : Operand} {t u e : TypeId} {i : TypeInfo} {z : Value} {d : TypeDesc} {sz : Nat} {xs ys : List α} {f : α → AV} (ho : o.op = .call { callee := .builtin .append, args := #[s, x], argTypes := #[t, u] })
    (ht : P.underlying t = some (.slice e)) (hu : P.underlying u = some d) (hd : d = .slice e ∨ d = .string) (hi : ∀ w, (typeInfo e).run P w = .ok i w) (hz : i.zero = some z) (hzs : z.cells.size = i.size) (hsz : i.size = sz) (hb0 : 0 < i.bytes)
    (hs : AEv fr s (.sl .full sz (xs.map f))) (hx : ∀ n g w a, FRel n g w a fr → Given P g w sz (a.eval x) (ys.map f)) (hbytes : (xs.length + ys.length) * i.bytes ≤ 140737488355328)
    (hk : ∀ t', k (.sl (.own t') sz ((xs ++ ys).map f)) ((t', .spare) :: st)) : AOp P n o fr st k :=
  op_appendF ho ht hu hd hi hz hzs hsz hs hx (by rw [List.length_map, List.length_map]; exact hbytes) hb0 (fun t' => by rw [← List.map_append]; exact hk t')

theorem op_appendOM {s x : Operand} {t u e : TypeId} {i : TypeInfo} {z : Value} {d : TypeDesc} {sz tk q : Nat} {xs ys : List α} {f : α → AV} (ho : o.op = .call { callee := .builtin .append, args := #[s, x], argTypes := #[t, u] })
    (ht : P.underlying t = some (.slice e)) (hu : P.underlying u = some d) (hd : d = .slice e ∨ d = .string) (hi : ∀ w, (typeInfo e).run P w = .ok i w) (hz : i.zero = some z) (hzs : z.cells.size = i.size) (hsz : i.size = sz) (hb0 : 0 < i.bytes)
    (hs : AEv fr s (.sl (.own tk) sz (xs.map f))) (hg : st[q]? = some (tk, .spare)) (hx : ∀ n g w a, FRel n g w a fr → Given P g w sz (a.eval x) (ys.map f)) (hbytes : (xs.length + ys.length) * i.bytes ≤ 140737488355328)
    (hk : ∀ t', k (.sl (.own t') sz ((xs ++ ys).map f)) (st.set q (t', .spare))) : AOp P n o fr st k :=
  op_appendO ho ht hu hd hi hz hzs hsz hs hg hx (by rw [List.length_map, List.length_map]; exact hbytes) hb0 (fun t' => by rw [← List.map_append]; exact hk t')

end

/-! ### Reserved names -/
theorem Rel.settle {E : Env} {st : St} {g : Gh} {w : World} {t p : Nat} {ob : AObj} (h : Rel E ((t, ob) :: (p, .resv) :: st) g w) :
    ∃ g', g'.ob p = g.ob t ∧ Rel E ((p, ob) :: st) g' w ∧ GLe g w g' w := by
  have hsw : Rel E ((p, .resv) :: (t, ob) :: st) g w := h.perm (List.Perm.swap ..)
  obtain ⟨hp, hn, hob, hst⟩ := hsw.put_resv (g.ob t)
  have hne : t ≠ p := fun e => hn ob (by rw [← e]; exact List.mem_cons_self ..)
  obtain ⟨h1, hl⟩ := hsw.drop.grow' (g' := g.put p (g.ob t)) (w' := w) rfl rfl rfl (Nat.le_refl _) (fun _ _ => rfl) (fun _ _ hp => hp) (fun _ _ hp => .inl hp) hob hst (g.put_fresh _ _ h.fresh)
  refine ⟨_, g.put_same _ _, h1.drop.cons p _ (fun x hm => hn x (List.mem_cons_of_mem _ hm)) ?_ ?_ ?_, hl⟩
  · have := h1.ok t ob (List.mem_cons_self ..)
    rw [hst t ob (List.mem_cons_self ..)] at this
    rw [g.put_same]
    exact this
  · intro o' x hm b off
    have := h1.dis t ob o' x (List.mem_cons_self ..) (List.mem_cons_of_mem _ hm) (fun e => (List.nodup_cons.1 h1.nd).1 (List.mem_map.2 ⟨_, hm, e.symm⟩)) b off
    rw [hst t ob (List.mem_cons_self ..)] at this
    rw [g.put_same]
    exact this
  · intro b off
    have := h1.npc t ob (List.mem_cons_self ..) b off
    rw [hst t ob (List.mem_cons_self ..)] at this
    rw [g.put_same]
    exact this

section
variable {P : Program} {n : Nat} {ops : Array Oper} {o : Oper} {l : List Oper} {c : Code} {fr : Fr} {st st1 : St} {K : Fr → St → Prop} {k : AV → St → Prop} {Q : Post}

theorem aop_settleS {p sz : Nat} {xs : List AV} (h : AOp P n o fr st (fun v st' => ∃ t, v = .sl (.own t) sz xs ∧ st' = (t, .spare) :: (p, .resv) :: st1)) (hk : k (.sl (.own p) sz xs) ((p, .spare) :: st1)) : AOp P n o fr st k := by
  intro E F a w g next Q hf hr hq
  refine h E F a w g next Q hf hr ?_
  rintro v av st' w' g' ⟨t, rfl, rfl⟩ hv hr' hl
  have hok := hr'.ok t _ (List.mem_cons_self ..)
  obtain ⟨g2, h1, h2, h3⟩ := Rel.settle (st := st1 ++ F) hr'
  cases hv with
  | @sl A nn c _ _ _ b off cv hn hc hm hA hw hz hcell hrd ht =>
    refine hq _ _ _ w' g2 hk (.sl b off cv hn hc hm hA hw hz (fun j q hj hq' => ⟨(h3.pc _ _ (hcell j q hj hq').1).1, (h3.pc _ _ (hcell j q hj hq').1).2.trans (hcell j q hj hq').2⟩) (fun j q hj hq' => (hrd j q hj hq').mono h3) ?_) h2 (hl.trans h3)
    show g2.ob p = _
    rw [h1]
    exact ht

theorem aop_settleP {p : Nat} {cs : List AV} (h : AOp P n o fr st (fun v st' => ∃ t, v = .ptr t 0 ∧ st' = (t, .cells cs) :: (p, .resv) :: st1)) (hk : k (.ptr p 0) ((p, .cells cs) :: st1)) : AOp P n o fr st k := by
  intro E F a w g next Q hf hr hq
  refine h E F a w g next Q hf hr ?_
  rintro v av st' w' g' ⟨t, rfl, rfl⟩ hv hr' hl
  obtain ⟨g2, h1, h2, h3⟩ := Rel.settle (st := st1 ++ F) hr'
  cases hv with
  | @ptr b _ off hp =>
    refine hq _ _ _ w' g2 hk (.ptr 0 ?_) h2 (hl.trans h3)
    rw [h1]
    exact hp

/-- A name is reserved. -/
theorem aw_reserve (h : ∀ p, AW tp P n c fr ((p, .resv) :: st) Q) : AW tp P n c fr st Q := by
  intro ρ hρ E F M a w g Q' hf hr q1 q2 q3
  obtain ⟨p, g', h1, hl1⟩ := hr.reserve
  exact h p ρ hρ E F M a w g' Q' (hf.mono hl1) h1 (fun _ _ _ _ _ _ k hf hr hl => q1 _ _ _ _ _ _ k hf hr (hl1.trans hl)) (fun _ _ _ _ _ _ _ k hf hr hl => q2 _ _ _ _ _ _ _ k hf hr (hl1.trans hl)) (fun _ _ _ _ _ _ k hf hr hl => q3 _ _ _ _ _ _ k hf hr (hl1.trans hl))

/-! ### Vectors of one's own -/
theorem Rel.vec {E : Env} {g : Gh} {w : World} (h : Rel E st g w) (arr : Array Value) (T : TypeId) (sz c : Nat) (xs : List AV) (hs : arr.size = c * sz) (hc : c ≤ maxLen) (hx : xs.length ≤ c) (hz : 0 < sz) (he : ∀ x, x ∈ xs → x.elt sz = true)
    (hr : ∀ j k, j < xs.length → k < sz → Reads g w (arr.getD (j * sz + k) undef) ((xs.getD j .un).cells.getD k .un)) :
    ∃ o g', g'.ob o = .vec w.heap.size xs.length c sz ∧ Rel E ((o, .vec sz xs) :: st) g' (w.alloc (.cells arr T)) ∧ GLe g w g' (w.alloc (.cells arr T)) := by
  obtain ⟨o, ho, hn⟩ := h.newName
  have hold : ∀ k, k < w.heap.size → (w.alloc (.cells arr T)).heap[k]? = w.heap[k]? := fun k hk => Below.heap_alloc w _ k hk
  obtain ⟨h1, hl⟩ := h.grow (g' := g.put o (.vec w.heap.size xs.length c sz)) (w' := w.alloc (.cells arr T)) rfl rfl rfl (by simp) hold (fun _ _ hp => hp) (fun _ _ hp => .inl hp) (g.put_old _ ho) (g.put_fresh _ _ h.fresh)
  refine ⟨o, _, g.put_same _ _, h1.cons o _ hn ?_ ?_ ?_, hl⟩
  · rw [g.put_same]
    exact ⟨rfl, rfl, hx, hc, hz, he, fun _ => ⟨h.hB, arr, Blk.new w arr T, hs, fun j k hj hk => (hr j k hj hk).mono hl⟩⟩
  · intro o' x hm b off
    rw [g.put_same]
    rintro ⟨⟨_, rfl⟩, h2⟩
    rw [g.put_other _ (fun e => hn x (by rw [← e]; exact hm))] at h2
    exact Nat.lt_irrefl _ (h.owns_lt hm h2)
  · intro b off
    rw [g.put_same]
    rintro ⟨_, rfl⟩ hp
    exact Nat.lt_irrefl _ (h.pc_lt hp)

/-- One element of a vector is written, a part of it. -/
theorem Rel.storeE {E : Env} {g : Gh} {w : World} {p b nn c sz q kk : Nat} {xs : List AV} {vs : List Value} {avs : List AV} {y : AV} (h : Rel E ((p, .vec sz xs) :: st) g w) (hp : g.ob p = .vec b nn c sz) (hq : q < xs.length)
    (hl : vs.length = avs.length) (hle : kk + avs.length ≤ sz) (hc : avs.all AV.isCell = true) (hr : ∀ j, j < avs.length → Reads g w (vs.getD j undef) (avs.getD j .un)) (hy : y.cells = splice (xs.getD q .un).cells kk avs) (P : Program) :
    ∃ w', (storeCells ⟨b, q * sz + kk, Option.none⟩ vs).run P w = .ok () w' ∧ Rel E ((p, .vec sz (xs.set q y)) :: st) g w' ∧ GLe g w g w' := by
  have hok := h.ok p _ (List.mem_cons_self ..)
  have hn : ∀ x, (p, x) ∉ st := fun x hm => (List.nodup_cons.1 h.nd).1 (List.mem_map.2 ⟨_, hm, rfl⟩)
  have hd := fun o' x (hm : (o', x) ∈ st) => h.dis p _ o' x (List.mem_cons_self ..) (List.mem_cons_of_mem _ hm) (fun e => hn x (by rw [e]; exact hm))
  have hnp := h.npc p _ (List.mem_cons_self ..)
  rw [hp] at hok
  obtain ⟨_, hnn, hnc, hcm, hz, he, hok⟩ := hok
  have h0c : 0 < c := by omega
  obtain ⟨hB, arr, hb, hs, hrd⟩ := hok h0c
  have hqc : q * sz + sz ≤ c * sz := by
    have : (q + 1) * sz ≤ c * sz := Nat.mul_le_mul_right _ (by omega)
    rw [Nat.add_mul] at this; omega
  have hsz : q * sz + kk + 0 + vs.length ≤ arr.size := by omega
  have h1 : ∀ v ∈ vs, v.oneCell' = true := fun v hv => by
    obtain ⟨j, hj, rfl⟩ := List.mem_iff_getElem.1 hv
    have := hr j (by omega)
    have e : vs.getD j undef = vs[j] := by simp [List.getD, List.getElem?_eq_getElem hj]
    rw [e] at this
    refine this.oneCell ?_
    rw [List.all_eq_true] at hc
    have hj' : j < avs.length := by omega
    have e2 : avs.getD j .un = avs[j] := by simp [List.getD, List.getElem?_eq_getElem hj']
    rw [e2]
    exact hc _ (List.getElem_mem hj')
  have run := run_storeCells_blk P b (q * sz + kk) vs 0 arr w hb hsz h1
  rw [Nat.add_zero] at run
  have hsize : (spliceA arr (q * sz + kk) vs).size = arr.size := spliceA_size (by omega)
  obtain ⟨h2, hle2⟩ := h.write (g' := g) b arr (spliceA arr (q * sz + kk) vs) hb hsize hB 0 (by rw [hp]; exact ⟨h0c, rfl⟩) (fun o hpc => absurd hpc (hnp b o (by rw [hp]; exact ⟨h0c, rfl⟩)))
    (fun _ _ h => h) (fun _ _ h => .inl h) (fun _ _ => rfl) h.fresh
  refine ⟨_, run, h2.cons p _ hn ?_ hd hnp, hle2⟩
  rw [hp]
  obtain ⟨e1, e2⟩ := elt_spec (he _ (by simp [List.getD, List.getElem?_eq_getElem hq] : xs.getD q .un ∈ xs))
  have hylen : y.cells.length = sz := by rw [hy, splice_length (by omega), e1]
  have hyall : y.cells.all AV.isCell = true := by rw [hy]; exact splice_cells e2 hc
  refine ⟨rfl, by rw [List.length_set]; exact hnn, hnc, hcm, hz, fun x hx => ?_, fun _ => ⟨hB, _, hb.setRow hsize, by rw [hsize, hs], fun j k' hj hk' => ?_⟩⟩
  · rcases List.mem_or_eq_of_mem_set hx with hx | rfl
    · exact he x hx
    · simp [AV.elt, hylen, hyall]
  · rw [List.length_set] at hj
    rw [spliceA_get (by omega)]
    by_cases hjq : j = q
    · subst hjq
      have e3 : (xs.set j y).getD j .un = y := by simp [List.getD, hj]
      rw [e3, hy, splice_get (by omega)]
      by_cases h3 : kk ≤ k' ∧ k' < kk + avs.length
      · rw [if_pos (by omega), if_pos h3, show j * sz + k' - (j * sz + kk) = k' - kk by omega]
        exact (hr (k' - kk) (by omega)).mono hle2
      · rw [if_neg (by omega), if_neg h3]
        exact (hrd j k' hj hk').mono hle2
    · have e3 : (xs.set q y).getD j .un = xs.getD j .un := by simp [List.getD, List.getElem?_set_ne (Ne.symm hjq)]
      rw [e3, if_neg]
      · exact (hrd j k' hj hk').mono hle2
      · rintro ⟨h3, h4⟩
        rcases Nat.lt_or_gt_of_ne hjq with h5 | h5
        · have : (j + 1) * sz ≤ q * sz := Nat.mul_le_mul_right _ h5
          rw [Nat.add_mul] at this; omega
        · have : (q + 1) * sz ≤ j * sz := Nat.mul_le_mul_right _ h5
          rw [Nat.add_mul] at this; omega

theorem op_storeE {T : TypeId} {x y : Operand} {p q kk i sz m : Nat} {xs : List AV} {v u : AV} (ho : o.op = .store T x y) (hsz : ∀ w, (sizeOf T).run P w = .ok m w) (hx : AEv fr x (.eptr p q kk)) (hy : AEv fr y v)
    (hg : st[i]? = some (p, .vec sz xs)) (hq : q < xs.length) (hm : v.cells.length = m) (hc : v.cells.all AV.isCell = true) (hle : kk + m ≤ sz) (hu : u.cells = splice (xs.getD q .un).cells kk v.cells) (hk : k .un (st.set i (p, .vec sz (xs.set q u)))) : AOp P n o fr st k :=
  AOp.of_skip fun E F a w g hf hr => by
    have h := hx n g w a hf
    have hv := hy n g w a hf
    generalize hcv : a.eval x = cv at h
    cases h with
    | @eptr b nn c sz' _ _ _ hp =>
      have hok := hr.ok p _ (mem_of_get hg)
      rw [hp] at hok
      obtain ⟨rfl, _⟩ := hok
      subst hm
      have hvs := hv.cells_size hc
      obtain ⟨w', h1, h2, h3⟩ := (hr.focus hg).storeE (q := q) (kk := kk) (vs := (a.eval y).cells.toList) (avs := v.cells) (y := u) hp hq (by simpa using hvs) hle hc (fun j hj => by
        have := hv.cells_at hc j hj
        simpa [List.getD, Array.getD_eq_getD_getElem?] using this) hu P
      refine ⟨w', g, _, ?_, hk, h2.unfocus hg, h3⟩
      simp [execOp, ho, hcv, Instr.storeAt, Instr.sureAddr, storeVar, hsz, hvs, h1]

/-- A vector is written no more: a slice to read. -/
theorem rel_publish {E : Env} {g : Gh} {w : World} {p sz : Nat} {xs : List AV} (h : Rel E ((p, .vec sz xs) :: st) g w) :
    ∃ g', (∀ v, Reads g w v (.vec p) → Reads g' w v (.sl .no sz xs)) ∧ Rel E st g' w ∧ GLe g w g' w := by
  have hok := h.ok p _ (List.mem_cons_self ..)
  cases hp : g.ob p with
  | vec b nn c sz' =>
    rw [hp] at hok
    obtain ⟨e, hnn, hnc, hcm, hz, he, hok⟩ := hok
    subst e
    refine (Nat.eq_zero_or_pos c).elim (fun hc0 => ?_) (fun h0c => ?_)
    · skip
      have hn0 : nn = 0 := by omega
      have hx0 : xs = [] := List.eq_nil_of_length_eq_zero (by omega)
      subst hc0 hn0 hx0
      refine ⟨g, fun v hv => ?_, h.drop, GLe.refl _ _⟩
      have all : ∀ A, Reads g w (.slice A 0 0) (.sl .no sz' []) := fun A => .sl 0 0 (fun _ _ => undef) rfl (Nat.le_refl _) (Nat.zero_le _) (.inr ⟨rfl, rfl⟩) (by simp) hz (by simp) (by simp) trivial
      cases hv with
      | vec hp' => rw [hp] at hp'; cases hp'; exact all _
      | vec0 hp' => exact all _
    obtain ⟨hB, arr, hb, hs, hrd⟩ := hok h0c
    have hself : w.setRow b arr = w := by
      obtain ⟨T, fz, hh, _⟩ := hb
      exact setRow_self w b arr T fz hh
    obtain ⟨h2, hl⟩ := h.write (g' := g.prot fun b' off => b' = b ∧ off < arr.size) b arr arr hb rfl hB 0 (by rw [hp]; exact ⟨h0c, rfl⟩) (fun _ _ => rfl) (fun _ _ h => .inl h)
      (fun b' off hpc => hpc.elim .inl (fun ⟨e, hlt⟩ => .inr ⟨e, by rw [hp]; exact ⟨h0c, rfl⟩, hlt⟩)) (fun _ _ => rfl) h.fresh
    rw [hself] at h2 hl
    refine ⟨_, fun v hv => ?_, h2, hl⟩
    cases hv with
    | vec hp' =>
      rw [hp] at hp'
      cases hp'
      refine .sl b 0 (fun j k => arr.getD (j * sz' + k) undef) hnn hnc hcm (.inl rfl) he hz (fun j k hj hk => ?_) (fun j k hj hk => (hrd j k hj hk).mono hl) trivial
      have hlt : 0 + j * sz' + k < arr.size := by rw [hs, Nat.zero_add]; exact idx_lt (by omega) hk
      refine ⟨.inr ⟨rfl, hlt⟩, ?_⟩
      rw [hb.cell, Array.getElem?_eq_getElem hlt]
      simp [Array.getD_eq_getD_getElem?, Array.getElem?_eq_getElem (show j * sz' + k < arr.size by omega)]
    | vec0 hp' =>
      rw [hp] at hp'
      cases hp'
      omega
  | _ => rw [hp] at hok; exact hok.elim

theorem aw_publish (i q : Nat) {p sz : Nat} {xs : List AV} (h : AEv fr (.tmp i) (.vec p)) (hg : st[q]? = some (p, .vec sz xs)) (hk : AW tp P n c ((i, .sl .no sz xs) :: fr) (st.eraseIdx q) Q) : AW tp P n c fr st Q := by
  intro ρ hρ E F M a w g Q' hf hr q1 q2 q3
  obtain ⟨g', h1, h2, h3⟩ := rel_publish (hr.focus hg)
  exact hk ρ hρ E F M a w g' Q' (frel_set (hf.mono h3) (h1 _ (h n g w a hf))) h2 (fun fr st M a w g k hf hr hl => q1 _ _ _ _ _ _ k hf hr (h3.trans hl)) (fun i fr st M a w g k hf hr hl => q2 _ _ _ _ _ _ _ k hf hr (h3.trans hl)) (fun fr st M a w g k hf hr hl => q3 _ _ _ _ _ _ k hf hr (h3.trans hl))

theorem aops_publish (i q : Nat) {p sz : Nat} {xs : List AV} (h : AEv fr (.tmp i) (.vec p)) (hg : st[q]? = some (p, .vec sz xs)) (hk : AOps P n ops l ((i, .sl .no sz xs) :: fr) (st.eraseIdx q) K) : AOps P n ops l fr st K := by
  intro E F a w g Q' next hf hr q1
  obtain ⟨g', h1, h2, h3⟩ := rel_publish (hr.focus hg)
  exact hk E F a w g' Q' next (frel_set (hf.mono h3) (h1 _ (h n g w a hf))) h2 (fun fr st a w g k hf hr hl => q1 _ _ _ _ _ k hf hr (h3.trans hl))

end
end Go.Lift
