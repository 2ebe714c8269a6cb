/- Lift, part H: literals of slices, append. -/
import Derived.Test.YtngliepchpkiiaaDoorLiftG
namespace Go.Lift
open Go.RowKit

/-- A new row whose first cells nobody writes any more; the room behind has a name. -/
theorem Rel.row {E : Env} {st : St} {g : Gh} {w : World} (h : Rel E st g w) (arr : Array Value) (T : TypeId) (q hi : Nat) (hq : q ≤ arr.size) (hqh : q ≤ hi) (hh : hi ≤ arr.size) :
    ∃ t g', g'.ob t = .spare w.heap.size q hi ∧ (∀ off, off < q → g'.pc w.heap.size off) ∧ Rel E ((t, .spare) :: st) g' (w.alloc (.cells arr T)) ∧ GLe g w g' (w.alloc (.cells arr T)) := by
  obtain ⟨t, ht, hn⟩ := h.newName
  have hold : ∀ k, k < w.heap.size → (w.alloc (.cells arr T)).heap[k]? = w.heap[k]? := fun k hk => Below.heap_alloc w _ k hk
  have hblk := Blk.new w arr T
  obtain ⟨h1, hl⟩ := h.grow (g' := (g.put t (.spare w.heap.size q hi)).prot (fun b off => b = w.heap.size ∧ off < q)) (w' := w.alloc (.cells arr T)) rfl rfl rfl (by simp) hold
    (fun _ _ hp => .inl hp) (fun b off hp => hp.elim .inl (fun hp => .inr ⟨by omega, by
      obtain ⟨rfl, hlt⟩ := hp
      rw [hblk.cell, Array.getElem?_eq_getElem (by omega)]; rfl⟩)) (g.put_old _ ht) (g.put_fresh _ _ h.fresh)
  have hob : ((g.put t (.spare w.heap.size q hi)).prot (fun b off => b = w.heap.size ∧ off < q)).ob t = .spare w.heap.size q hi := g.put_same _ _
  refine ⟨t, _, hob, fun off ho => .inr ⟨rfl, ho⟩, h1.cons t _ hn ?_ ?_ ?_, hl⟩
  · rw [hob]
    by_cases e : q = hi
    · exact .inl e
    · exact .inr ⟨by omega, h.hB, arr, hblk, hh⟩
  · intro o' x hm b off
    rw [hob]
    rintro ⟨⟨rfl, _⟩, h2⟩
    have h3 : (g.put t (.spare w.heap.size q hi)).ob o' = g.ob o' := g.put_other _ (fun e => hn x (by rw [← e]; exact hm))
    have h2' : ((g.put t (.spare w.heap.size q hi)).ob o').owns w.heap.size off := h2
    rw [h3] at h2'
    exact Nat.lt_irrefl _ (h.owns_lt hm h2')
  · intro b off
    rw [hob]
    rintro ⟨rfl, h4, h5⟩ hp
    rcases hp with hp | ⟨_, hp⟩
    · exact Nat.lt_irrefl _ (h.pc_lt hp)
    · omega

/-- What is laid in a new row reads as a slice. -/
theorem Reads.ofRow {g g' : Gh} {w w' : World} {sz : Nat} {vs : List Value} {xs : List AV} {b : Nat} {arr : Array Value} {c : Nat} {tok : Tok} (hl : GLe g w g' w') (hf : Flat g w sz vs xs) (hb : Blk w' b arr)
    (hpre : ∀ j, j < vs.length → arr.getD j undef = vs.getD j undef) (hs : vs.length ≤ arr.size) (hpc : ∀ off, off < vs.length → g'.pc b off) (hc : xs.length ≤ c) (hm : c ≤ maxLen) (ht : TokOk g' b 0 xs.length c sz tok) :
    Reads g' w' (.slice (some ⟨b, 0, Option.none⟩) xs.length c) (.sl tok sz xs) := by
  refine .sl b 0 (fun j k => vs.getD (j * sz + k) undef) rfl hc hm (.inl rfl) hf.elt hf.hz (fun j k hj hk => ?_) (fun j k hj hk => (hf.rd j k hj hk).mono hl) ht
  have hlt : j * sz + k < vs.length := by rw [hf.len]; exact idx_lt hj hk
  rw [Nat.zero_add]
  refine ⟨hpc _ hlt, ?_⟩
  rw [hb.cell, Array.getElem?_eq_getElem (by omega), ← hpre _ hlt]
  simp [Array.getD_eq_getD_getElem?, Array.getElem?_eq_getElem (show j * sz + k < arr.size by omega)]

section
variable {P : Program} {n : Nat} {ops : Array Oper} {o : Oper} {l l1 l2 : List Oper} {fr : Fr} {st : St} {K : Fr → St → Prop} {k : AV → St → Prop}

theorem getD_flatMap {sz : Nat} : ∀ {xs : List AV}, (∀ x, x ∈ xs → x.elt sz = true) → ∀ j q, j < xs.length → q < sz → (xs.flatMap AV.cells).getD (j * sz + q) .un = (xs.getD j .un).cells.getD q .un
  | [], _, j, q, hj, _ => absurd hj (Nat.not_lt_zero _)
  | x :: xs, h, j, q, hj, hq => by
    have e1 := (elt_spec (h x (by simp))).1
    cases j with
    | zero =>
      have : q < x.cells.length := by omega
      simp [List.getD, List.getElem?_append_left this]
    | succ j =>
      have ih := getD_flatMap (xs := xs) (fun y hy => h y (by simp [hy])) j q (by simpa using hj) hq
      have e2 : (j + 1) * sz + q = x.cells.length + (j * sz + q) := by rw [Nat.add_mul]; omega
      rw [e2]
      simpa [List.getD, List.getElem?_append_right] using ih

theorem length_flatMap {sz : Nat} : ∀ {xs : List AV}, (∀ x, x ∈ xs → x.elt sz = true) → (xs.flatMap AV.cells).length = xs.length * sz
  | [], _ => by simp
  | x :: xs, h => by
    have e1 := (elt_spec (h x (by simp))).1
    rw [List.flatMap_cons, List.length_append, e1, length_flatMap (fun y hy => h y (by simp [hy])), List.length_cons, Nat.add_mul]
    omega

/-- A literal of a slice: only to be read; there is no room behind. -/
theorem op_buildSlice {t e : TypeId} {len sz : Nat} {zv : Value} {parts : Array (Nat × Operand)} {aparts : List (Nat × AV)} {xs : List AV} (ho : o.op = .buildSlice t len parts) (ht : P.underlying t = some (.slice e))
    (hsz : ∀ w, (sizeOf e).run P w = .ok sz w) (hz : ∀ w, (zeroValue e).run P w = .ok zv w) (hsz0 : 0 < sz) (hbig : len * sz ≤ 16777216) (hps : PartsOk fr parts.toList aparts) (hlen : xs.length = len) (helt : xs.all (AV.elt sz) = true)
    (hfill : afill (fun i => some (i * sz, sz)) (List.replicate (len * sz) .un) aparts = some (xs.flatMap AV.cells)) (hk : k (.sl .full sz xs) st) : AOp P n o fr st k :=
  AOp.of_run fun E F a w g hf hr => by
    have helt' : ∀ x, x ∈ xs → x.elt sz = true := List.all_eq_true.1 helt
    obtain ⟨hl, hp⟩ := hps.reads hf
    generalize hzs : (Array.range (len * sz)).map (fun x => (if len * sz = 0 then #[] else zv.cells)[x % (if len * sz = 0 then #[] else zv.cells).size]!) = zs
    have hzs1 : zs.size = (List.replicate (len * sz) AV.un).length := by subst hzs; simp
    obtain ⟨cells, h1, h2, h3⟩ := fill_reads (g := g) (w := w) (cells := zs) hl hp hzs1 (fun j hj => by
      have : (List.replicate (len * sz) AV.un).getD j .un = .un := by simp [List.getD, List.getElem?_replicate]; split <;> rfl
      rw [this]; exact .un _) hfill
    have hcl : cells.size = len * sz := by rw [h2, length_flatMap helt', hlen]
    have hflat : Flat g w sz cells.toList xs := by
      refine ⟨by simp [hcl, hlen], hsz0, helt', fun j q hj hq => ?_⟩
      have hlt : j * sz + q < (xs.flatMap AV.cells).length := by rw [length_flatMap helt']; exact idx_lt hj hq
      have := h3 _ hlt
      rw [getD_flatMap helt' j q hj hq] at this
      simpa [List.getD, Array.getD_eq_getD_getElem?] using this
    obtain ⟨t', g', hob, hpc, hrel, hle⟩ := hr.row cells e cells.size cells.size (Nat.le_refl _) (Nat.le_refl _) (Nat.le_refl _)
    refine ⟨.slice (some ⟨w.heap.size, 0, Option.none⟩) len len, _, g', _, st, ?_, hk, ?_, hrel.drop, hle⟩
    · have hb : ¬ (16777216 < len * sz) := by omega
      simp only [execOp, ho, Instr.buildSlice, Sem.run_bind, run_underlying ht, Result.andThen_ok, hsz]
      have h1' : Instr.fill (fun i => some (i * sz, sz)) zs (parts.map fun (p : Nat × Operand) => (p.1, a.eval p.2)).toList = some cells := by simpa using h1
      by_cases h0 : len * sz = 0
      · simp [h0] at hzs
        subst hzs
        simp [h0] at h1'
        simp [h0, h1', newRow, newObj, Sem.run]
      · simp [h0] at hzs
        simp [h0, hb, hz, hzs] at h1' ⊢
        simp [h1', newRow, newObj, Sem.run]
    · have hlen' : xs.length = len := hlen
      have := Reads.ofRow (c := len) (tok := .full) hle hflat (Blk.new w cells e) (fun j hj => by simp [List.getD, Array.getD_eq_getD_getElem?]) (by simp) (fun off ho => hpc off (by simpa using ho)) (by omega)
        (by simp only [maxLen]; have := Nat.le_mul_of_pos_right len hsz0; omega) (by simp [TokOk, hlen'])
      rw [hlen'] at this
      exact this

end

/-! ### append -/
theorem run_append_in {P : Program} {w : World} (t u ty e : TypeId) (i : TypeInfo) (ht : P.underlying t = some (.slice e)) (d : TypeDesc) (hu : P.underlying u = some d) (hd : d = .slice e ∨ d = .string)
    (hi : P.info? e = some i) (b off n c : Nat) (arr : Array Value) (hb : Blk w b arr) (x : Value) (m : Nat) (news : List Value)
    (hlen : (Builtin.lenOf x).run P w = .ok m w) (hfc : (Builtin.firstCells i.size m x).run P w = .ok news.toArray w) (h1 : ∀ v ∈ news, v.oneCell' = true) (hroom : n + m ≤ c) (hfit : off + n * i.size + news.length ≤ arr.size) :
    (Builtin.append_ #[t, u] ty #[.slice (some ⟨b, off, Option.none⟩) n c, x]).run P w = .ok (.slice (some ⟨b, off, Option.none⟩) (n + m) c) (w.setRow b (spliceA arr (off + n * i.size) news)) := by
  have hst := run_storeCells_blk P b (off + n * i.size) news 0 arr w hb (by omega) h1
  rw [Nat.add_zero] at hst
  rcases hd with rfl | rfl <;> simp [Builtin.append_, run_underlying ht, run_underlying hu, sizeOf, typeInfo, hi, hlen, hroom, hfc, add_addr, hst]

theorem run_append_re {P : Program} {w : World} (t u ty e : TypeId) (i : TypeInfo) (z : Value) (ht : P.underlying t = some (.slice e)) (d : TypeDesc) (hu : P.underlying u = some d) (hd : d = .slice e ∨ d = .string)
    (hi : P.info? e = some i) (hz : i.zero = some z) (A : Option Addr) (n c : Nat) (x : Value) (m : Nat) (olds news : List Value) (hlen : (Builtin.lenOf x).run P w = .ok m w)
    (hfo : (Builtin.firstCells i.size n (.slice A n c)).run P w.drew = .ok olds.toArray w.drew) (hfc : (Builtin.firstCells i.size m x).run P w.drew = .ok news.toArray w.drew)
    (hg : c < n + m) (h63 : ((n + m : Nat) : Int) ≤ 9223372036854775807) (hfit : Builtin.nextslicecap (n + m) c * i.bytes ≤ 281474976710656) :
    (Builtin.append_ #[t, u] ty #[.slice A n c, x]).run P w =
      .ok (.slice (some ⟨w.heap.size, 0, Option.none⟩) (n + m) (grownCap w (n + m) c e)) (w.drew.alloc (.cells (olds.toArray ++ news.toArray ++ Builtin.zeroCells z.cells (grownCap w (n + m) c e - (n + m))) e)) := by
  have hn : ¬ (n + m ≤ c) := by omega
  have h63' : ¬ (9223372036854775807 < ((n : Int) + (m : Int))) := by omega
  have h48' : ¬ (281474976710656 < Builtin.nextslicecap (n + m) c * i.bytes) := by omega
  rcases hd with rfl | rfl <;> simp [Builtin.append_, run_underlying ht, run_underlying hu, sizeOf, typeInfo, zeroValue, hi, hz, hlen, hn, h63', h48', Question.forced, hfc, hfo, newRow, grownCap] <;> rw [← Array.append_assoc, show olds.toArray ++ news.toArray = (olds ++ news).toArray from by simp]

theorem run_append_zero {P : Program} {w : World} (t u ty e : TypeId) (i : TypeInfo) (ht : P.underlying t = some (.slice e)) (d : TypeDesc) (hu : P.underlying u = some d) (hd : d = .slice e ∨ d = .string)
    (hi : P.info? e = some i) (n c : Nat) (x : Value) (hlen : (Builtin.lenOf x).run P w = .ok 0 w) (hfc : (Builtin.firstCells i.size 0 x).run P w = .ok #[] w) (hnc : n ≤ c) (A : Option Addr) :
    (Builtin.append_ #[t, u] ty #[.slice A n c, x]).run P w = .ok (.slice A n c) w := by
  rcases hd with rfl | rfl <;> cases A <;> simp [Builtin.append_, run_underlying ht, run_underlying hu, sizeOf, typeInfo, hi, hlen, hnc, hfc, storeCells]

/-- What is appended: it has m elements, whose cells are vs. -/
def Given (P : Program) (g : Gh) (w : World) (sz : Nat) (x : Value) (ys : List AV) : Prop :=
  ∃ vs, Flat g w sz vs ys ∧ (∀ W, (Builtin.lenOf x).run P W = .ok ys.length W) ∧ ∀ W, W.heap = w.heap → (Builtin.firstCells sz ys.length x).run P W = .ok vs.toArray W

theorem Given.slice {P : Program} {g : Gh} {w : World} {A : Option Addr} {n c sz : Nat} {tok : Tok} {ys : List AV} (h : Reads g w (.slice A n c) (.sl tok sz ys)) : Given P g w sz (.slice A n c) ys := by
  obtain ⟨vs, h1, h2, h3, h4, h5, h6⟩ := h.flat
  refine ⟨vs, h1, fun W => by simp [Builtin.lenOf, h2], fun W hW => ?_⟩
  have := h6 W hW P
  rw [h2] at this ⊢
  exact this

/-- A string's bytes. -/
def byteAV (b : UInt8) : AV := .int .u8 b.toNat

theorem Given.str {P : Program} {g : Gh} {w : World} (s : List UInt8) : Given P g w 1 (.string ⟨s.toArray⟩) (s.map byteAV) := by
  refine ⟨s.map fun b => .int .u8 b.toNat, ⟨by simp, by omega, ?_, fun j q hj hq => ?_⟩, fun W => by simp [Builtin.lenOf, bs_size], fun W hW => ?_⟩
  · intro y hy
    obtain ⟨b, _, rfl⟩ := List.mem_map.1 hy
    rfl
  · obtain rfl : q = 0 := by omega
    have hj' : j < s.length := by simpa using hj
    have e1 : (s.map fun b => Value.int .u8 b.toNat).getD (j * 1 + 0) undef = .int .u8 s[j].toNat := by simp [List.getD, List.getElem?_eq_getElem hj']
    have e2 : ((s.map byteAV).getD j .un) = .int .u8 s[j].toNat := by simp [List.getD, List.getElem?_eq_getElem hj', byteAV]
    rw [e1, e2]
    exact .int _ _
  · simp [Builtin.firstCells]

def Tok.name : Tok → Option Nat
  | .own t => some t
  | _ => none

/-- The store behind an append: the old name of the room is gone. -/
def St.take (st : St) : Tok → Option Nat → Option St
  | .full, _ => some st
  | .own t, some i => match st[i]? with
    | some (t', .spare) => if t' = t then some (st.eraseIdx i) else none
    | _ => none
  | _, _ => none

theorem append_core {P : Program} {E : Env} {st : St} {g : Gh} {w : World} {t u ty e : TypeId} {i : TypeInfo} {z : Value} (ht : P.underlying t = some (.slice e)) (d : TypeDesc) (hu : P.underlying u = some d) (hd : d = .slice e ∨ d = .string)
    (hi : P.info? e = some i) (hz : i.zero = some z) (hzs : z.cells.size = i.size) {A : Option Addr} {nn c : Nat} {tok : Tok} {xs ys : List AV} {x : Value}
    (hb : Reads g w (.slice A nn c) (.sl tok i.size xs)) (hx : Given P g w i.size x ys) (hbytes : (xs.length + ys.length) * i.bytes ≤ 140737488355328) (h63 : xs.length + ys.length ≤ maxLen)
    (hst : match tok with | .no => False | .full => Rel E st g w | .own t => Rel E ((t, .spare) :: st) g w) :
    ∃ v w' g' t', (Builtin.append_ #[t, u] ty #[.slice A nn c, x]).run P w = .ok v w' ∧ Reads g' w' v (.sl (.own t') i.size (xs ++ ys)) ∧ Rel E ((t', .spare) :: st) g' w' ∧ GLe g w g' w' := by
  obtain ⟨news, hfl, hlen, hfc⟩ := hx
  have hrel : Rel E st g w := by
    cases tok with
    | no => exact hst.elim
    | full => exact hst
    | own t => exact hst.drop
  obtain ⟨olds, hofl, hn, hnc, hcm, hA0, hfo⟩ := hb.flat
  have hz0 := hofl.hz
  by_cases hgrow : c < nn + ys.length
  · -- a new row
    have hrun := run_append_re (w := w) t u ty e i z ht d hu hd hi hz A nn c x ys.length olds news (hlen w) (hfo w.drew rfl P) (hfc w.drew rfl) hgrow (by simp only [maxLen] at h63; omega) (growslice_fits hgrow (by rw [hn]; exact hbytes))
    generalize hcap : grownCap w (nn + ys.length) c e = cap at hrun
    have hcap1 : nn + ys.length ≤ cap := hcap ▸ grownCap_ge w _ _ _
    have hcap2 : cap ≤ maxLen := hcap ▸ grownCap_le_maxLen w _ _ _ (by rw [hn]; exact h63)
    generalize harr : olds.toArray ++ news.toArray ++ Builtin.zeroCells z.cells (cap - (nn + ys.length)) = arr at hrun
    have hol : olds.length = nn * i.size := by rw [hofl.len, hn]
    have hsize : arr.size = cap * i.size := by
      subst harr
      simp only [Array.size_append, List.size_toArray, size_zeroCells, hzs, hol, hfl.len, ← Nat.add_mul]
      congr 1; omega
    have hfit : (olds ++ news).length ≤ arr.size := by
      rw [hsize, List.length_append, hol, hfl.len, ← Nat.add_mul]
      exact Nat.mul_le_mul_right _ hcap1
    obtain ⟨h1, hl1⟩ := hrel.drew
    obtain ⟨t', g', hob, hpc, hrel', hl2⟩ := h1.row arr e (olds ++ news).length (cap * i.size) hfit (by rw [← hsize]; exact hfit) (by omega)
    refine ⟨_, _, g', t', hrun, ?_, hrel', hl1.trans hl2⟩
    have hlen2 : (xs ++ ys).length = nn + ys.length := by rw [List.length_append, hn]
    have := Reads.ofRow (c := cap) (tok := .own t') hl2 ((hofl.append hfl).mono hl1) (Blk.new w.drew arr e) (fun j hj => by
      subst harr
      have : j < (olds ++ news).toArray.size := by simpa using hj
      simp only [List.append_toArray] at *
      rw [Array.getD_eq_getD_getElem?, Array.getElem?_append_left (by simpa using hj)]
      simp [List.getD]) hfit hpc (by rw [hlen2]; exact hcap1) hcap2 (by
        show g'.ob t' = _
        rw [hob, hlen2, List.length_append, hol, hfl.len, ← Nat.add_mul]
        simp)
    rw [hlen2] at this
    exact this
  · by_cases hm0 : ys = []
    · -- nothing is appended
      subst hm0
      have hne : news = [] := List.eq_nil_of_length_eq_zero (by rw [hfl.len]; simp)
      subst hne
      have hrun := run_append_zero (w := w) t u ty e i ht d hu hd hi nn c x (hlen w) (hfc w rfl) hnc A
      rw [List.append_nil]
      cases tok with
      | no => exact hst.elim
      | own t => exact ⟨_, _, g, t, hrun, hb, hst, GLe.refl _ _⟩
      | full =>
        cases hb with
        | sl b off cv hn2 hc2 hm2 hA hw hz2 hcell hr htk =>
          obtain ⟨t', ht', hnn⟩ := hrel.newName
          have hcn : c = nn := htk
          obtain ⟨h1, hl1⟩ := hrel.grow (g' := g.put t' (.spare b (off + nn * i.size) (off + c * i.size))) (w' := w) rfl rfl rfl (Nat.le_refl _) (fun _ _ => rfl) (fun _ _ h => h) (fun _ _ h => .inl h) (g.put_old _ ht') (g.put_fresh _ _ hrel.fresh)
          refine ⟨_, w, g.put t' (.spare b (off + nn * i.size) (off + c * i.size)), t', hrun, .sl b off cv hn2 hc2 hm2 hA hw hz2 hcell (fun j q hj hq => (hr j q hj hq).mono hl1) (g.put_same _ _), h1.cons t' _ hnn ?_ ?_ ?_, hl1⟩
          · rw [g.put_same]; left; rw [hcn]
          · intro o' x' hm' b' off'
            rw [g.put_same]
            rintro ⟨⟨_, h2, h3⟩, _⟩
            rw [hcn] at h3; omega
          · intro b' off'
            rw [g.put_same]
            rintro ⟨_, h2, h3⟩
            rw [hcn] at h3; omega
    · -- there is room
      have hylen : 0 < ys.length := List.length_pos_iff.2 hm0
      cases tok with
      | no => exact hst.elim
      | full =>
        cases hb with
        | sl b off cv hn2 hc2 hm2 hA hw hz2 hcell hr htk => 
          have hcn : c = nn := htk
          omega
      | own t =>
        cases hb with
        | sl b off cv hn2 hc2 hm2 hA hw hz2 hcell hr htk =>
          have hob : g.ob t = .spare b (off + nn * i.size) (off + c * i.size) := htk
          have hA' : A = some ⟨b, off, Option.none⟩ := hA.resolve_right (fun h => by omega)
          subst hA'
          have hok := hst.ok t _ (List.mem_cons_self ..)
          rw [hob] at hok
          have hcn : nn < c := by omega
          have hlt : nn * i.size < c * i.size := Nat.mul_lt_mul_of_pos_right hcn hz0
          obtain ⟨hB, arr, hblk, hsz⟩ : E.B ≤ b ∧ ∃ arr, Blk w b arr ∧ off + c * i.size ≤ arr.size := by
            rcases hok with hok | ⟨_, h1, h2⟩
            · omega
            · exact ⟨h1, h2⟩
          have hmul : (nn + ys.length) * i.size ≤ c * i.size := Nat.mul_le_mul_right _ (by omega)
          have hnl := hfl.len
          have hfit : off + nn * i.size + news.length ≤ arr.size := by rw [hnl]; rw [Nat.add_mul] at hmul; omega
          have hrun := run_append_in (w := w) _ u ty e i ht d hu hd hi b off nn c arr hblk x ys.length news (hlen w) (hfc w rfl) hfl.oneCell (by omega) hfit
          have hsp : (spliceA arr (off + nn * i.size) news).size = arr.size := spliceA_size hfit
          obtain ⟨t', ht', hnn⟩ := hst.newName
          have hnn' : ∀ x, (t', x) ∉ st := fun x hm => hnn x (List.mem_cons_of_mem _ hm)
          have howns : ∀ o, off + nn * i.size ≤ o → o < off + c * i.size → (g.ob t).owns b o := fun o h1 h2 => by rw [hob]; exact ⟨rfl, h1, h2⟩
          have hnp := fun o h1 h2 => hst.npc t _ (List.mem_cons_self ..) b o (howns o h1 h2)
          generalize hg' : (g.put t' (.spare b (off + (nn + ys.length) * i.size) (off + c * i.size))).prot (fun b' o => b' = b ∧ off + nn * i.size ≤ o ∧ o < off + (nn + ys.length) * i.size) = g'
          have hobs : ∀ o, g.ob o ≠ .none → g'.ob o = g.ob o := fun o ho => by subst hg'; exact g.put_old _ ht' o ho
          have hpcs : ∀ b o, g.pc b o → g'.pc b o := fun b o h => by subst hg'; exact .inl h
          have hpcn : ∀ o, off + nn * i.size ≤ o → o < off + (nn + ys.length) * i.size → g'.pc b o := fun o h1 h2 => by subst hg'; exact .inr ⟨rfl, h1, h2⟩
          have hpcb : ∀ b' o, g'.pc b' o → g.pc b' o ∨ (b' = b ∧ off + nn * i.size ≤ o ∧ o < off + (nn + ys.length) * i.size) := fun b' o h => by subst hg'; exact h
          have hobt : g'.ob t' = .spare b (off + (nn + ys.length) * i.size) (off + c * i.size) := by subst hg'; exact g.put_same _ _
          have hothr : ∀ o', o' ≠ t' → g'.ob o' = g.ob o' := fun o' h => by subst hg'; exact g.put_other _ h
          have hfr : ∃ N, ∀ o, N ≤ o → g'.ob o = .none := by subst hg'; exact g.put_fresh _ _ hst.fresh
          have hkeep : ∀ o, g.pc b o → (spliceA arr (off + nn * i.size) news)[o]? = arr[o]? := fun o hp => by
            refine getElem?_of_getD hsp ?_
            rw [spliceA_get hfit, if_neg]
            intro hc
            exact hnp o hc.1 (by rw [hnl] at hc; rw [Nat.add_mul] at hmul; omega) hp
          obtain ⟨h1, hl1⟩ := hst.write (g' := g') b arr _ hblk hsp hB (off + nn * i.size) (howns _ (Nat.le_refl _) (by omega)) hkeep hpcs (fun b' o hp => by
            rcases hpcb b' o hp with hp | ⟨rfl, h2, h3⟩
            · exact .inl hp
            · exact .inr ⟨rfl, howns o h2 (by omega), by omega⟩) hobs hfr
          refine ⟨_, _, g', t', hrun, ?_, h1.cons t' _ hnn' ?_ ?_ ?_, hl1⟩
          · have hlen2 : (xs ++ ys).length = nn + ys.length := by rw [List.length_append, hn]
            refine .sl b off (fun j q => (spliceA arr (off + nn * i.size) news).getD (off + j * i.size + q) undef) (by rw [hlen2]) (by omega) hm2 (.inl rfl) (fun y hy => (List.mem_append.1 hy).elim (hofl.elt y) (hfl.elt y)) hz0 (fun j q hj hq => ?_) (fun j q hj hq => ?_) hobt
            · rw [hlen2] at hj
              have hlt2 : j * i.size + q < (nn + ys.length) * i.size := idx_lt hj hq
              constructor
              · by_cases h3 : j < nn
                · exact hpcs _ _ (hcell j q (by omega) hq).1
                · refine hpcn _ ?_ (by omega)
                  have : nn * i.size ≤ j * i.size := Nat.mul_le_mul_right _ (by omega)
                  omega
              · rw [(hblk.setRow hsp).cell]
                have : off + j * i.size + q < (spliceA arr (off + nn * i.size) news).size := by rw [hsp]; omega
                simp [Array.getD_eq_getD_getElem?, Array.getElem?_eq_getElem this]
            · rw [hlen2] at hj
              rw [spliceA_get hfit]
              by_cases h3 : j < nn
              · have hlt3 : j * i.size + q < nn * i.size := idx_lt h3 hq
                rw [if_neg (by omega)]
                have hc1 := (hcell j q (by omega) hq).2
                rw [hblk.cell] at hc1
                have e1 : arr.getD (off + j * i.size + q) undef = cv j q := by rw [Array.getD_eq_getD_getElem?, hc1]; rfl
                have e2 : (xs ++ ys).getD j .un = xs.getD j .un := by simp [List.getD, List.getElem?_append_left (show j < xs.length by omega)]
                rw [e1, e2]
                exact (hr j q (by omega) hq).mono hl1
              · obtain ⟨p, rfl⟩ : ∃ p, j = nn + p := ⟨j - nn, by omega⟩
                have hlt3 : p * i.size + q < ys.length * i.size := idx_lt (by omega) hq
                have e0 : off + (nn + p) * i.size + q = off + nn * i.size + (p * i.size + q) := by rw [Nat.add_mul]; omega
                rw [if_pos (by rw [e0, hnl]; omega), e0, Nat.add_sub_cancel_left]
                have e2 : (xs ++ ys).getD (nn + p) .un = ys.getD p .un := by rw [hn]; simp [List.getD, List.getElem?_append_right]
                rw [e2]
                exact (hfl.rd p q (by omega) hq).mono hl1
          · rw [hobt]
            by_cases e : (nn + ys.length) * i.size = c * i.size
            · left; rw [e]
            · exact .inr ⟨by omega, hB, _, hblk.setRow hsp, by rw [hsp]; exact hsz⟩
          · intro o' x' hm' b' o
            have hne : o' ≠ t' := fun e => hnn' x' (by rw [← e]; exact hm')
            rw [hobt, hothr o' hne]
            rintro ⟨⟨rfl, h2, h3⟩, h4⟩
            refine hst.dis t _ o' x' (List.mem_cons_self ..) (List.mem_cons_of_mem _ hm') (fun e => ?_) b' o ⟨howns o ?_ h3, h4⟩
            · exact (List.nodup_cons.1 hst.nd).1 (by rw [e]; exact List.mem_map.2 ⟨_, hm', rfl⟩)
            · rw [Nat.add_mul] at h2; omega
          · intro b' o
            rw [hobt]
            rintro ⟨rfl, h2, h3⟩ hp
            rcases hpcb _ _ hp with hp | ⟨_, h4, h5⟩
            · exact hnp o (by rw [Nat.add_mul] at h2; omega) h3 hp
            · omega

end Go.Lift
