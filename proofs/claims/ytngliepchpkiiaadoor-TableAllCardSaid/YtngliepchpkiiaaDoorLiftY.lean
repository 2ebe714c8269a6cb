/- Lift, part Y: vectors of one's own that grow and shrink, pieces of them, and where they are published. -/
import Derived.Test.YtngliepchpkiiaaDoorLiftU
namespace Go.Lift
open Go.RowKit
variable {tp : Bool}

/-! ### A slice without elements as a vector -/
theorem Rel.vecNil {E : Env} {st : St} {g : Gh} {w : World} (h : Rel E st g w) {sz : Nat} (hz : 0 < sz) :
    ∃ o g', g'.ob o = .vec 0 0 0 sz ∧ Rel E ((o, .vec sz []) :: st) g' w ∧ GLe g w g' w := by
  obtain ⟨o, ho, hn⟩ := h.newName
  obtain ⟨h1, hl⟩ := h.grow (g' := g.put o (.vec 0 0 0 sz)) (w' := w) rfl rfl rfl (Nat.le_refl _) (fun _ _ => rfl) (fun _ _ hp => hp) (fun _ _ hp => .inl hp) (g.put_old _ ho) (g.put_fresh _ _ h.fresh)
  refine ⟨o, _, g.put_same _ _, h1.cons o _ hn ?_ ?_ ?_, hl⟩
  · rw [g.put_same]; exact ⟨rfl, rfl, Nat.le_refl _, Nat.zero_le _, hz, by simp, fun h0 => absurd h0 (Nat.lt_irrefl _)⟩
  · intro o' x hm b off; rw [g.put_same]; exact fun h => absurd h.1.1 (Nat.lt_irrefl _)
  · intro b off; rw [g.put_same]; exact fun h _ => absurd h.1 (Nat.lt_irrefl _)

theorem rel_vecNil {E : Env} {st : St} {g : Gh} {w : World} (hrel : Rel E st g w) {v : Value} {sz : Nat} (hb : Reads g w v (.sl .full sz [])) :
    ∃ t' g', Reads g' w v (.vec t') ∧ Rel E ((t', .vec sz []) :: st) g' w ∧ GLe g w g' w := by
  cases hb with
  | @sl A nn c _ _ _ b off cv hn2 hc2 hm2 hA hw hz2 hcell hr htk =>
    obtain ⟨t', g', h1, h2, h3⟩ := hrel.vecNil hz2
    have hn0 : nn = 0 := hn2
    have hc0 : c = nn := htk
    subst hc0 hn0
    exact ⟨t', g', .vec0 h1, h2, h3⟩

/-- What of a vector's name a value says, says it of a slice when the vector is published. -/
def PubTo (p sz : Nat) (xs : List AV) (a a' : AV) : Prop := ∀ g g' w v, (∀ v, Reads g w v (.vec p) → Reads g' w v (.sl .no sz xs)) → GLe g w g' w → Reads g w v a → Reads g' w v a'
theorem PubTo.refl {p sz : Nat} {xs : List AV} (a : AV) : PubTo p sz xs a a := fun g g' w v h hl hr => hr.mono hl
theorem PubTo.vec {p sz : Nat} {xs : List AV} : PubTo p sz xs (.vec p) (.sl .no sz xs) := fun g g' w v h hl hr => h v hr
def PubsTo (p sz : Nat) (xs : List AV) : List AV → List AV → Prop
  | [], [] => True
  | a :: as, b :: bs => PubTo p sz xs a b ∧ PubsTo p sz xs as bs
  | _, _ => False
theorem PubsTo.get {p sz : Nat} {xs : List AV} : ∀ {as bs : List AV}, PubsTo p sz xs as bs → as.length = bs.length ∧ ∀ j, j < as.length → PubTo p sz xs (as.getD j .un) (bs.getD j .un)
  | [], [], _ => ⟨rfl, fun j h => absurd h (Nat.not_lt_zero _)⟩
  | a :: as, b :: bs, h => by
    obtain ⟨h1, h2⟩ := h.2.get
    refine ⟨by simp [h1], fun j hj => ?_⟩
    cases j with
    | zero => exact h.1
    | succ j => exact h2 j (by simpa using hj)
theorem PubTo.agg {p sz : Nat} {xs as bs : List AV} (h : PubsTo p sz xs as bs) : PubTo p sz xs (.agg as) (.agg bs) := fun g g' w v hv hl hr => by
  obtain ⟨h1, h2⟩ := h.get
  cases hr with
  | agg hs hr => exact .agg (hs.trans h1) fun j hj => h2 j (by omega) g g' w _ hv hl (hr j (by omega))
theorem PubTo.tup {p sz : Nat} {xs as bs : List AV} (h : PubsTo p sz xs as bs) : PubTo p sz xs (.tup as) (.tup bs) := fun g g' w v hv hl hr => by
  obtain ⟨h1, h2⟩ := h.get
  cases hr with
  | tup hs hr => exact .tup (hs.trans h1) fun j hj => h2 j (by omega) g g' w _ hv hl (hr j (by omega))

section
variable {P : Program} {n : Nat} {ops : Array Oper} {o : Oper} {l : List Oper} {c : Code} {fr : Fr} {st : St} {K : Fr → St → Prop} {k : AV → St → Prop} {Q : Post} {N : Fr → St → Prop}

theorem aw_vecNil (i : Nat) {sz : Nat} (h : AEv fr (.tmp i) (.sl .full sz [])) (hk : ∀ t', AW tp P n c ((i, .vec t') :: fr) ((t', .vec sz []) :: st) Q) : AW tp P n c fr st Q := by
  intro ρ hρ E F M a w g Q' hf hr q1 q2 q3
  obtain ⟨t', g', h1, h2, h3⟩ := rel_vecNil hr (h n g w a hf)
  exact hk t' ρ hρ E F M a w g' Q' (frel_set (hf.mono h3) h1) h2 (fun fr st M a w g k hf hr hl => q1 _ _ _ _ _ _ k hf hr (h3.trans hl)) (fun i fr st M a w g k hf hr hl => q2 _ _ _ _ _ _ _ k hf hr (h3.trans hl)) (fun fr st M a w g k hf hr hl => q3 _ _ _ _ _ _ k hf hr (h3.trans hl))

/-! ### append onto a vector -/
theorem append_vec {E : Env} {g : Gh} {w : World} {t u ty e : TypeId} {i : TypeInfo} {z : Value} (ht : P.underlying t = some (.slice e)) (d : TypeDesc) (hu : P.underlying u = some d) (hd : d = .slice e ∨ d = .string)
    (hi : P.info? e = some i) (hz : i.zero = some z) (hzs : z.cells.size = i.size) {p : Nat} {xs ys : List AV} {x v0 : Value}
    (hb : Reads g w v0 (.vec p)) (hx : Given P g w i.size x ys) (hbytes : (xs.length + ys.length) * i.bytes ≤ 140737488355328) (h63 : xs.length + ys.length ≤ maxLen)
    (hst : Rel E ((p, .vec i.size xs) :: st) g w) :
    ∃ v w' g' p', (Builtin.append_ #[t, u] ty #[v0, x]).run P w = .ok v w' ∧ Reads g' w' v (.vec p') ∧ Rel E ((p', .vec i.size (xs ++ ys)) :: st) g' w' ∧ GLe g w g' w' := by
  have hok := hst.ok p _ (List.mem_cons_self ..)
  obtain ⟨b, nn, c, hp, A, rfl, hA⟩ : ∃ b nn c, g.ob p = .vec b nn c i.size ∧ ∃ A, v0 = .slice A nn c ∧ (A = some ⟨b, 0, Option.none⟩ ∨ c = 0) := by
    cases hb with
    | @vec b nn c sz _ hp =>
      rw [hp] at hok
      obtain ⟨e, _⟩ := hok
      subst e
      exact ⟨b, nn, c, hp, _, rfl, .inl rfl⟩
    | @vec0 A b sz _ hp =>
      rw [hp] at hok
      obtain ⟨e, _⟩ := hok
      subst e
      exact ⟨b, 0, 0, hp, A, rfl, .inr rfl⟩
  rw [hp] at hok
  obtain ⟨_, hn, hnc, hcm, hz0, he, hok⟩ := hok
  obtain ⟨news, hfl, hlen, hfc⟩ := hx
  by_cases hgrow : c < nn + ys.length
  · obtain ⟨g1, hv, hrel1, hl0⟩ := rel_publish hst
    have hb1 := hv _ hb
    obtain ⟨olds, hofl, hn1, _, _, hA0, hfo⟩ := hb1.flat
    have hrun := run_append_re (w := w) t u ty e i z ht d hu hd hi hz A nn c x ys.length olds news (hlen w) (hfo w.drew rfl P) (hfc w.drew rfl) hgrow (by simp only [maxLen] at h63; omega) (growslice_fits hgrow (by rw [hn]; exact hbytes))
    generalize hcap : grownCap w (nn + ys.length) c e = cap at hrun
    have hcap1 : nn + ys.length ≤ cap := hcap ▸ grownCap_ge w _ _ _
    have hcap2 : cap ≤ maxLen := hcap ▸ grownCap_le_maxLen w _ _ _ (by rw [hn]; exact h63)
    generalize harr : olds.toArray ++ news.toArray ++ Builtin.zeroCells z.cells (cap - (nn + ys.length)) = arr at hrun
    have hol : olds.length = nn * i.size := by rw [hofl.len, hn]
    have hsize : arr.size = cap * i.size := by
      subst harr
      simp only [Array.size_append, List.size_toArray, size_zeroCells, hzs, hol, hfl.len, ← Nat.add_mul]
      congr 1; omega
    obtain ⟨h1, hl1⟩ := hrel1.drew
    have hflat : Flat g1 w.drew i.size (olds ++ news) (xs ++ ys) := (hofl.append (hfl.mono hl0)).mono hl1
    have hlen2 : (xs ++ ys).length = nn + ys.length := by rw [List.length_append, hn]
    have hfit : (olds ++ news).length = (xs ++ ys).length * i.size := hflat.len
    obtain ⟨p', g', hob, hrel', hl2⟩ := h1.vec arr e i.size cap (xs ++ ys) hsize hcap2 (by rw [hlen2]; exact hcap1) hz0 hflat.elt (fun j k hj hk => by
      have hlt : j * i.size + k < (olds ++ news).length := by rw [hfit]; exact idx_lt hj hk
      have hae : arr.getD (j * i.size + k) undef = (olds ++ news).getD (j * i.size + k) undef := by
        subst harr
        have : j * i.size + k < (olds ++ news).toArray.size := by simpa using hlt
        simp only [List.append_toArray] at *
        rw [Array.getD_eq_getD_getElem?, Array.getElem?_append_left (by simpa using hlt)]
        simp [List.getD]
      rw [hae]
      exact hflat.rd j k hj hk)
    rw [hlen2] at hob
    exact ⟨_, _, g', p', hrun, .vec hob, hrel', (hl0.trans hl1).trans hl2⟩
  · by_cases hm0 : ys = []
    · subst hm0
      have hne : news = [] := List.eq_nil_of_length_eq_zero (by rw [hfl.len]; simp)
      subst hne
      have hrun := run_append_zero (w := w) t u ty e i ht d hu hd hi nn c x (hlen w) (hfc w rfl) hnc A
      rw [List.append_nil]
      exact ⟨_, w, g, p, hrun, hb, hst, GLe.refl _ _⟩
    · have hylen : 0 < ys.length := List.length_pos_iff.2 hm0
      have h0c : 0 < c := by omega
      obtain ⟨hB, arr, hblk, hsz, hrd⟩ := hok h0c
      have hA' : A = some ⟨b, 0, Option.none⟩ := hA.resolve_right (by omega)
      subst hA'
      have hnl := hfl.len
      have hmul : (nn + ys.length) * i.size ≤ c * i.size := Nat.mul_le_mul_right _ (by omega)
      have hfit : 0 + nn * i.size + news.length ≤ arr.size := by rw [hnl, hsz]; rw [Nat.add_mul] at hmul; omega
      have hrun := run_append_in (w := w) _ u ty e i ht d hu hd hi b 0 nn c arr hblk x ys.length news (hlen w) (hfc w rfl) hfl.oneCell (by omega) hfit
      rw [Nat.zero_add] at hrun hfit
      have hsp : (spliceA arr (nn * i.size) news).size = arr.size := spliceA_size hfit
      obtain ⟨p', hp', hnn⟩ := hst.newName
      have hnn' : ∀ x, (p', x) ∉ st := fun x hm => hnn x (List.mem_cons_of_mem _ hm)
      have hnp := hst.npc p _ (List.mem_cons_self ..)
      have hd2 := fun o' x (hm : (o', x) ∈ st) => hst.dis p _ o' x (List.mem_cons_self ..) (List.mem_cons_of_mem _ hm) (fun e => (List.nodup_cons.1 hst.nd).1 (by rw [e]; exact List.mem_map.2 ⟨_, hm, rfl⟩))
      have howns : ∀ off, (g.ob p).owns b off := fun off => by rw [hp]; exact ⟨h0c, rfl⟩
      obtain ⟨h1, hl1⟩ := hst.write (g' := g.put p' (.vec b (nn + ys.length) c i.size)) b arr _ hblk hsp hB 0 (howns 0) (fun off hpc => absurd hpc (hnp b off (howns off))) (fun _ _ h => h) (fun _ _ h => .inl h) (g.put_old _ hp') (g.put_fresh _ _ hst.fresh)
      have hlen2 : (xs ++ ys).length = nn + ys.length := by rw [List.length_append, hn]
      refine ⟨_, _, _, p', hrun, .vec (g.put_same _ _), h1.cons p' _ hnn' ?_ ?_ ?_, hl1⟩
      · rw [g.put_same]
        refine ⟨rfl, hlen2.symm, by omega, hcm, hz0, fun y hy => (List.mem_append.1 hy).elim (he y) (hfl.elt y), fun _ => ⟨hB, _, hblk.setRow hsp, by rw [hsp, hsz], fun j k hj hk => ?_⟩⟩
        rw [hlen2] at hj
        rw [spliceA_get hfit]
        by_cases h3 : j < nn
        · have hlt3 : j * i.size + k < nn * i.size := idx_lt h3 hk
          rw [if_neg (by omega)]
          have e2 : (xs ++ ys).getD j .un = xs.getD j .un := by simp [List.getD, List.getElem?_append_left (show j < xs.length by omega)]
          rw [e2]
          exact (hrd j k (by omega) hk).mono hl1
        · obtain ⟨q, rfl⟩ : ∃ q, j = nn + q := ⟨j - nn, by omega⟩
          have hlt3 : q * i.size + k < ys.length * i.size := idx_lt (by omega) hk
          have e0 : (nn + q) * i.size + k = nn * i.size + (q * i.size + k) := by rw [Nat.add_mul]; omega
          rw [if_pos (by rw [e0, hnl]; omega), e0, Nat.add_sub_cancel_left]
          have e2 : (xs ++ ys).getD (nn + q) .un = ys.getD q .un := by rw [hn]; simp [List.getD, List.getElem?_append_right]
          rw [e2]
          exact (hfl.rd q k (by omega) hk).mono hl1
      · intro o' x hm b' off
        rw [g.put_same, g.put_other _ (fun e => hnn' x (by rw [← e]; exact hm))]
        have := hd2 o' x hm b' off
        rw [hp] at this
        exact this
      · intro b' off
        rw [g.put_same]
        have := hnp b' off
        rw [hp] at this
        exact this

theorem op_appendV {s x : Operand} {t u e : TypeId} {i : TypeInfo} {z : Value} {d : TypeDesc} {sz p q : Nat} {xs ys : List AV} (ho : o.op = .call { callee := .builtin .append, args := #[s, x], argTypes := #[t, u] })
    (ht : P.underlying t = some (.slice e)) (hu : P.underlying u = some d) (hd : d = .slice e ∨ d = .string) (hi : ∀ w, (typeInfo e).run P w = .ok i w) (hz : i.zero = some z) (hzs : z.cells.size = i.size) (hsz : i.size = sz) (hb0 : 0 < i.bytes)
    (hs : AEv fr s (.vec p)) (hg : st[q]? = some (p, .vec sz xs)) (hx : ∀ n g w a, FRel n g w a fr → Given P g w sz (a.eval x) ys) (hbytes : (xs.length + ys.length) * i.bytes ≤ 140737488355328)
    (hk : ∀ p', k (.vec p') (st.set q (p', .vec sz (xs ++ ys)))) : AOp P n o fr st k :=
  AOp.of_run fun E F a w g hf hr => by
    subst hsz
    have hb := hs n g w a hf
    have hgv := hx n g w a hf
    generalize hcv : a.eval s = cv at hb
    have h63 : xs.length + ys.length ≤ maxLen := by
      have := Nat.le_mul_of_pos_right (xs.length + ys.length) hb0
      simp only [maxLen]; omega
    obtain ⟨v, w', g', p', h1, h2, h3, h4⟩ := append_vec (ty := o.type) ht d hu hd (info_of_run hi) hz hzs hb hgv hbytes h63 (hr.focus hg)
    exact ⟨v, w', g', _, _, by simp [execOp, ho, resolve, invoke, builtin, hcv, h1], hk p', h2, h3.unfocus hg, h4⟩

end
end Go.Lift
