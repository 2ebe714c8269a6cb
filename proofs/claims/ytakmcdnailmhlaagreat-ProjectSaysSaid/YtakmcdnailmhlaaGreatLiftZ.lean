/- Lift, part Z: pieces of a vector of one's own: read, moved within it, cleared. -/
import Derived.Test.YtakmcdnailmhlaaGreatLiftY
namespace Go.Lift
open Go.RowKit

/-- From lo on up to hi there stands z. -/
def clrL {α : Type} (xs : List α) (lo hi : Nat) (z : α) : List α := xs.take lo ++ List.replicate (hi - lo) z ++ xs.drop hi

theorem clrL_map {α β : Type} (f : α → β) (xs : List α) (lo hi : Nat) (z : α) : (clrL xs lo hi z).map f = clrL (xs.map f) lo hi (f z) := by simp [clrL]
theorem clrL_length {α : Type} {xs : List α} {lo hi : Nat} {z : α} (h1 : lo ≤ hi) (h2 : hi ≤ xs.length) : (clrL xs lo hi z).length = xs.length := by simp [clrL]; omega
theorem clrL_getD {α : Type} {xs : List α} {lo hi q : Nat} {z d : α} (h1 : lo ≤ hi) (h2 : hi ≤ xs.length) (hq : q < xs.length) : (clrL xs lo hi z).getD q d = if lo ≤ q ∧ q < hi then z else xs.getD q d := by
  unfold clrL
  by_cases h3 : q < lo
  · rw [if_neg (by omega)]
    simp only [List.getD]
    rw [List.getElem?_append_left (by simp; omega), List.getElem?_append_left (by simp; omega), List.getElem?_take, if_pos h3]
  · by_cases h4 : q < hi
    · rw [if_pos (by omega)]
      simp only [List.getD]
      rw [List.getElem?_append_left (by simp; omega), List.getElem?_append_right (by simp; omega), List.getElem?_replicate, if_pos (by simp; omega)]
      rfl
    · rw [if_neg (by omega)]
      simp only [List.getD]
      rw [List.getElem?_append_right (by simp; omega), List.getElem?_drop]
      congr 2
      simp
      omega

theorem getD_mem {l : List AV} {j : Nat} (h : j < l.length) : l.getD j .un ∈ l := by
  rw [List.getD, List.getElem?_eq_getElem h, Option.getD_some]
  exact List.getElem_mem h

section
variable {P : Program} {n : Nat} {ops : Array Oper} {o : Oper} {l : List Oper} {c : Code} {fr : Fr} {st : St} {K : Fr → St → Prop} {k : AV → St → Prop} {Q : Post}

/-- What a vector's name tells of its value. -/
theorem vec_inv {E : Env} {F : St} {g : Gh} {w : World} {v : Value} {p q sz : Nat} {xs : List AV} (hr : Rel E (st ++ F) g w) (hg : st[q]? = some (p, .vec sz xs)) (hv : Reads g w v (.vec p)) :
    ∃ A b nn cc, v = .slice A nn cc ∧ g.ob p = .vec b nn cc sz ∧ nn = xs.length ∧ nn ≤ cc ∧ (A = some ⟨b, 0, Option.none⟩ ∨ cc = 0) := by
  have hok := hr.ok p _ (mem_of_get hg)
  cases hv with
  | @vec b nn cc sz' _ hp =>
    rw [hp] at hok
    obtain ⟨rfl, hn, hnc, _⟩ := hok
    exact ⟨_, b, nn, cc, rfl, hp, hn, hnc, .inl rfl⟩
  | @vec0 A b sz' _ hp =>
    rw [hp] at hok
    obtain ⟨rfl, hn, hnc, _⟩ := hok
    exact ⟨A, b, 0, 0, rfl, hp, hn, hnc, .inr rfl⟩

theorem vsl_inv {E : Env} {F : St} {g : Gh} {w : World} {v : Value} {p q sz lo hi : Nat} {xs : List AV} (hr : Rel E (st ++ F) g w) (hg : st[q]? = some (p, .vec sz xs)) (hv : Reads g w v (.vsl p lo hi)) :
    ∃ A b nn cc, v = .slice A (hi - lo) (cc - lo) ∧ g.ob p = .vec b nn cc sz ∧ nn = xs.length ∧ nn ≤ cc ∧ lo ≤ hi ∧ hi ≤ cc ∧ (A = some ⟨b, lo * sz, Option.none⟩ ∨ lo = cc) := by
  have hok := hr.ok p _ (mem_of_get hg)
  cases hv with
  | @vsl A b nn cc sz' _ _ _ hp h1 h2 hA =>
    rw [hp] at hok
    obtain ⟨rfl, hn, hnc, _⟩ := hok
    exact ⟨A, b, nn, cc, rfl, hp, hn, hnc, h1, h2, hA⟩

/-- A slice's bounds, as they run. -/
theorem run_piece {t e : TypeId} {x : Operand} {lo hi : Option Operand} {a b : Int} {A : Option Addr} {nn cc sz : Nat} {ac : Act} {g : Gh} {w : World} (ho : o.op = .slice t x lo hi none) (ht : P.underlying t = some (.slice e)) (hsz : ∀ w, (sizeOf e).run P w = .ok sz w)
    (hf : FRel n g w ac fr) (hcv : ac.eval x = .slice A nn cc) (hlo : OptInt fr lo 0 a) (hhi : OptInt fr hi nn b) (h0 : 0 ≤ a) (h1 : a ≤ b) (h2 : b ≤ cc) :
    ∀ W, (execOp ac.eval o).run P W = .ok (.value (.slice (if cc = a.toNat then A else A.map (·.add (a.toNat * sz))) (b.toNat - a.toNat) (cc - a.toNat))) W := fun W => by
  have hb0 : 0 ≤ b := by omega
  cases lo with
  | none =>
    obtain rfl : a = 0 := hlo
    cases hi with
    | none =>
      obtain rfl : b = nn := hhi
      simp [execOp, ho, hcv, Instr.sliceAt, Instr.slice, run_underlying ht, Instr.sliceBounds, hsz]
    | some y =>
      obtain ⟨kk, hy⟩ := hhi
      simp [execOp, ho, hcv, hy.eInt hf, Instr.sliceAt, Instr.slice, run_underlying ht, Instr.sliceBounds, Instr.sliceBound, asIntOf, hsz, hb0, h2]
  | some z =>
    obtain ⟨kz, hz'⟩ := hlo
    cases hi with
    | none =>
      obtain rfl : b = nn := hhi
      simp only [execOp, ho, hcv, Option.map_some, Option.map_none, Instr.sliceAt, Sem.run_bind, run_underlying ht, Result.andThen_ok, Instr.slice, Instr.sliceBounds, hz'.eInt hf, Instr.sliceBound, asIntOf, Sem.run_pure, Sem.run_ite, if_pos (And.intro h0 h1), hsz]
      rfl
    | some y =>
      obtain ⟨kk, hy⟩ := hhi
      have h1' : a ≤ (b.toNat : Int) := by omega
      simp only [execOp, ho, hcv, Option.map_some, Option.map_none, Instr.sliceAt, Sem.run_bind, run_underlying ht, Result.andThen_ok, Instr.slice, Instr.sliceBounds, hy.eInt hf, hz'.eInt hf, Instr.sliceBound, asIntOf, Sem.run_pure, Sem.run_ite, if_pos (And.intro hb0 h2), if_pos (And.intro h0 h1'), hsz]

/-- A piece of a vector. -/
theorem op_sliceVec {t e : TypeId} {x : Operand} {lo hi : Option Operand} {p q sz : Nat} {xs : List AV} {a b : Int} (ho : o.op = .slice t x lo hi none) (ht : P.underlying t = some (.slice e)) (hsz : ∀ w, (sizeOf e).run P w = .ok sz w)
    (hx : AEv fr x (.vec p)) (hg : st[q]? = some (p, .vec sz xs)) (hlo : OptInt fr lo 0 a) (hhi : OptInt fr hi xs.length b) (h : 0 ≤ a ∧ a ≤ b ∧ b ≤ xs.length) (hk : k (.vsl p a.toNat b.toNat) st) : AOp P n o fr st k :=
  AOp.of_run fun E F ac w g hf hr => by
    have hv := hx n g w ac hf
    obtain ⟨A, bb, nn, cc, hcv, hp, hn, hnc, hA⟩ := vec_inv hr hg hv
    obtain ⟨h0, h1, h2⟩ := h
    rw [← hn] at hhi
    have run := run_piece ho ht hsz hf hcv hlo hhi h0 h1 (by omega)
    refine ⟨_, w, g, .vsl p a.toNat b.toNat, st, run w, hk, ?_, hr, GLe.refl _ _⟩
    refine .vsl hp (by omega) (by omega) ?_
    by_cases hc : cc = a.toNat
    · exact .inr hc.symm
    · rw [if_neg hc]
      rcases hA with rfl | hA
      · left; simp [add_addr]
      · exact .inr (by omega)

/-- The cells of a vector are written; its name stays. -/
theorem rel_rewrite {E : Env} {g : Gh} {w : World} {p b nn c sz : Nat} {xs ys : List AV} {arr arr' : Array Value} (h : Rel E ((p, .vec sz xs) :: st) g w) (hp : g.ob p = .vec b nn c sz) (h0 : 0 < c) (hb : Blk w b arr) (hB : E.B ≤ b) (hs : arr.size = c * sz) (hs' : arr'.size = arr.size)
    (hl : ys.length = xs.length) (he : ∀ y, y ∈ ys → y.elt sz = true) (hrd : ∀ j k, j < ys.length → k < sz → Reads g w (arr'.getD (j * sz + k) undef) ((ys.getD j .un).cells.getD k .un)) :
    Rel E ((p, .vec sz ys) :: st) g (w.setRow b arr') ∧ GLe g w g (w.setRow b arr') := by
  have hok := h.ok p _ (List.mem_cons_self ..)
  have hn : ∀ x, (p, x) ∉ st := fun x hm => (List.nodup_cons.1 h.nd).1 (List.mem_map.2 ⟨_, hm, rfl⟩)
  have hd := fun o' x (hm : (o', x) ∈ st) => h.dis p _ o' x (List.mem_cons_self ..) (List.mem_cons_of_mem _ hm) (fun e => hn x (by rw [e]; exact hm))
  have hnp := h.npc p _ (List.mem_cons_self ..)
  rw [hp] at hok
  obtain ⟨_, hnn, hnc, hcm, hz, _, _⟩ := hok
  obtain ⟨h2, hle2⟩ := h.write (g' := g) b arr arr' hb hs' hB 0 (by rw [hp]; exact ⟨h0, rfl⟩) (fun o hpc => absurd hpc (hnp b o (by rw [hp]; exact ⟨h0, rfl⟩)))
    (fun _ _ h => h) (fun _ _ h => .inl h) (fun _ _ => rfl) h.fresh
  refine ⟨h2.cons p _ hn ?_ hd hnp, hle2⟩
  rw [hp]
  exact ⟨rfl, by rw [hl]; exact hnn, hnc, hcm, hz, he, fun _ => ⟨hB, _, hb.setRow hs', by rw [hs', hs], fun j k hj hk => (hrd j k hj hk).mono hle2⟩⟩

theorem zeroCells_get {z : Array Value} {m q : Nat} (hq : q < m * z.size) (hz : 0 < z.size) : (Builtin.zeroCells z m).getD q undef = z.getD (q % z.size) undef := by
  have h1 : q % z.size < z.size := Nat.mod_lt _ hz
  unfold Builtin.zeroCells
  rw [Array.getD_eq_getD_getElem?, Array.getD_eq_getD_getElem?, Array.getElem?_map, Array.getElem?_range]
  rw [if_pos hq, Array.getElem?_eq_getElem h1]
  simp [h1]

/-- clear(s[lo:hi]) -/
theorem op_clearV {x : Operand} {t e : TypeId} {z : Value} {za : AV} {sz p q lo hi : Nat} {xs : List AV} (ho : o.op = .call { callee := .builtin .clear, args := #[x], argTypes := #[t] })
    (ht : P.underlying t = some (.slice e)) (hz : ∀ w, (zeroValue e).run P w = .ok z w) (hza : ofConst z za = true) (helt : za.elt sz = true)
    (hx : AEv fr x (.vsl p lo hi)) (hg : st[q]? = some (p, .vec sz xs)) (hh : lo ≤ hi ∧ hi ≤ xs.length) (hk : k (.tup []) (st.set q (p, .vec sz (clrL xs lo hi za)))) : AOp P n o fr st k :=
  AOp.of_run fun E F a w g hf hr => by
    obtain ⟨hlh, hhn⟩ := hh
    obtain ⟨A, b, nn, cc, hcv, hp, hn, hnc, h1, h2, hA⟩ := vsl_inv hr hg (hx n g w a hf)
    have hok := hr.ok p _ (mem_of_get hg)
    rw [hp] at hok
    obtain ⟨_, _, _, hcm, hz0, he, hok⟩ := hok
    by_cases hm0 : hi - lo = 0
    · have e1 : clrL xs lo hi za = xs := by
        have : hi = lo := by omega
        subst this
        unfold clrL
        rw [Nat.sub_self, List.replicate_zero, List.append_nil, List.take_append_drop]
      refine ⟨.tuple #[], w, g, _, _, ?_, hk, .tup (as := []) rfl (fun j hj => absurd hj (Nat.not_lt_zero _)), ?_, GLe.refl _ _⟩
      · cases A <;> simp [execOp, ho, resolve, invoke, builtin, hcv, hm0, Builtin.clear_, run_underlying ht]
      · rw [e1, show st.set q (p, AObj.vec sz xs) = st from by
          obtain ⟨hlt, he⟩ := List.getElem?_eq_some_iff.1 hg
          rw [← he, List.set_getElem_self]]
        exact hr
    · have h0c : 0 < cc := by omega
      obtain ⟨hB, arr, hblk, hsz, hrd⟩ := hok h0c
      have hA' : A = some ⟨b, lo * sz, Option.none⟩ := hA.resolve_right (by omega)
      subst hA'
      obtain ⟨c1, c2⟩ := elt_spec helt
      have hzr := ofConst_reads hza g w
      have hzs : z.cells.size = sz := by rw [hzr.cells_size c2, c1]
      generalize hnw : (Builtin.zeroCells z.cells (hi - lo)).toList = news
      have hnl : news.length = (hi - lo) * sz := by subst hnw; simp [size_zeroCells, hzs]
      have hnd : ∀ q, q < (hi - lo) * sz → news.getD q undef = z.cells.getD (q % sz) undef := fun q hq => by
        have := zeroCells_get (z := z.cells) (m := hi - lo) (q := q) (by rw [hzs]; exact hq) (by omega)
        rw [hzs] at this
        rw [← this]
        subst hnw
        simp [List.getD, Array.getD_eq_getD_getElem?]
      have h1c : ∀ v ∈ news, v.oneCell' = true := by
        intro v hv
        obtain ⟨q, hq, rfl⟩ := List.mem_iff_getElem.1 hv
        rw [hnl] at hq
        have e1 : news[q] = z.cells.getD (q % sz) undef := by
          have := hnd q hq
          rwa [List.getD, List.getElem?_eq_getElem (by omega), Option.getD_some] at this
        have hlt : q % sz < za.cells.length := by rw [c1]; exact Nat.mod_lt _ hz0
        rw [e1]
        refine (hzr.cells_at c2 (q % sz) hlt).oneCell ?_
        rw [List.all_eq_true] at c2
        exact c2 _ (getD_mem hlt)
      have hmul : ∀ a b, a ≤ b → a * sz ≤ b * sz := fun a b h => Nat.mul_le_mul_right _ h
      have hhc := hmul (lo + (hi - lo)) cc (by omega)
      rw [Nat.add_mul] at hhc
      have hfit : lo * sz + 0 + news.length ≤ arr.size := by omega
      have hrun := run_storeCells_blk P b (lo * sz) news 0 arr w hblk hfit h1c
      rw [Nat.add_zero] at hrun hfit
      have hsp : (spliceA arr (lo * sz) news).size = arr.size := spliceA_size hfit
      have hcl := clrL_length (z := za) hlh hhn
      obtain ⟨h3, h4⟩ := rel_rewrite (hr.focus hg) hp h0c hblk hB hsz hsp hcl (ys := clrL xs lo hi za) (fun y hy => by
        unfold clrL at hy
        rcases List.mem_append.1 hy with hy | hy
        · rcases List.mem_append.1 hy with hy | hy
          · exact he y (List.mem_of_mem_take hy)
          · obtain ⟨_, rfl⟩ := List.mem_replicate.1 hy; exact helt
        · exact he y (List.mem_of_mem_drop hy)) (fun q kk hq hkk => by
        rw [hcl] at hq
        rw [spliceA_get hfit, clrL_getD hlh hhn hq]
        by_cases hc : lo ≤ q ∧ q < hi
        · rw [if_pos hc]
          have e5 : q * sz + kk = lo * sz + ((q - lo) * sz + kk) := by
            have : q * sz = lo * sz + (q - lo) * sz := by rw [← Nat.add_mul]; congr 1; omega
            omega
          have e6 : (q - lo) * sz + kk < (hi - lo) * sz := idx_lt (by omega) hkk
          rw [if_pos (by omega), e5, Nat.add_sub_cancel_left, hnd _ e6, Nat.mul_comm, Nat.mul_add_mod, Nat.mod_eq_of_lt hkk]
          exact hzr.cells_at c2 kk (by omega)
        · rw [if_neg hc, if_neg]
          · exact hrd q kk hq hkk
          · rintro ⟨h5, h6⟩
            rcases Nat.lt_or_ge q lo with h7 | h7
            · have := hmul (q + 1) lo h7
              rw [Nat.add_mul] at this
              omega
            · have := hmul (lo + (hi - lo)) q (by omega)
              rw [Nat.add_mul] at this
              omega)
      refine ⟨.tuple #[], _, g, _, _, ?_, hk, .tup (as := []) rfl (fun j hj => absurd hj (Nat.not_lt_zero _)), h3.unfocus hg, h4⟩
      obtain ⟨d, hd⟩ : ∃ d, hi - lo = d + 1 := ⟨hi - lo - 1, by omega⟩
      subst hnw
      rw [hd] at hcv hrun ⊢
      simp [execOp, ho, resolve, invoke, builtin, hcv, Builtin.clear_, run_underlying ht, hz, hrun]

/-! ### The same over lists of data -/
variable {α : Type}

theorem op_appendNVM {s x : Operand} {t u e : TypeId} {i : TypeInfo} {z : Value} {d : TypeDesc} {sz : Nat} {ys : List α} {f : α → AV} (ho : o.op = .call { callee := .builtin .append, args := #[s, x], argTypes := #[t, u] })
    (ht : P.underlying t = some (.slice e)) (hu : P.underlying u = some d) (hd : d = .slice e ∨ d = .string) (hi : ∀ w, (typeInfo e).run P w = .ok i w) (hz : i.zero = some z) (hzs : z.cells.size = i.size) (hsz : i.size = sz) (hb0 : 0 < i.bytes)
    (hs : AEv fr s (.sl .full sz (([] : List α).map f))) (hx : ∀ n g w a, FRel n g w a fr → Given P g w sz (a.eval x) (ys.map f)) (hbytes : (([] : List α).length + ys.length) * i.bytes ≤ 140737488355328)
    (hk : ∀ p', k (.vec p') ((p', .vec sz (([] ++ ys).map f)) :: st)) : AOp P n o fr st k :=
  op_appendNV ho ht hu hd hi hz hzs hsz hb0 hs hx (by rw [List.length_map]; exact hbytes) hk

theorem op_sliceVecM {t e : TypeId} {x : Operand} {lo hi : Option Operand} {p q sz : Nat} {xs : List α} {f : α → AV} {a b : Int} (ho : o.op = .slice t x lo hi none) (ht : P.underlying t = some (.slice e)) (hsz : ∀ w, (sizeOf e).run P w = .ok sz w)
    (hx : AEv fr x (.vec p)) (hg : st[q]? = some (p, .vec sz (xs.map f))) (hlo : OptInt fr lo 0 a) (hhi : OptInt fr hi (xs.length : Int) b) (h : InR a b xs.length) (hk : k (.vsl p a.toNat b.toNat) st) : AOp P n o fr st k :=
  op_sliceVec ho ht hsz hx hg hlo (by rw [List.length_map]; exact hhi) (by rw [List.length_map]; exact h) hk

/-- A piece of a vector's list. -/
abbrev InP (L H : Int) (n : Nat) : Prop := 0 ≤ L ∧ L ≤ H ∧ H ≤ (n : Int)

theorem op_clearVM {x : Operand} {t e : TypeId} {zv : Value} {sz p q : Nat} {L H : Int} {xs : List α} (f : α → AV) (z : α) (ho : o.op = .call { callee := .builtin .clear, args := #[x], argTypes := #[t] })
    (ht : P.underlying t = some (.slice e)) (hz : ∀ w, (zeroValue e).run P w = .ok zv w) (hza : ofConst zv (f z) = true) (helt : (f z).elt sz = true)
    (hx : AEv fr x (.vsl p L.toNat H.toNat)) (hg : st[q]? = some (p, .vec sz (xs.map f))) (h : InP L H xs.length) (hk : k (.tup []) (st.set q (p, .vec sz ((clrL xs L.toNat H.toNat z).map f)))) : AOp P n o fr st k := by
  obtain ⟨h1, h2, h3⟩ := h
  refine op_clearV ho ht hz hza helt hx hg (by rw [List.length_map]; omega) ?_
  rw [← clrL_map]; exact hk

theorem aw_shrinkM (i q : Nat) {p sz : Nat} {M : Int} {xs : List α} {f : α → AV} (h : AEv fr (.tmp i) (.vsl p (Int.toNat 0) M.toNat)) (hg : st[q]? = some (p, .vec sz (xs.map f))) (hm : 0 ≤ M ∧ M ≤ (xs.length : Int)) (hk : ∀ p', AW P n c ((i, .vec p') :: fr) ((p', .vec sz ((xs.take M.toNat).map f)) :: st.eraseIdx q) Q) : AW P n c fr st Q :=
  aw_shrink i q h hg (by rw [List.length_map]; omega) (fun p' => by rw [← List.map_take]; exact hk p')

end
end Go.Lift
