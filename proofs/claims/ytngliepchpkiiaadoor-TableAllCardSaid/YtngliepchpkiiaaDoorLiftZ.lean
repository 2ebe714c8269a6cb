/- Lift, part Z: pieces of a vector of one's own: read, moved within it, cleared. -/
import Derived.Test.YtngliepchpkiiaaDoorLiftY
namespace Go.Lift
open Go.RowKit
variable {tp : Bool}

section
variable {P : Program} {n : Nat} {ops : Array Oper} {o : Oper} {l : List Oper} {c : Code} {fr : Fr} {st : St} {K : Fr → St → Prop} {k : AV → St → Prop} {Q : Post}

/-- What a vector's name tells of its value. -/
theorem vec_inv {E : Env} {F : St} {g : Gh} {w : World} {v : Value} {p q sz : Nat} {xs : List AV} (hr : Rel E (st ++ F) g w) (hg : st[q]? = some (p, .vec sz xs)) (hv : Reads g w v (.vec p)) :
    ∃ A b nn cc, v = .slice A nn cc ∧ g.ob p = .vec b nn cc sz ∧ nn = xs.length ∧ nn ≤ cc ∧ (A = some ⟨b, 0, Option.none⟩ ∨ cc = 0) := by
  have hok := hr.ok p _ (mem_of_get hg)
  cases hv with
  | @vec b nn cc sz' _ hp =>
    rw [hp] at hok
    obtain ⟨rfl, hn, hnc, _⟩ := hok
    exact ⟨_, b, nn, cc, rfl, hp, hn, hnc, .inl rfl⟩
  | @vec0 A b sz' _ hp =>
    rw [hp] at hok
    obtain ⟨rfl, hn, hnc, _⟩ := hok
    exact ⟨A, b, 0, 0, rfl, hp, hn, hnc, .inr rfl⟩

/-- A slice's bounds, as they run. -/
theorem run_piece {t e : TypeId} {x : Operand} {lo hi : Option Operand} {a b : Int} {A : Option Addr} {nn cc sz : Nat} {ac : Act} {g : Gh} {w : World} (ho : o.op = .slice t x lo hi none) (ht : P.underlying t = some (.slice e)) (hsz : ∀ w, (sizeOf e).run P w = .ok sz w)
    (hf : FRel n g w ac fr) (hcv : ac.eval x = .slice A nn cc) (hlo : OptInt fr lo 0 a) (hhi : OptInt fr hi nn b) (h0 : 0 ≤ a) (h1 : a ≤ b) (h2 : b ≤ cc) :
    ∀ W, (execOp ac.eval o).run P W = .ok (.value (.slice (if cc = a.toNat then A else A.map (·.add (a.toNat * sz))) (b.toNat - a.toNat) (cc - a.toNat))) W := fun W => by
  have hb0 : 0 ≤ b := by omega
  cases lo with
  | none =>
    obtain rfl : a = 0 := hlo
    cases hi with
    | none =>
      obtain rfl : b = nn := hhi
      simp [execOp, ho, hcv, Instr.sliceAt, Instr.slice, run_underlying ht, Instr.sliceBounds, hsz]
    | some y =>
      obtain ⟨kk, hy⟩ := hhi
      simp [execOp, ho, hcv, hy.eInt hf, Instr.sliceAt, Instr.slice, run_underlying ht, Instr.sliceBounds, Instr.sliceBound, asIntOf, hsz, hb0, h2]
  | some z =>
    obtain ⟨kz, hz'⟩ := hlo
    cases hi with
    | none =>
      obtain rfl : b = nn := hhi
      simp only [execOp, ho, hcv, Option.map_some, Option.map_none, Instr.sliceAt, Sem.run_bind, run_underlying ht, Result.andThen_ok, Instr.slice, Instr.sliceBounds, hz'.eInt hf, Instr.sliceBound, asIntOf, Sem.run_pure, Sem.run_ite, if_pos (And.intro h0 h1), hsz]
      rfl
    | some y =>
      obtain ⟨kk, hy⟩ := hhi
      have h1' : a ≤ (b.toNat : Int) := by omega
      simp only [execOp, ho, hcv, Option.map_some, Option.map_none, Instr.sliceAt, Sem.run_bind, run_underlying ht, Result.andThen_ok, Instr.slice, Instr.sliceBounds, hy.eInt hf, hz'.eInt hf, Instr.sliceBound, asIntOf, Sem.run_pure, Sem.run_ite, if_pos (And.intro hb0 h2), if_pos (And.intro h0 h1'), hsz]

/-- A piece of a vector. -/
theorem op_sliceVec {t e : TypeId} {x : Operand} {lo hi : Option Operand} {p q sz : Nat} {xs : List AV} {a b : Int} (ho : o.op = .slice t x lo hi none) (ht : P.underlying t = some (.slice e)) (hsz : ∀ w, (sizeOf e).run P w = .ok sz w)
    (hx : AEv fr x (.vec p)) (hg : st[q]? = some (p, .vec sz xs)) (hlo : OptInt fr lo 0 a) (hhi : OptInt fr hi xs.length b) (h : 0 ≤ a ∧ a ≤ b ∧ b ≤ xs.length) (hk : k (.vsl p a.toNat b.toNat) st) : AOp P n o fr st k :=
  AOp.of_run fun E F ac w g hf hr => by
    have hv := hx n g w ac hf
    obtain ⟨A, bb, nn, cc, hcv, hp, hn, hnc, hA⟩ := vec_inv hr hg hv
    obtain ⟨h0, h1, h2⟩ := h
    rw [← hn] at hhi
    have run := run_piece ho ht hsz hf hcv hlo hhi h0 h1 (by omega)
    refine ⟨_, w, g, .vsl p a.toNat b.toNat, st, run w, hk, ?_, hr, GLe.refl _ _⟩
    refine .vsl hp (by omega) (by omega) ?_
    by_cases hc : cc = a.toNat
    · exact .inr hc.symm
    · rw [if_neg hc]
      rcases hA with rfl | hA
      · left; simp [add_addr]
      · exact .inr (by omega)

theorem pu_lenVsl {t e : TypeId} {x : Operand} {p lo hi : Nat} (ho : o.op = .call { callee := .builtin .len, args := #[x], argTypes := #[t] }) (ht : P.underlying t = some (.slice e)) (hx : AEv fr x (.vsl p lo hi))
    : APure P n o fr (.int .i64 ((hi - lo : Nat) : Int)) :=
  fun a w g hf => by
    have h := hx n g w a hf
    generalize hcv : a.eval x = cv at h
    cases h with
    | @vsl A b nn cc sz' _ _ _ hp h1 h2 hA =>
      refine ⟨_, fun W => ?_, .int _ _⟩
      simp [execOp, ho, resolve, invoke, builtin, hcv, Builtin.len_, run_underlying ht, goInt]

/-- The cells of a vector are written; its name stays. -/
theorem rel_rewrite {E : Env} {g : Gh} {w : World} {p b nn c sz : Nat} {xs ys : List AV} {arr arr' : Array Value} (h : Rel E ((p, .vec sz xs) :: st) g w) (hp : g.ob p = .vec b nn c sz) (h0 : 0 < c) (hb : Blk w b arr) (hB : E.B ≤ b) (hs : arr.size = c * sz) (hs' : arr'.size = arr.size)
    (hl : ys.length = xs.length) (he : ∀ y, y ∈ ys → y.elt sz = true) (hrd : ∀ j k, j < ys.length → k < sz → Reads g w (arr'.getD (j * sz + k) undef) ((ys.getD j .un).cells.getD k .un)) :
    Rel E ((p, .vec sz ys) :: st) g (w.setRow b arr') ∧ GLe g w g (w.setRow b arr') := by
  have hok := h.ok p _ (List.mem_cons_self ..)
  have hn : ∀ x, (p, x) ∉ st := fun x hm => (List.nodup_cons.1 h.nd).1 (List.mem_map.2 ⟨_, hm, rfl⟩)
  have hd := fun o' x (hm : (o', x) ∈ st) => h.dis p _ o' x (List.mem_cons_self ..) (List.mem_cons_of_mem _ hm) (fun e => hn x (by rw [e]; exact hm))
  have hnp := h.npc p _ (List.mem_cons_self ..)
  rw [hp] at hok
  obtain ⟨_, hnn, hnc, hcm, hz, _, _⟩ := hok
  obtain ⟨h2, hle2⟩ := h.write (g' := g) b arr arr' hb hs' hB 0 (by rw [hp]; exact ⟨h0, rfl⟩) (fun o hpc => absurd hpc (hnp b o (by rw [hp]; exact ⟨h0, rfl⟩)))
    (fun _ _ h => h) (fun _ _ h => .inl h) (fun _ _ => rfl) h.fresh
  refine ⟨h2.cons p _ hn ?_ hd hnp, hle2⟩
  rw [hp]
  exact ⟨rfl, by rw [hl]; exact hnn, hnc, hcm, hz, he, fun _ => ⟨hB, _, hb.setRow hs', by rw [hs', hs], fun j k hj hk => (hrd j k hj hk).mono hle2⟩⟩

/-! ### The same over lists of data -/
variable {α : Type}

theorem op_appendVM {s x : Operand} {t u e : TypeId} {i : TypeInfo} {z : Value} {d : TypeDesc} {sz p q : Nat} {xs ys : List α} {f : α → AV} (ho : o.op = .call { callee := .builtin .append, args := #[s, x], argTypes := #[t, u] })
    (ht : P.underlying t = some (.slice e)) (hu : P.underlying u = some d) (hd : d = .slice e ∨ d = .string) (hi : ∀ w, (typeInfo e).run P w = .ok i w) (hz : i.zero = some z) (hzs : z.cells.size = i.size) (hsz : i.size = sz) (hb0 : 0 < i.bytes)
    (hs : AEv fr s (.vec p)) (hg : st[q]? = some (p, .vec sz (xs.map f))) (hx : ∀ n g w a, FRel n g w a fr → Given P g w sz (a.eval x) (ys.map f)) (hbytes : (xs.length + ys.length) * i.bytes ≤ 140737488355328)
    (hk : ∀ p', k (.vec p') (st.set q (p', .vec sz ((xs ++ ys).map f)))) : AOp P n o fr st k :=
  op_appendV ho ht hu hd hi hz hzs hsz hb0 hs hg hx (by rw [List.length_map, List.length_map]; exact hbytes) (fun p' => by rw [← List.map_append]; exact hk p')

theorem op_sliceVecM {t e : TypeId} {x : Operand} {lo hi : Option Operand} {p q sz : Nat} {xs : List α} {f : α → AV} {a b : Int} (ho : o.op = .slice t x lo hi none) (ht : P.underlying t = some (.slice e)) (hsz : ∀ w, (sizeOf e).run P w = .ok sz w)
    (hx : AEv fr x (.vec p)) (hg : st[q]? = some (p, .vec sz (xs.map f))) (hlo : OptInt fr lo 0 a) (hhi : OptInt fr hi (xs.length : Int) b) (h : InR a b xs.length) (hk : k (.vsl p a.toNat b.toNat) st) : AOp P n o fr st k :=
  op_sliceVec ho ht hsz hx hg hlo (by rw [List.length_map]; exact hhi) (by rw [List.length_map]; exact h) hk

theorem pu_lenVslM {t e : TypeId} {x : Operand} {p : Nat} {L H : Int} (ho : o.op = .call { callee := .builtin .len, args := #[x], argTypes := #[t] }) (ht : P.underlying t = some (.slice e)) (hx : AEv fr x (.vsl p L.toNat H.toNat)) (h : 0 ≤ L ∧ L ≤ H)
    : APure P n o fr (.int .i64 (H - L)) := by
  have := pu_lenVsl (n := n) ho ht hx
  rwa [show ((H.toNat - L.toNat : Nat) : Int) = H - L by omega] at this

end
end Go.Lift
