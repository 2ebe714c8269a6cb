/- The pure law ConnOrder: the walk over the calls. -/
import Derived.Test.YtfapgollkabopaaCOPuConn1
set_option maxRecDepth 100000
namespace Go.Pu
open Go.Lift

/-- What holds between the calls. -/
structure CInv (n m : Nat) (lim : Int) (said came : List UInt8) (durable : Int) (helds held : List api.Held) (out : List UInt8) (shut closed : Bool) : Prop where
  pShut : shut = false
  pSaid : said = bytesOf helds
  cnt : helds.length ≤ n
  hcnt : held.length ≤ n
  len : said.length ≤ m
  big : out.length + (bytesOf held).length ≤ m
  pLim : ((out.length + (bytesOf held).length : Nat) : Int) ≤ lim
  parts : ∃ rel rest tail, helds = rel ++ rest ∧ bytesOf rel = came ++ out ++ tail ∧ (∀ h ∈ rel, h.Need ≤ durable) ∧ (closed = false → tail = [] ∧ rest = held) ∧ (closed = true → held = [] ∧ out = [])

theorem CInv.came_le {n m lim said came durable helds held out shut closed} (h : CInv n m lim said came durable helds held out shut closed) : came.length + out.length ≤ (bytesOf (relOf durable helds)).length ∧ came <+: said := by
  obtain ⟨rel, rest, tail, e1, e2, e3, _, _⟩ := h.parts
  constructor
  · rw [e1, relOf_of_all e3, bytesOf_append, e2]; simp
  · rw [h.pSaid, e1, bytesOf_append, e2]; exact ⟨out ++ tail ++ bytesOf rest, by simp⟩

theorem CInv.more {n m lim said came durable helds held out shut closed} (h : CInv n m lim said came durable helds held out shut closed) {n' m' : Nat} (hn : n ≤ n') (hm : m ≤ m') : CInv n' m' lim said came durable helds held out shut closed :=
  { h with cnt := Nat.le_trans h.cnt hn, hcnt := Nat.le_trans h.hcnt hn, len := Nat.le_trans h.len hm, big := Nat.le_trans h.big hm }

/-- More is safe. -/
theorem CInv.free {n m lim said came durable helds} {c : api.Conn} (h : CInv n m lim said came durable helds c.Held c.Out c.Shut c.Closed) {d : Int} (hd : durable ≤ d) :
    CInv n m lim said came d helds (freeC c d).Held (freeC c d).Out (freeC c d).Shut (freeC c d).Closed where
  pShut := h.pShut
  pSaid := h.pSaid
  cnt := h.cnt
  hcnt := Nat.le_trans (keepOf_le d _) h.hcnt
  len := h.len
  big := by rw [free_len]; exact h.big
  pLim := by rw [free_len]; exact h.pLim
  parts := by
    obtain ⟨rel, rest, tail, e1, e2, e3, e4, e5⟩ := h.parts
    have hcl : (freeC c d).Closed = c.Closed := by simp [freeC, h.pShut]
    rw [hcl]
    cases hc : c.Closed with
    | true =>
      obtain ⟨h1, h2⟩ := e5 hc
      refine ⟨rel, rest, tail, e1, ?_, fun x hx => Int.le_trans (e3 x hx) hd, (fun h => by cases h), fun _ => ?_⟩
      · simp [freeC, h1, h2, relOf, bytesOf] at e2 ⊢; exact e2
      · simp [freeC, h1, h2, relOf, keepOf, bytesOf]
    | false =>
      obtain ⟨h1, h2⟩ := e4 hc
      refine ⟨rel ++ relOf d rest, keepOf d rest, [], by rw [e1, List.append_assoc, rel_keep], ?_, ?_, fun _ => ⟨rfl, by rw [h2]; rfl⟩, fun h => by cases h⟩
      · rw [bytesOf_append, e2, h1, h2]; simp [freeC]
      · intro x hx
        rcases List.mem_append.1 hx with hx | hx
        · exact Int.le_trans (e3 x hx) hd
        · exact rel_all x hx

theorem CInv.say {n m lim said came durable helds} {c : api.Conn} (h : CInv n m lim said came durable helds c.Held c.Out c.Shut c.Closed) (s : List UInt8) (need_ : Int) (hlim : 0 ≤ lim) :
    CInv (n + 1) (m + s.length) lim (if c.Closed = true then said else said ++ s) came durable (if c.Closed = true then helds else helds ++ [({ Need := need_, S := s } : api.Held)])
      (sayC c s need_ durable lim).Held (sayC c s need_ durable lim).Out (sayC c s need_ durable lim).Shut (sayC c s need_ durable lim).Closed := by
  unfold sayC
  by_cases hc : c.Closed = true
  · simp only [if_pos hc]
    exact h.more (by omega) (by omega)
  · simp only [if_neg hc]
    obtain ⟨rel, rest, tail, e1, e2, e3, e4, e5⟩ := h.parts
    have hcf : c.Closed = false := by simpa using hc
    obtain ⟨h1, h2⟩ := e4 hcf
    have hlen := h.len
    have hbig := h.big
    have hcnt := h.cnt
    have hsaid := h.pSaid
    by_cases hl : lim < (((freeC { c with Held := c.Held ++ [({ Need := need_, S := s } : api.Held)] } durable).Out.length + (bytesOf (freeC { c with Held := c.Held ++ [({ Need := need_, S := s } : api.Held)] } durable).Held).length : Nat) : Int)
    · rw [if_pos hl]
      exact {
        pShut := by simp [freeC, h.pShut]
        pSaid := by rw [bytesOf_append, bytesOf_one, ← hsaid]
        cnt := by simp; omega
        hcnt := by simp
        len := by simp; omega
        big := by simp [bytesOf]
        pLim := by simp [bytesOf]; omega
        parts := ⟨rel, rest ++ [({ Need := need_, S := s } : api.Held)], c.Out ++ tail, by rw [e1]; simp, by rw [e2]; simp, e3, fun h => by simp at h, fun _ => ⟨rfl, rfl⟩⟩ }
    · rw [if_neg hl]
      refine CInv.free (durable := durable) (d := durable) ?_ (Int.le_refl _)
      refine { pShut := h.pShut, pSaid := ?_, cnt := ?_, hcnt := ?_, len := ?_, big := ?_, pLim := ?_, parts := ?_ }
      · rw [bytesOf_append, bytesOf_one, ← hsaid]
      · simp; omega
      · simp; exact h.hcnt
      · simp; omega
      · simp only [bytesOf_append, bytesOf_one, List.length_append]; omega
      · have := free_len { c with Held := c.Held ++ [({ Need := need_, S := s } : api.Held)] } durable
        simp only at this
        rw [this] at hl
        simp only
        omega
      · refine ⟨rel, rest ++ [({ Need := need_, S := s } : api.Held)], [], by rw [e1]; simp, by rw [e2, h1], e3, fun _ => ⟨rfl, by rw [h2]⟩, fun h => by simp [hcf] at h⟩

theorem CInv.take {n m lim said came durable helds} {c : api.Conn} (h : CInv n m lim said came durable helds c.Held c.Out c.Shut c.Closed) (k : Nat) :
    CInv n m lim said (came ++ c.Out.take k) durable helds c.Held (c.Out.drop k) c.Shut c.Closed where
  pShut := h.pShut
  pSaid := h.pSaid
  cnt := h.cnt
  hcnt := h.hcnt
  len := h.len
  big := by have := h.big; simp; omega
  pLim := by have := h.pLim; simp; omega
  parts := by
    obtain ⟨rel, rest, tail, e1, e2, e3, e4, e5⟩ := h.parts
    refine ⟨rel, rest, tail, e1, ?_, e3, e4, fun hc => ?_⟩
    · rw [e2]; simp [List.append_assoc]
    · obtain ⟨h1, h2⟩ := e5 hc
      simp [h1, h2]

theorem safe_eq (T : (List UInt8) × (List UInt8) × Int × (List api.Held) × Int × Int × (List UInt8) × (List (List UInt8)) × Int × Int × Bool × Int × Int × Int × (List api.Held) × (List UInt8) × Int × Bool × Bool)
    (hl : T.2.2.2.1.length ≤ 1000000) (hb : (bytesOf T.2.2.2.1).length ≤ 1000000) : mewslaw43.ConnOrder.loop3 T ⟨0, 0⟩ = some ((bytesOf (relOf T.2.2.1 T.2.2.2.1)).length : Int) := by
  unfold mewslaw43.ConnOrder.loop3
  have main : ∀ (rest pre : List api.Held), T.2.2.2.1 = pre ++ rest →
      whileO (mewslaw43.ConnOrder.body3 T) ⟨((bytesOf pre).length : Int), (pre.length : Int)⟩ = some (((bytesOf pre).length + (bytesOf (relOf T.2.2.1 rest)).length : Nat) : Int) := by
    intro rest
    induction rest with
    | nil =>
      intro pre e
      rw [List.append_nil] at e
      apply whileO_end
      unfold mewslaw43.ConnOrder.body3
      simp only
      rw [e, if_neg (by omega)]
      simp [relOf, bytesOf]
    | cons x rest ih =>
      intro pre e
      have hlen : T.2.2.2.1.length = pre.length + (rest.length + 1) := by rw [e]; simp
      have hx : ix T.2.2.2.1 (pre.length : Int) = x := by
        rw [ix_get (by omega)]; simp [e]
      have hbl : (bytesOf T.2.2.2.1).length = (bytesOf pre).length + (x.S.length + (bytesOf rest).length) := by rw [e, bytesOf_append, bytesOf_cons]; simp
      by_cases h : x.Need ≤ T.2.2.1
      · have hb : mewslaw43.ConnOrder.body3 T ⟨((bytesOf pre).length : Int), (pre.length : Int)⟩ = some (.inl ⟨((bytesOf (pre ++ [x])).length : Int), (((pre ++ [x]).length : Nat) : Int)⟩) := by
          unfold mewslaw43.ConnOrder.body3
          simp only
          rw [if_pos (by omega), need_eq ⟨by omega, by omega⟩, hx, if_neg (by omega), i64w (by omega) (by omega), i64w (by omega) (by omega), bytesOf_append, bytesOf_one]
          simp
        refine (whileO_next hb (ih (pre ++ [x]) (by rw [e]; simp))).trans ?_
        have e2 : relOf T.2.2.1 (x :: rest) = x :: relOf T.2.2.1 rest := by simp [relOf, List.takeWhile_cons, h]
        rw [e2, bytesOf_append, bytesOf_one, bytesOf_cons]
        simp [Nat.add_assoc]
      · have e2 : relOf T.2.2.1 (x :: rest) = [] := by simp [relOf, List.takeWhile_cons, h]
        apply whileO_end
        unfold mewslaw43.ConnOrder.body3
        simp only
        rw [if_pos (by omega), need_eq ⟨by omega, by omega⟩, hx, if_pos (by omega), e2]
        simp [bytesOf]
  have := main _ [] rfl
  simpa [bytesOf] using this

theorem ConnOrder_pure (out : Int) (l : List mewslaw43.Op) (hl : l.length < 9223372036854775807) (ho : 0 ≤ out) : mewslaw43.ConnOrder out l = some true := by
  unfold mewslaw43.ConnOrder
  rw [far43_eq l hl, Option.bind_some, alive43]
  by_cases hw : 3000 < opsW l
  · rw [if_pos (by simpa using hw)]; rfl
  rw [if_neg (by simpa using hw)]
  have hsmall := opsW_le (l := l) (by omega)
  have hlim : 0 ≤ out.tmod 200 ∧ out.tmod 200 < 200 := ⟨Int.tmod_nonneg _ ho, Int.tmod_lt_of_pos _ (by omega)⟩
  have hlw : IntKind.wrap .i64 (out.tmod 200) = out.tmod 200 := i64w (by omega) (by omega)
  unfold conn.Open mewslaw43.ConnOrder.loop0
  simp only [Option.bind_some]
  rw [whileO_inv (fun i s => s.t28 = (i : Int) ∧ CInv i (opsL (l.take i)) (out.tmod 200) s.said s.came s.durable s.helds s.c11 s.c12 s.c14 s.c15) l.length (r := .inl ()) ?_ ?_ _ ⟨rfl, ?_⟩]
  · rfl
  · rintro i s hi ⟨h1, h2⟩
    have hLle : opsL (l.take (i + 1)) ≤ opsL l := by
      conv => rhs; rw [← List.take_append_drop (i + 1) l, opsL_append]
      omega
    have hL1 : opsL (l.take (i + 1)) = opsL (l.take i) + l[i].S.length := by
      rw [List.take_add_one, List.getElem?_eq_getElem hi, opsL_append]; simp [opsL]
    unfold mewslaw43.ConnOrder.body0
    rw [h1, if_pos (by omega), need_eq ⟨by omega, by omega⟩, ix_get hi, hlw]
    have hcnt := h2.cnt
    have hhcnt := h2.hcnt
    have hlen := h2.len
    have hbig := h2.big
    have hcame := h2.came_le.2.length_le
    generalize l[i] = o at hL1 ⊢
    obtain ⟨T, hT, hP⟩ : ∃ T : (List UInt8) × (List UInt8) × Int × (List api.Held) × Int × Int × (List UInt8) × (List (List UInt8)) × Int × Int × Bool × Int × Int × Int × (List api.Held) × (List UInt8) × Int × Bool × Bool, (if o.Kind = 2 then
        (
          if (!s.c15) = true then
            need (s.said.length + o.S.length ≤ 9223372036854775807) <|
            need ((s.helds.length + [({ Need := o.N, S := o.S } : api.Held)].length) * 24 ≤ 140737488355328) <|
            some (s.said ++ o.S, s.helds ++ [({ Need := o.N, S := o.S } : api.Held)])
          else
            some (s.said, s.helds)).bind fun s1217 =>
        (conn.Say ({ Born := s.c, Tenant := s.c2, In := ({ Rest := s.c3, Args := s.c4, Left := s.c5, Size := s.c6, Body := s.c7, Need := s.c8, Dead := s.c9 } : api.Input), Asked := s.c10, Held := s.c11, Out := s.c12, Taken := s.c13, Shut := s.c14, Closed := s.c15 } : api.Conn) o.S o.N s.durable ({ Name := ([] : List UInt8), Token := ([] : List UInt8), Memory := 0, Policy := 0, Conns := 0, In := 0, Out := out.tmod 200, Burst := 0, Rate := 0, Disk := 0, Sync := 0, Limits := ({ Args := 0, Bulk := 0, Line := 0 } : api.Limits) } : api.Tenant)).bind fun r1225 =>
        some (s1217.1, s.came, s.durable, s1217.2, r1225.Born, r1225.Tenant, r1225.In.Rest, r1225.In.Args, r1225.In.Left, r1225.In.Size, r1225.In.Body, r1225.In.Need, r1225.In.Dead, r1225.Asked, r1225.Held, r1225.Out, r1225.Taken, r1225.Shut, r1225.Closed)
      else
        if o.Kind = 3 then
          (conn.Free ({ Born := s.c, Tenant := s.c2, In := ({ Rest := s.c3, Args := s.c4, Left := s.c5, Size := s.c6, Body := s.c7, Need := s.c8, Dead := s.c9 } : api.Input), Asked := s.c10, Held := s.c11, Out := s.c12, Taken := s.c13, Shut := s.c14, Closed := s.c15 } : api.Conn) (if s.durable < o.M then o.M else s.durable)).bind fun r1226 =>
          some (s.said, s.came, if s.durable < o.M then o.M else s.durable, s.helds, r1226.Born, r1226.Tenant, r1226.In.Rest, r1226.In.Args, r1226.In.Left, r1226.In.Size, r1226.In.Body, r1226.In.Need, r1226.In.Dead, r1226.Asked, r1226.Held, r1226.Out, r1226.Taken, r1226.Shut, r1226.Closed)
        else
          if o.Kind = 4 then
            (conn.Take ({ Born := s.c, Tenant := s.c2, In := ({ Rest := s.c3, Args := s.c4, Left := s.c5, Size := s.c6, Body := s.c7, Need := s.c8, Dead := s.c9 } : api.Input), Asked := s.c10, Held := s.c11, Out := s.c12, Taken := s.c13, Shut := s.c14, Closed := s.c15 } : api.Conn) o.N).bind fun r1228 =>
            need (s.came.length + r1228.2.length ≤ 9223372036854775807) <|
            some (s.said, s.came ++ r1228.2, s.durable, s.helds, r1228.1.Born, r1228.1.Tenant, r1228.1.In.Rest, r1228.1.In.Args, r1228.1.In.Left, r1228.1.In.Size, r1228.1.In.Body, r1228.1.In.Need, r1228.1.In.Dead, r1228.1.Asked, r1228.1.Held, r1228.1.Out, r1228.1.Taken, r1228.1.Shut, r1228.1.Closed)
          else
            some (s.said, s.came, s.durable, s.helds, s.c, s.c2, s.c3, s.c4, s.c5, s.c6, s.c7, s.c8, s.c9, s.c10, s.c11, s.c12, s.c13, s.c14, s.c15)) = some T ∧
        CInv (i + 1) (opsL (l.take (i + 1))) (out.tmod 200) T.1 T.2.1 T.2.2.1 T.2.2.2.1 T.2.2.2.2.2.2.2.2.2.2.2.2.2.2.1 T.2.2.2.2.2.2.2.2.2.2.2.2.2.2.2.1 T.2.2.2.2.2.2.2.2.2.2.2.2.2.2.2.2.2.1 T.2.2.2.2.2.2.2.2.2.2.2.2.2.2.2.2.2.2 := by
      generalize hcg : ({ Born := s.c, Tenant := s.c2, In := ({ Rest := s.c3, Args := s.c4, Left := s.c5, Size := s.c6, Body := s.c7, Need := s.c8, Dead := s.c9 } : api.Input), Asked := s.c10, Held := s.c11, Out := s.c12, Taken := s.c13, Shut := s.c14, Closed := s.c15 } : api.Conn) = c
      have g11 : s.c11 = c.Held := by rw [← hcg]
      have g12 : s.c12 = c.Out := by rw [← hcg]
      have g14 : s.c14 = c.Shut := by rw [← hcg]
      have g15 : s.c15 = c.Closed := by rw [← hcg]
      rw [g11, g12, g14, g15] at h2
      rw [g11] at hhcnt
      rw [g11, g12] at hbig
      by_cases k2 : o.Kind = 2
      · rw [if_pos k2, Say_eq _ _ _ _ _ (by omega) (by omega), g15]
        have hs := h2.say o.S o.N hlim.1
        rw [← hL1] at hs
        by_cases hc : c.Closed = true
        · rw [if_neg (by simp [hc])]
          simp only [if_pos hc] at hs
          exact ⟨_, rfl, hs⟩
        · rw [if_pos (by simp [hc]), need_eq (by omega), need_eq (by simp; omega)]
          simp only [if_neg hc] at hs
          exact ⟨_, rfl, hs⟩
      · rw [if_neg k2]
        by_cases k3 : o.Kind = 3
        · rw [if_pos k3, Free_eq _ _ (by omega) (by omega)]
          refine ⟨_, rfl, ?_⟩
          refine (CInv.free h2 (d := if s.durable < o.M then o.M else s.durable) ?_).more (by omega) (by omega)
          split <;> omega
        · rw [if_neg k3]
          by_cases k4 : o.Kind = 4
          · rw [if_pos k4, Take_eq _ _ (by omega), Option.bind_some, need_eq (by simp; omega)]
            exact ⟨_, rfl, (h2.take _).more (by omega) (by omega)⟩
          · rw [if_neg k4, g11, g12, g14, g15]
            exact ⟨_, rfl, h2.more (by omega) (by omega)⟩
    rw [hT]
    simp only [Option.bind_some]
    have ⟨q1, q2⟩ := hP.came_le
    have q3 := hP.pLim
    have q4 := hP.big
    have q5 := hP.hcnt
    have q6 := hP.cnt
    have q7 := hP.len
    have q8 := q2.length_le
    rw [Pending_eq _ (by simp only; omega) (by simp only; omega)]
    simp only [Option.bind_some]
    rw [if_neg (by omega), if_neg (by omega), need_eq ⟨by omega, by omega, by omega⟩, sub_zero, Int.toNat_natCast]
    have q9 : List.take T.2.1.length T.1 = T.2.1 := (List.prefix_iff_eq_take.1 q2).symm
    rw [q9]
    simp only [decide_true, Bool.not_true, Option.bind_some, Bool.false_eq_true, if_false]
    rw [safe_eq T (by omega) (by rw [← hP.pSaid]; omega)]
    simp only [Option.bind_some]
    have q10 : (bytesOf (relOf T.2.2.1 T.2.2.2.1)).length ≤ (bytesOf T.2.2.2.1).length := by
      conv => rhs; rw [← rel_keep T.2.2.1 T.2.2.2.1, bytesOf_append]
      simp
    rw [i64w (n := (T.2.1.length : Int) + _) (by omega) (by rw [← hP.pSaid] at q10; omega), if_neg (by omega), i64w (by omega) (by omega)]
    exact ⟨_, rfl, by simp, hP⟩
  · rintro s ⟨h1, h2⟩
    unfold mewslaw43.ConnOrder.body0
    rw [h1, if_neg (by omega)]
  · exact {
      pShut := rfl, pSaid := rfl, cnt := by simp, hcnt := by simp, len := by simp, big := by simp [bytesOf], pLim := by simp [bytesOf]; omega
      parts := ⟨[], [], [], rfl, rfl, by simp, fun _ => ⟨rfl, rfl⟩, fun h => by cases h⟩ }

end Go.Pu

namespace Go.Pu.Pure
open Go.Lift Go.Pu
theorem ConnOrder {a0 : Int} {a1 : List mewslaw43.Op} (h0 : (Lit.int .u16 a0).wf = true) (h1 : a1.length * 40 ≤ 140737488351232 ∧ ∀ y0, y0 ∈ a1 → mewslaw43.Op.wf y0) : mewslaw43.ConnOrder a0 a1 = some true := by
  have : 0 ≤ a0 ∧ a0 ≤ 65535 := by simpa [Lit.wf, IntKind.min, IntKind.max, IntKind.signed, IntKind.bits] using h0
  exact ConnOrder_pure a0 a1 (by omega) this.1
end Go.Pu.Pure
