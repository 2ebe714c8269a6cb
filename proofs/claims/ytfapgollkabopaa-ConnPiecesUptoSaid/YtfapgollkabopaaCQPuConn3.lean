/- Connections that are read. -/
import Derived.Test.YtfapgollkabopaaCQPuConn1
import Derived.Test.YtfapgollkabopaaCQPuPiece2
set_option maxRecDepth 100000
namespace Go.Pu
open Go.Lift

def sizeQ : List api.Request → Int
 | [] => 0
 | r :: l => r.Size + sizeQ l
theorem sizeQ_append (a b : List api.Request) : sizeQ (a ++ b) = sizeQ a + sizeQ b := by
 induction a with
 | nil => simp [sizeQ]
 | cons x a ih => simp [sizeQ, ih]; omega

/-- No request is greater than what came. -/
structure SInv (N : Int) (p : parse.parser) : Prop where
 sum : sizeQ p.out + p.in_.Size + p.s.length ≤ N
 pos : ∀ r ∈ p.out, 0 ≤ r.Size

theorem stepP_size {N : Int} {p : parse.parser} (hp : PInv p) (h : SInv N p) : SInv N (stepP p).2 := by
 obtain ⟨h1, h2⟩ := h
 have hz := hp.size.1
 have hdead : ∀ e, SInv N (deadP p e) := fun e => ⟨by show sizeQ p.out + 0 + ((0 : Nat) : Int) ≤ N; omega, h2⟩
 rw [stepP_R]
 unfold stepR
 by_cases c1 : p.in_.Body = true
 ·rw [if_pos c1]
  cases hc : crlfM (p.s.drop (needN p)) with
  | more => exact ⟨h1, h2⟩
  | dead => exact hdead _
  | ok =>
   have hk := crlf_len hc
   simp only
   unfold bodyP
   by_cases hz : p.in_.Left - 1 = 0
   ·rw [if_pos hz]
    refine ⟨?_, ?_⟩
    ·show sizeQ (p.out ++ [_]) + 0 + ((p.s.drop (needN p + 2)).length : Int) ≤ N
     rw [sizeQ_append]
     simp only [sizeQ, List.length_drop]; omega
    ·intro r hr
     rcases List.mem_append.1 hr with hr | hr
     ·exact h2 r hr
     ·rw [List.mem_singleton] at hr; subst hr; simp only; omega
   ·rw [if_neg hz]
    refine ⟨?_, h2⟩
    show sizeQ p.out + (p.in_.Size + (needN p + 2 : Nat)) + ((p.s.drop (needN p + 2)).length : Int) ≤ N
    simp only [List.length_drop]; omega
 ·rw [if_neg c1]
  by_cases c2 : 0 < p.in_.Left
  ·rw [if_pos c2]
   cases hc : hdrM p.s 36 p.l.Bulk.toNat 6 with
   | more => exact ⟨h1, h2⟩
   | dead e => exact hdead _
   | ok n k =>
    obtain ⟨_, hk, _⟩ := hdrM_ok hc
    refine ⟨?_, h2⟩
    show sizeQ p.out + (p.in_.Size + (k : Int)) + ((p.s.drop k).length : Int) ≤ N
    simp only [List.length_drop]; omega
  ·rw [if_neg c2]
   cases hps : p.s with
   | nil => exact ⟨h1, h2⟩
   | cons c t =>
    simp only
    rw [← hps]
    by_cases c3 : c = 42
    ·rw [if_pos c3]
     cases hc : hdrM p.s 42 p.l.Args.toNat 7 with
     | more => exact ⟨h1, h2⟩
     | dead e => exact hdead _
     | ok n k =>
      obtain ⟨_, hk, _⟩ := hdrM_ok hc
      simp only
      unfold manyHP
      split
      ·refine ⟨?_, h2⟩
       show sizeQ p.out + 0 + ((p.s.drop k).length : Int) ≤ N
       simp only [List.length_drop]; omega
      ·refine ⟨?_, h2⟩
       show sizeQ p.out + (p.in_.Size + (k : Int)) + ((p.s.drop k).length : Int) ≤ N
       simp only [List.length_drop]; omega
    ·rw [if_neg c3]
     cases hc : lineM p.s p.l with
     | more => exact ⟨h1, h2⟩
     | dead e => exact hdead _
     | ok args n =>
      obtain ⟨hk, _, _⟩ := lineM_ok hc
      refine ⟨?_, ?_⟩
      ·show sizeQ (if args ≠ [] then p.out ++ [({ Args := args, Size := p.in_.Size + (n + 1 : Nat) } : api.Request)] else p.out) + 0 + ((p.s.drop (n + 1)).length : Int) ≤ N
       split
       ·rw [sizeQ_append]; simp only [sizeQ, List.length_drop]; omega
       ·simp only [List.length_drop]; omega
      ·show ∀ r ∈ (if args ≠ [] then p.out ++ [({ Args := args, Size := p.in_.Size + (n + 1 : Nat) } : api.Request)] else p.out), 0 ≤ r.Size
       split
       ·intro r hr
        rcases List.mem_append.1 hr with hr | hr
        ·exact h2 r hr
        ·rw [List.mem_singleton] at hr; subst hr; simp only; omega
       ·exact h2

theorem runP_size {N : Int} {p : parse.parser} (hp : PInv p) (h : SInv N p) : SInv N (runP p) := by
 refine runP_ind (motive := fun p => SInv N p → SInv N (runP p)) (fun p hp hs h => ?_) (fun p hp hs ih h => ?_) p hp h
 ·rw [runP_stop hs]; exact stepP_size hp h
 ·rw [runP_next hp hs]; exact ih (stepP_size hp h)

theorem sizeQ_nn {l : List api.Request} (h : ∀ r ∈ l, 0 ≤ r.Size) : 0 ≤ sizeQ l := by
 induction l with
 | nil => exact Int.le_refl _
 | cons x l ih =>
  have h1 := h x (by simp)
  have h2 := ih fun r hr => h r (by simp [hr])
  simp only [sizeQ]; omega

/-- Sizes, summed up. -/
theorem Read_loop (r76 : api.Input × (List api.Request) × Int) (a : Int) (ha : 0 ≤ a ∧ a ≤ 1000000000) (hl : r76.2.1.length ≤ 1000000000) (hp : ∀ r ∈ r76.2.1, 0 ≤ r.Size) (hs : sizeQ r76.2.1 ≤ 1000000000) :
  conn.Read.loop0 r76 ⟨0, a⟩ = some (a + sizeQ r76.2.1) := by
 unfold conn.Read.loop0
 refine whileO_knownE _ (fun i => (⟨(i : Int), a + sizeQ (r76.2.1.take i)⟩ : conn.Read.S0)) r76.2.1.length (fun i hi => ?_) ?_ (by simp [sizeQ])
 ·have hr := hp r76.2.1[i] (List.getElem_mem hi)
  have hsum : sizeQ r76.2.1 = sizeQ (r76.2.1.take i) + (r76.2.1[i].Size + sizeQ (r76.2.1.drop (i + 1))) := by
   conv => lhs; rw [← List.take_append_drop i r76.2.1, sizeQ_append, List.drop_eq_getElem_cons hi]
   rfl
  have h1 := sizeQ_nn (l := r76.2.1.take i) fun r hr => hp r (List.mem_of_mem_take hr)
  have h2 := sizeQ_nn (l := r76.2.1.drop (i + 1)) fun r hr => hp r (List.mem_of_mem_drop hr)
  unfold conn.Read.body0
  simp only
  rw [if_pos (by omega), need_eq ⟨by omega, by omega⟩, ix_get hi, i64w (n := _ + r76.2.1[i].Size) (by omega) (by omega), i64w (by omega) (by omega)]
  rw [List.take_add_one, List.getElem?_eq_getElem hi]
  simp only [Option.toList_some]
  rw [sizeQ_append]
  simp only [sizeQ, Int.add_zero]
  rw [Int.add_assoc]; rfl
 ·unfold conn.Read.body0
  simp only
  rw [if_neg (by omega), List.take_length]

def fullB (tin asked : Int) (i : api.Input) : Bool :=
 if tin < asked then true
 else if (IntKind.wrap .i64 (tin - asked)) < i.Size then true
 else decide ((IntKind.wrap .i64 ((IntKind.wrap .i64 (tin - asked)) - i.Size)) < (i.Rest.length : Int))
/-- The text that is told of all that came. -/
def textM (tin : Int) (p : parse.parser) (asked : Int) : List UInt8 :=
 if p.in_.Dead = 0 then (if fullB tin asked (inOf p) = true then [69, 82, 82, 32, 105, 110, 112, 117, 116, 32, 98, 117, 102, 102, 101, 114, 32, 105, 115, 32, 102, 117, 108, 108] else [])
 else [69, 82, 82, 32, 80, 114, 111, 116, 111, 99, 111, 108, 32, 101, 114, 114, 111, 114]

theorem Read_eq (c : api.Conn) (s : List UInt8) (t : api.Tenant) (hs : c.Shut = false) (hc : c.Closed = false) (hd : c.In.Dead = 0) (hp : PInv (startP c.In s t.Limits)) (ha : 0 ≤ c.Asked ∧ c.Asked ≤ 1000000000)
  (hz : SInv 1000000000 (startP c.In s t.Limits)) :
  conn.Read c s t = some ({ c with In := inOf (runP (startP c.In s t.Limits)), Asked := c.Asked + sizeQ (runP (startP c.In s t.Limits)).out, Shut := !decide (textM t.In (runP (startP c.In s t.Limits)) (c.Asked + sizeQ (runP (startP c.In s t.Limits)).out) = []) },
   (runP (startP c.In s t.Limits)).out, textM t.In (runP (startP c.In s t.Limits)) (c.Asked + sizeQ (runP (startP c.In s t.Limits)).out)) := by
 have hr := (runP_inv hp).1
 have hrz := runP_size hp hz
 have ho := hr.out
 have hsz := hr.size.1
 have hsum := hrz.sum
 unfold conn.Read
 simp only [letO]
 rw [hs, hc]
 simp only [Bool.false_eq_true, if_false]
 rw [Feed_eq c.In s t.Limits hd hp]
 simp only [Option.bind_some, feedM]
 rw [Read_loop _ c.Asked ha (by show (runP (startP c.In s t.Limits)).out.length ≤ _; omega) hrz.pos (by show sizeQ (runP (startP c.In s t.Limits)).out ≤ _; omega)]
 simp only [Option.bind_some]
 rfl

def openC : api.Conn := { Born := 0, Tenant := -1, In := emptyIn, Asked := 0, Held := [], Out := [], Taken := 0, Shut := false, Closed := false }
def readC (l : api.Limits) (all : List UInt8) : api.Conn := { openC with In := inOf (runP (startP emptyIn all l)), Asked := sizeQ (runP (startP emptyIn all l)).out }

theorem start_size (b : List UInt8) (l : api.Limits) (h : b.length ≤ 100000000) : SInv (b.length : Int) (startP emptyIn b l) :=
 ⟨by show (0 : Int) + 0 + (([] ++ b : List UInt8).length : Int) ≤ _; simp, fun r hr => by cases hr⟩

/-- One piece more. -/
theorem readC_more (t : api.Tenant) (all b : List UInt8) (hlen : all.length + b.length ≤ 100000000) (hd : (runP (startP emptyIn all t.Limits)).in_.Dead = 0) :
  ∃ outs, (runP (startP emptyIn (all ++ b) t.Limits)).out = (runP (startP emptyIn all t.Limits)).out ++ outs ∧
  conn.Read (readC t.Limits all) b t = some ({ readC t.Limits (all ++ b) with Shut := !decide (textM t.In (runP (startP emptyIn (all ++ b) t.Limits)) (sizeQ (runP (startP emptyIn (all ++ b) t.Limits)).out) = []) }, outs,
   textM t.In (runP (startP emptyIn (all ++ b) t.Limits)) (sizeQ (runP (startP emptyIn (all ++ b) t.Limits)).out)) := by
 have hp := start_inv all t.Limits (by omega)
 have hq := (runP_inv hp).1
 have hqz := runP_size hp (start_size all t.Limits (by omega))
 have hnn := sizeQ_nn hqz.pos
 have hsum := hqz.sum
 have hsz := hq.size.1
 rcases feed_more (all := all) (b := b) (l := t.Limits) hlen with ⟨h1, h2, h3⟩ | ⟨e, h1, h2, h3⟩
 ·have hz : SInv 1000000000 (startP (inOf (runP (startP emptyIn all t.Limits))) b t.Limits) := by
   refine ⟨?_, fun r hr => by cases hr⟩
   show (0 : Int) + (runP (startP emptyIn all t.Limits)).in_.Size + (((runP (startP emptyIn all t.Limits)).s ++ b).length : Int) ≤ _
   rw [List.length_append]; omega
  refine ⟨(runP (startP (inOf (runP (startP emptyIn all t.Limits))) b t.Limits)).out, by rw [h3]; rfl, ?_⟩
  have := Read_eq (readC t.Limits all) b t rfl rfl hd h2 ⟨hnn, by show sizeQ _ ≤ _; omega⟩ hz
  have e1 : (readC t.Limits all).In = inOf (runP (startP emptyIn all t.Limits)) := rfl
  have e2 : (readC t.Limits all).Asked = sizeQ (runP (startP emptyIn all t.Limits)).out := rfl
  rw [e1, e2] at this
  have e3 : sizeQ (runP (startP emptyIn all t.Limits)).out + sizeQ (runP (startP (inOf (runP (startP emptyIn all t.Limits))) b t.Limits)).out = sizeQ (runP (startP emptyIn (all ++ b) t.Limits)).out := by
   rw [h3]; show _ = sizeQ ((runP (startP emptyIn all t.Limits)).out ++ _); rw [sizeQ_append]
  rw [e3] at this
  rw [this]
  have e4 : textM t.In (runP (startP (inOf (runP (startP emptyIn all t.Limits))) b t.Limits)) (sizeQ (runP (startP emptyIn (all ++ b) t.Limits)).out) = textM t.In (runP (startP emptyIn (all ++ b) t.Limits)) (sizeQ (runP (startP emptyIn (all ++ b) t.Limits)).out) := by
   rw [h3]; rfl
  have e5 : inOf (runP (startP (inOf (runP (startP emptyIn all t.Limits))) b t.Limits)) = inOf (runP (startP emptyIn (all ++ b) t.Limits)) := by
   rw [h3]; rfl
  rw [e4, e5]
  rfl
 ·have := congrArg api.Input.Dead h2
  have : (runP (startP emptyIn all t.Limits)).in_.Dead = e := this
  omega

def rightT (t : api.Tenant) : api.Tenant := { t with In := if 1048576 < (if t.In < 0 then 0 else t.In) then 1048576 else (if t.In < 0 then 0 else t.In), Out := if 4194304 < (if t.Out < 0 then 0 else t.Out) then 4194304 else (if t.Out < 0 then 0 else t.Out) }

theorem rightT_in (t : api.Tenant) : 0 ≤ (rightT t).In := by
 show 0 ≤ if 1048576 < (if t.In < 0 then 0 else t.In) then 1048576 else (if t.In < 0 then 0 else t.In)
 split <;> split <;> omega

theorem text_start (t : api.Tenant) (h : 0 ≤ t.In) (h2 : t.In ≤ 1048576) : textM t.In (runP (startP emptyIn [] t.Limits)) (sizeQ (runP (startP emptyIn [] t.Limits)).out) = [] := by
 rw [run_empty]
 unfold textM
 rw [if_pos (by rfl)]
 have : fullB t.In (sizeQ (startP emptyIn [] t.Limits).out) (inOf (startP emptyIn [] t.Limits)) = false := by
  unfold fullB
  have e1 : sizeQ (startP emptyIn [] t.Limits).out = 0 := rfl
  have e2 : (inOf (startP emptyIn [] t.Limits)).Size = 0 := rfl
  have e3 : (inOf (startP emptyIn [] t.Limits)).Rest = [] := rfl
  rw [e1, e2, e3, if_neg (by omega), i64w (n := t.In - 0) (by omega) (by omega), if_neg (by omega), i64w (by omega) (by omega), decide_eq_false (by simp; omega)]
 rw [this]
 rfl

theorem text_dead {tin : Int} {p : parse.parser} {a : Int} (h : textM tin p a = []) : p.in_.Dead = 0 := by
 unfold textM at h
 by_cases hd : p.in_.Dead = 0
 ·exact hd
 ·rw [if_neg hd] at h; cases h

end Go.Pu
