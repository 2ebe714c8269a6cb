/- The reference reads as the connection does. -/
import Derived.Test.YtfapgollkabopaaCPPuConn4
set_option maxRecDepth 100000
namespace Go.Pu
open Go.Lift

theorem rRead_loop (r64 : api.Input × (List api.Request)) (hl : r64.2.length ≤ 100000000) (hp : ∀ r ∈ r64.2, 0 ≤ r.Size) (hs : sizeQ r64.2 ≤ 1000000000) (a : Int) (ha : 0 ≤ a ∧ a ≤ 1000000000) : ∀ (rest pre : List api.Request) (out : List api.Request), r64.2 = pre ++ rest → 0 ≤ sizeQ out → out.length ≤ pre.length →
  ∀ b : Int, 0 ≤ b → b + sizeQ rest ≤ 2000000000 → mewsref43.Read.loop0 r64 ⟨out, (pre.length : Int), b⟩ = some (out ++ rest, b + sizeQ rest)
 | [], pre, out, e, _, _, b, _, _ => by
  rw [List.append_nil] at e
  unfold mewsref43.Read.loop0
  apply whileO_end
  unfold mewsref43.Read.body0
  simp only
  rw [if_neg (by rw [e]; omega)]
  simp [sizeQ]
 | r :: rest, pre, out, e, ho, hol, b, hb0, hb => by
  have hlen : r64.2.length = pre.length + (rest.length + 1) := by rw [e]; simp
  have hx : ix r64.2 (pre.length : Int) = r := by rw [ix_get (by omega)]; simp [e]
  have hr := hp r (by rw [e]; simp)
  have hnn := sizeQ_nn (l := rest) fun x hx => hp x (by rw [e]; simp [hx])
  simp only [sizeQ] at hb
  have ih := rRead_loop r64 hl hp hs a ha rest (pre ++ [r]) (out ++ [r]) (by rw [e]; simp) (by rw [sizeQ_append]; simp only [sizeQ]; omega) (by simp; omega) (b + r.Size) (by omega) (by omega)
  have e1 : out ++ r :: rest = (out ++ [r]) ++ rest := by simp
  have e2 : b + sizeQ (r :: rest) = b + r.Size + sizeQ rest := by simp only [sizeQ]; omega
  rw [e1, e2]
  refine whileO_next ?_ ih
  unfold mewsref43.Read.body0
  simp only
  rw [if_pos (by omega), need_eq ⟨by omega, by omega⟩, need_eq (by simp only [List.length_singleton]; omega), need_eq ⟨by omega, by omega⟩, hx, i64w (n := (pre.length : Int) + 1) (by omega) (by omega), i64w (n := b + r.Size) (by omega) (by omega)]
  simp only [List.length_append, List.length_singleton]
  rfl

/-- What is read of a connection that may be read. -/
theorem both_read (c : api.Conn) (all b : List UInt8) (t : api.Tenant) (hlen : all.length + b.length ≤ 1000000) (hs : c.Shut = false) (hc : c.Closed = false) (hin : c.In = inOf (runP (startP emptyIn all t.Limits))) (hd : (runP (startP emptyIn all t.Limits)).in_.Dead = 0)
  (ha : 0 ≤ c.Asked ∧ c.Asked ≤ 100000000) (hti : 0 ≤ t.In ∧ t.In ≤ 1048576) :
  ∃ outs, (runP (startP emptyIn (all ++ b) t.Limits)).out = (runP (startP emptyIn all t.Limits)).out ++ outs ∧ 0 ≤ sizeQ outs ∧ sizeQ outs ≤ ((all ++ b).length : Int) ∧ OutB outs ∧ outs.length ≤ 100000000 ∧
   conn.Read c b t = some ({ c with In := inOf (runP (startP emptyIn (all ++ b) t.Limits)), Asked := c.Asked + sizeQ outs, Shut := !decide (textM t.In (runP (startP emptyIn (all ++ b) t.Limits)) (c.Asked + sizeQ outs) = []) }, outs, textM t.In (runP (startP emptyIn (all ++ b) t.Limits)) (c.Asked + sizeQ outs)) ∧
   mewsref43.Read c (all ++ b) ((runP (startP emptyIn all t.Limits)).out.length : Int) t = some ({ c with In := inOf (runP (startP emptyIn (all ++ b) t.Limits)), Asked := c.Asked + sizeQ outs, Shut := !decide (textM t.In (runP (startP emptyIn (all ++ b) t.Limits)) (c.Asked + sizeQ outs) = []) }, outs, textM t.In (runP (startP emptyIn (all ++ b) t.Limits)) (c.Asked + sizeQ outs)) := by
 have hp := start_inv all t.Limits (by omega)
 have hq := (runP_inv hp).1
 have hqz := runP_size hp (start_size all t.Limits (by omega))
 have hnn := sizeQ_nn hqz.pos
 have hsum := hqz.sum
 have hsz := hq.size.1
 have hp2 := start_inv (all ++ b) t.Limits (by simp; omega)
 have hq2 := (runP_inv hp2).1
 have hqz2 := runP_size hp2 (start_size (all ++ b) t.Limits (by simp; omega))
 have hob2 := runP_out hp2 (fun r hr => by cases hr)
 have hsum2 := hqz2.sum
 have hsz2 := hq2.size.1
 have hout2 := hq2.out
 have hl2 : ((all ++ b).length : Int) = (all.length : Int) + (b.length : Int) := by simp
 rcases feed_more (all := all) (b := b) (l := t.Limits) (by omega) with ⟨h1, h2, h3⟩ | ⟨e, h1, h2, h3⟩
 ·have hz : SInv 1000000000 (startP (inOf (runP (startP emptyIn all t.Limits))) b t.Limits) := by
   refine ⟨?_, fun r hr => by cases hr⟩
   show (0 : Int) + (runP (startP emptyIn all t.Limits)).in_.Size + (((runP (startP emptyIn all t.Limits)).s ++ b).length : Int) ≤ _
   rw [List.length_append]; omega
  have hout : (runP (startP emptyIn (all ++ b) t.Limits)).out = (runP (startP emptyIn all t.Limits)).out ++ (runP (startP (inOf (runP (startP emptyIn all t.Limits))) b t.Limits)).out := by rw [h3]; rfl
  have hpos2 := hqz2.pos
  rw [hout] at hpos2 hsum2 hob2 hout2
  rw [sizeQ_append] at hsum2
  rw [List.length_append] at hout2
  have hn2 := sizeQ_nn (l := (runP (startP (inOf (runP (startP emptyIn all t.Limits))) b t.Limits)).out) fun r hr => hpos2 r (List.mem_append_right _ hr)
  refine ⟨(runP (startP (inOf (runP (startP emptyIn all t.Limits))) b t.Limits)).out, hout, hn2, by omega, fun r hr => hob2 r (List.mem_append_right _ hr), by omega, ?_, ?_⟩
  ·have := Read_eq c b t hs hc (by rw [hin]; exact hd) (by rw [hin]; exact h2) ⟨ha.1, by omega⟩ (by rw [hin]; exact hz)
   rw [hin] at this
   rw [this]
   have e4 : ∀ x, textM t.In (runP (startP (inOf (runP (startP emptyIn all t.Limits))) b t.Limits)) x = textM t.In (runP (startP emptyIn (all ++ b) t.Limits)) x := by
    intro x; rw [h3]; rfl
   have e5 : inOf (runP (startP (inOf (runP (startP emptyIn all t.Limits))) b t.Limits)) = inOf (runP (startP emptyIn (all ++ b) t.Limits)) := by
    rw [h3]; rfl
   rw [e4, e5]
  ·unfold mewsref43.Read
   rw [All_eq (all ++ b) t.Limits (by simp; omega)]
   simp only [Option.bind_some]
   have hfull : (allOf (runP (startP emptyIn (all ++ b) t.Limits))).2 = (runP (startP emptyIn all t.Limits)).out ++ (runP (startP (inOf (runP (startP emptyIn all t.Limits))) b t.Limits)).out := hout
   rw [rRead_loop (allOf (runP (startP emptyIn (all ++ b) t.Limits))) (by rw [hfull, List.length_append]; omega) (by rw [hfull]; exact hpos2) (by rw [hfull, sizeQ_append]; omega) c.Asked ⟨ha.1, by omega⟩ _ (runP (startP emptyIn all t.Limits)).out [] hfull (by simp [sizeQ]) (by simp) c.Asked ha.1 (by omega)]
   simp only [Option.bind_some, List.nil_append]
   generalize (runP (startP (inOf (runP (startP emptyIn all t.Limits))) b t.Limits)).out = outs at *
   generalize hqq : runP (startP emptyIn (all ++ b) t.Limits) = q at *
   have ha1 : (allOf q).1 = inOf q := rfl
   rw [ha1]
   have hbn : 0 ≤ c.Asked + sizeQ outs ∧ c.Asked + sizeQ outs ≤ 200000000 := by omega
   have hq1 : 0 ≤ q.in_.Size ∧ q.in_.Size ≤ 1000000 ∧ q.s.length ≤ 1000000 := by omega
   have hcond : (t.In < (IntKind.wrap .i64 ((IntKind.wrap .i64 (c.Asked + sizeQ outs + (inOf q).Size)) + ((inOf q).Rest.length : Int)))) ↔ fullB t.In (c.Asked + sizeQ outs) (inOf q) = true := by
    have e1 : (inOf q).Size = q.in_.Size := rfl
    have e2 : (inOf q).Rest = q.s := rfl
    unfold fullB
    rw [e1, e2, i64w (n := c.Asked + sizeQ outs + q.in_.Size) (by omega) (by omega), i64w (n := _ + (q.s.length : Int)) (by omega) (by omega), i64w (n := t.In - (c.Asked + sizeQ outs)) (by omega) (by omega), i64w (n := t.In - (c.Asked + sizeQ outs) - q.in_.Size) (by omega) (by omega)]
    by_cases g1 : t.In < c.Asked + sizeQ outs
    ·rw [if_pos g1]; simp; omega
    ·rw [if_neg g1]
     by_cases g2 : t.In - (c.Asked + sizeQ outs) < q.in_.Size
     ·rw [if_pos g2]; simp; omega
     ·rw [if_neg g2, decide_eq_true_eq]; omega
   unfold textM
   by_cases hdd : q.in_.Dead = 0
   ·rw [if_pos (show (inOf q).Dead = 0 from hdd), if_pos hdd]
    by_cases hfu : fullB t.In (c.Asked + sizeQ outs) (inOf q) = true
    ·rw [if_pos (hcond.2 hfu), if_pos hfu]; rfl
    ·rw [if_neg (fun h => hfu (hcond.1 h)), if_neg hfu]
     have : (!decide (([] : List UInt8) = [])) = c.Shut := by rw [hs]; rfl
     rw [this]
   ·rw [if_neg (show ¬ (inOf q).Dead = 0 from hdd), if_neg hdd]; rfl
 ·have := congrArg api.Input.Dead h2
  have : (runP (startP emptyIn all t.Limits)).in_.Dead = e := this
  omega

end Go.Pu
