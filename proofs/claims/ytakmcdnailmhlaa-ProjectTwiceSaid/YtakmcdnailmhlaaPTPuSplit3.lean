import Derived.Test.YtakmcdnailmhlaaPTPuSplit2
set_option maxRecDepth 100000
namespace Go.Pu
open Go.Lift

noncomputable def rfin (x : ((List (List UInt8)) × Int × Bool × (List UInt8)) ⊕ ((List (List UInt8)) × Bool)) : Option ((List (List UInt8)) × Bool) :=
 onSum x (fun s2432 =>
  if s2432.2.1 = 0 then
   (
    if s2432.2.2.1 = true then
     need ((s2432.1.length + [s2432.2.2.2].length) * 16 ≤ 140737488355328) <|
     some (s2432.1 ++ [s2432.2.2.2])
    else
     some s2432.1).bind fun s3246 =>
   some (s3246, true)
  else
   some (([] : List (List UInt8)), false)) fun s3254x => some s3254x

def RRes (s : List UInt8) (st : mewsref04.Split.S0) (r : (List (List UInt8)) × Bool) : Prop := (mewsref04.Split.loop0 s st).bind rfin = some r

theorem RRes.next {s : List UInt8} {st st' : mewsref04.Split.S0} {r} (h : mewsref04.Split.body0 s st = some (.inl st')) (h2 : RRes s st' r) : RRes s st r := by
 unfold RRes at *
 cases hq : mewsref04.Split.loop0 s st' with
 | none => rw [hq] at h2; cases h2
 | some q =>
  rw [hq] at h2
  have : mewsref04.Split.loop0 s st = some q := whileO_next h hq
  rw [this]; exact h2
end Go.Pu
