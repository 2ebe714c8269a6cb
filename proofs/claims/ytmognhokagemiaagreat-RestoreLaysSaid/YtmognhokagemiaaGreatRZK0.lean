/- Printed by lift.py: the functions come to them. -/
import Derived.Test.YtmognhokagemiaaGreatLiftWS
import Derived.Test.YtmognhokagemiaaGreatRZP
import Derived.Test.YtmognhokagemiaaGreatProg
import Derived.Test.YtmognhokagemiaaGreatLiftVB
import Derived.WalkKit
import Derived.Lib.Walk
import Derived.Lib.AppendStr
import Derived.Laws.Externs
import Derived.Shelf.RegionOpenPlain
import Derived.Lib.Strings
import Derived.Lib.BufferWrite
import Derived.Lib.UnsafeStr
import Derived.Laws.MakeOwn
import Derived.Test.YtmognhokagemiaaGreatLiftZU
import Derived.Test.YtmognhokagemiaaGreatShelf
set_option maxRecDepth 100000
set_option maxHeartbeats 0
namespace Go.Pu
open Go.Lift Go.Proofs.Tryz Go.RowKit Go.Proofs

abbrev e0L : List AV := (([] : List api.File).map api.File.av)
abbrev e1L : List AV := (([] : List api.Fault).map api.Fault.av)
abbrev e2L : List AV := (([] : List (List UInt8)).map AV.str)
abbrev e3L : List AV := (([] : List UInt8).map byteAV)
abbrev e4L : List AV := (([] : List api.Request).map api.Request.av)
abbrev e5L : List AV := (([] : List (List (List UInt8))).map av_List_List_UInt8)
abbrev e6L : List AV := (([] : List api.Unit).map api.Unit.av)
abbrev e7L : List AV := (([] : List mewslaw16.Op).map mewslaw16.Op.av)
abbrev m0L := List.map api.File.av
abbrev m1L := List.map api.Fault.av
abbrev m2L := List.map mewslaw16.Op.av
abbrev m3L := List.map AV.str
abbrev m4L := List.map av_List_List_UInt8
abbrev m5L := List.map byteAV
abbrev m6L := List.map api.Request.av
abbrev m7L := List.map api.Unit.av

theorem bld.cc_used (b : Nat) (w : World) (h0 : w.cell? ⟨b, 0, Option.none⟩ = some (.pointer (some ⟨b, 0, Option.none⟩))) :
  Calls prog 94 #[.pointer (some ⟨b, 0, Option.none⟩)] w fun e w' => e = .returned (.tuple #[]) ∧ w' = w := by
 obtain ⟨j, hj, _⟩ := Option.map_eq_some_iff.1 (show (prog.info? 121).map (·.size) = some 2 by kernel_rfl)
 go_enter func94, ntmps94
 go_wp2
 rw [Lib.run_neq_ptr_same w _ underlying119 hj]
 go_wp2
 go_end0
 exact ⟨Z, Z⟩

theorem bld.cc_fresh (b : Nat) (w : World) (h0 : w.cell? ⟨b, 0, Option.none⟩ = some (.pointer Option.none)) (hsh : w.shape? b = some (121, 2)) (hfz : w.frozen? ⟨b, 0, Option.none⟩ = false) :
  Calls prog 94 #[.pointer (some ⟨b, 0, Option.none⟩)] w fun e w' => e = .returned (.tuple #[]) ∧ w' = w.setCell ⟨b, 0, Option.none⟩ (.pointer (some ⟨b, 0, Option.none⟩)) := by
 obtain ⟨j, hj, hjs⟩ := Option.map_eq_some_iff.1 (show (prog.info? 121).map (·.size) = some 2 by kernel_rfl)
 go_enter func94, ntmps94
 go_wp2
 rw [Lib.run_to_unsafe w ⟨b, 0, Option.none⟩ underlying119 underlying178 hj (by rw [hjs]; decide) hsh (Nat.zero_lt_succ 1)]
 simp only [Result.andThen]
 rw [Oper.upon_value]
 go_wp2
 rw [run_callFunc_extern func117 (by kernel_rfl) (by kernel_rfl) (by kernel_rfl) (e := Extern.AbiNoEscape.same) (by kernel_rfl)]
 rw [Lib.run_noEscape]
 simp only [Result.andThen]
 rw [Oper.upon_value]
 go_wp2
 rw [Lib.run_from_unsafe w ⟨b, 0, Option.none⟩ underlying178 underlying119 hj hsh (by kernel_rfl)]
 simp only [Result.andThen]
 rw [Oper.upon_value]
 go_wp2
 go_end0
 exact ⟨Z, Z⟩

theorem bld.cc (b : Nat) (bs : List UInt8) (w : World) (S : Nat → Prop) (h : BldAt 121 5 bs w b S) :
  Calls prog 94 #[.pointer (some ⟨b, 0, Option.none⟩)] w fun e w' => e = .returned (.tuple #[]) ∧ Turned w w' S S ∧
   ∃ v, w'.heap[b]? = some (.cells #[.pointer (some ⟨b, 0, Option.none⟩), v] 121 (0, 0)) ∧ w'.ownsRow 0 5 1 v bs.length (Lib.byteCells bs) ∧ v.ownBlock ≠ some b ∧ ∀ k, S k ↔ (k = b ∨ v.ownBlock = some k) := by
 have hlt := h.lt
 have hb := h.mem
 obtain ⟨p, v, h1, h2, h3, h4, h5⟩ := h
 rcases h1 with rfl | rfl
 ·refine (bld.cc_fresh b w (by rw [Lib.cell_of_heap h2]; rfl) (by simp [World.shape?, h2]) (Lib.frozen_of_heap h2 0)).mono ?_
  rintro e w' ⟨rfl, rfl⟩
  refine ⟨Z, (Turned.refl hlt).setCell (.inl hb) _, v, ?_, ?_, h4, h5⟩
  ·simp [World.setCell, Array.getElem?_modify, h2]
  ·exact h3.kept (row := some b) ⟨Z, Z, Z, by simp [World.setCell], fun k _ hk => Below.heap_setCell _ _ _ _ (fun e => hk (by simp [e]))⟩ (Or.inr h4)
 ·refine (bld.cc_used b w (by rw [Lib.cell_of_heap h2]; rfl)).mono ?_
  rintro e w' ⟨rfl, rfl⟩
  exact ⟨Z, Turned.refl hlt, v, h2, h3, h4, h5⟩

theorem bld.write (b : Nat) (bs : List UInt8) (s : ByteArray) (w : World) (S : Nat → Prop) (h : BldAt 121 5 bs w b S) (hlen : bs.length + s.size ≤ 140737488355328) :
  Calls prog 72 #[.pointer (some ⟨b, 0, Option.none⟩), .string s] w fun e w' => e = .returned (.tuple #[.int .i64 s.size, .nilIface]) ∧ ∃ S', BldAt 121 5 (bs ++ s.data.toList) w' b S' ∧ Turned w w' S S' := by
 obtain ⟨i0, hi, hz0, hz1, hz2⟩ := info_parts (show (prog.info? 5).map (fun i => (i.zero, i.size, i.bytes)) = some (some (.int .u8 0), 1, 1) by kernel_rfl)
 go_enter func72, ntmps72
 go_wp2_with fail
 refine (bld.cc b bs _ S h).mono ?_
 rintro e w1 ⟨rfl, ht1, v, hbk, hown, hne, hS⟩
 have c0 : w1.cell? ⟨b, 0, Option.none⟩ = some (.pointer (some ⟨b, 0, Option.none⟩)) := by rw [Lib.cell_of_heap hbk]; rfl
 have c1 : w1.cell? ⟨b, 1, Option.none⟩ = some v := by rw [Lib.cell_of_heap hbk]; rfl
 go_wp2_with (at_builtin; refine wpList_append_bld (by rfl) _ _ 114 9 rfl 5 i0 underlying114 underlying9 hi hz0 hz1 hz2 _ _ _ rfl hown s rfl hlen ?_)
 intro v' w2 hown' hgrow hblk
 have hlt : b < w1.heap.size := block_lt hbk
 have hb2 : w2.heap[b]? = some (.cells #[.pointer (some ⟨b, 0, Option.none⟩), v] 121 (0, 0)) := by
  rw [hgrow.block b hlt (fun e => hne e.symm)]
  exact hbk
 have d0 : w2.cell? ⟨b, 0, Option.none⟩ = some (.pointer (some ⟨b, 0, Option.none⟩)) := by rw [Lib.cell_of_heap hb2]; rfl
 have d1 : w2.cell? ⟨b, 1, Option.none⟩ = some v := by rw [Lib.cell_of_heap hb2]; rfl
 have f1 : w2.frozen? ⟨b, 1, Option.none⟩ = false := Lib.frozen_of_heap hb2 1
 obtain ⟨ao, n', cap, rfl⟩ : ∃ ao n' cap, v' = .slice ao n' cap := by
  rcases hown'.2 with ⟨hv, _⟩ | ⟨g, cap, cur, hv, _⟩
  ·exact ⟨_, _, _, hv⟩
  ·exact ⟨_, _, _, hv⟩
 go_wp2
 go_ret2
 have ht2 := Turned.grow ht1 hgrow hlt hown' hS hblk
 obtain ⟨S', hS', ht3⟩ := ht2
 refine ⟨Z, S', ?_, ht3.setCell (.inl ((hS b).2 (.inl Z))) _⟩
 have hst : Lib.byteCells bs ++ Lib.strCells s = Lib.byteCells (bs ++ s.data.toList) := by rw [Lib.strCells_eq, Lib.byteCells_append]
 have hn : bs.length + s.size = (bs ++ s.data.toList).length := by rw [List.length_append, ← Lib.size_eq]
 rw [hst, hn] at hown'
 have hne' := Lib.ownBlock_ne hown' hb2 (by decide)
 refine ⟨_, _, .inr Z, ?_, ?_, hne', hS'⟩
 ·simp [World.setCell, Array.getElem?_modify, hb2]
 ·exact hown'.kept (row := some b) ⟨Z, Z, Z, by simp [World.setCell], fun k _ hk => Below.heap_setCell _ _ _ _ (fun e => hk (by simp [e]))⟩ (Or.inr hne')

theorem bld.WriteString.ok {s bs} (h : bs.length + s.length ≤ 140737488355328) (o0 : Nat) :
  Sp prog 72 [.aptr o0, .str s] [(o0, .abs (bldAbs 121 5 bs))] (fun v H => v = .tup [.int .i64 s.length, .lit .nilIface] ∧ H = [(o0, .abs (bldAbs 121 5 (bs ++ s)))]) :=
 spec_bldW fun b w S hb => by
  have := bld.write b bs ⟨s.toArray⟩ w S hb (by rw [bs_size]; exact h)
  rw [bs_size] at this
  exact this

theorem bld.str (b : Nat) (l : List UInt8) (w : World) (S : Nat → Prop) (h : BldAt 121 5 l w b S) :
  Calls prog 73 #[.pointer (some ⟨b, 0, Option.none⟩)] w fun e w' => e = .returned (.string ⟨l.toArray⟩) ∧ Turned w w' S S := by
 have hT := (Turned.refl h.lt).drewR
 have mixed : prog.follows .mixedOrders = true := by decide +kernel
 obtain ⟨p, v, h1, hbk, hown, hne, hS⟩ := h
 have hcell : ∀ v', v = v' → w.drew.cell? ⟨b, 1, Option.none⟩ = some v' := fun v' e => by
  subst e
  have : w.drew.heap[b]? = some (.cells #[p, v] 121 (0, 0)) := hbk
  rw [Lib.cell_of_heap this]; rfl
 have hlt : b < w.heap.size := block_lt hbk
 rcases hown.2 with ⟨hv, h0⟩ | ⟨g, cap, cur, hv, hbg, hg, hnc, hcm, hcs, htake⟩
 ·obtain rfl : l = [] := List.eq_nil_of_length_eq_zero h0
  have hUS : ∀ W : World, ∀ q : Option Addr, (Builtin.unsafeString_ #[156, 3] 9 #[.pointer q, .int .i64 0]).run prog W = .ok (.string .empty) W := fun W q => Lib.run_unsafeString_none W _ _ _ q
  have c1 := hcell _ hv
  have hSD : (Builtin.unsafeSliceData_ #[114] 156 #[.slice Option.none 0 0]).run prog w.drew = .ok (.pointer Option.none) w.drew := rfl
  go_enter func73, ntmps73
  go_wp2
  go_region_o
  all_goals (go_wp2; go_ret; exact ⟨rfl, hT⟩)
 ·by_cases h0 : l = []
  ·subst h0
   have hUS : ∀ W : World, ∀ q : Option Addr, (Builtin.unsafeString_ #[156, 3] 9 #[.pointer q, .int .i64 0]).run prog W = .ok (.string .empty) W := fun W q => Lib.run_unsafeString_none W _ _ _ q
   by_cases hc0 : cap = 0
   ·subst hc0
    have c1 := hcell _ hv
    have hbd : w.drew.heap[b]? = some (.cells #[p, v] 121 (0, 0)) := hbk
    have hSD : (Builtin.unsafeSliceData_ #[114] 156 #[.slice (some ⟨g, 0, Option.none⟩) 0 0]).run prog w.drew = .ok (.pointer (some ⟨w.drew.heap.size, 0, Option.none⟩)) (w.drew.alloc (.view ⟨g, 0, Option.none⟩ 5)) :=
     Lib.run_unsafeSliceData_zero w.drew _ _ 5 underlying156 ⟨g, 0, Option.none⟩ 0 (5, cur.size) (by have hg' : w.drew.heap[g]? = some (.cells cur 5 (0, 0)) := hg; simp [World.shape?, hg'])
    have c2 : (w.drew.alloc (.view ⟨g, 0, Option.none⟩ 5)).cell? ⟨b, 1, Option.none⟩ = some (.slice (some ⟨g, 0, Option.none⟩) 0 0) := by
     have : (w.drew.alloc (.view ⟨g, 0, Option.none⟩ 5)).heap[b]? = _ := (Lib.alloc_old w.drew _ b hlt).trans hbd
     rw [Lib.cell_of_heap this, hv]; rfl
    have c3 : (w.alloc (.view ⟨g, 0, Option.none⟩ 5)).drew.cell? ⟨b, 1, Option.none⟩ = some (.slice (some ⟨g, 0, Option.none⟩) 0 0) := c2
    have c0 : w.cell? ⟨b, 1, Option.none⟩ = some (.slice (some ⟨g, 0, Option.none⟩) 0 0) := c1
    go_enter func73, ntmps73
    go_wp2
    go_region_o
    all_goals (go_wp2; go_ret; exact ⟨rfl, hT.alloc _⟩)
   ·have c1 := hcell _ hv
    have hSD : (Builtin.unsafeSliceData_ #[114] 156 #[.slice (some ⟨g, 0, Option.none⟩) 0 cap]).run prog w.drew = .ok (.pointer (some ⟨g, 0, Option.none⟩)) w.drew :=
     Lib.run_unsafeSliceData_row _ _ _ _ _ _ hc0
    clear hc0 hnc
    go_enter func73, ntmps73
    go_wp2
    go_region_o
    all_goals (go_wp2; go_ret; exact ⟨rfl, hT⟩)
  ·have hl0 : l.length ≠ 0 := by simpa using h0
   have c1 := hcell _ hv
   have hgS : S g := (hS g).2 (.inr (by rw [hv]; rfl))
   have hSD : (Builtin.unsafeSliceData_ #[114] 156 #[.slice (some ⟨g, 0, Option.none⟩) l.length cap]).run prog w.drew = .ok (.pointer (some ⟨g, 0, Option.none⟩)) w.drew :=
    Lib.run_unsafeSliceData_row _ _ _ _ _ _ (by omega)
   have hUS : (Builtin.unsafeString_ #[156, 3] 9 #[.pointer (some ⟨g, 0, Option.none⟩), .int .i64 l.length]).run prog w.drew = .ok (.string ⟨l.toArray⟩) (w.drew.freeze ⟨g, 0, Option.none⟩ l.length) := by
    refine Lib.run_unsafeString_row w.drew 156 3 9 5 underlying156 (by kernel_rfl) g cur.size (by have hg' : w.drew.heap[g]? = some (.cells cur 5 (0, 0)) := hg; simp [World.shape?, hg']) l h0 (by omega) (by unfold maxLen at hcm; omega) ?_
    intro j x hx
    have := hown.cells (g := g) (by rw [hv]; rfl) j (.int .u8 x.toNat) (by simp [Lib.byteCells, hx])
    exact this
   clear hnc hcs
   go_enter func73, ntmps73
   go_wp2
   go_region_o
   all_goals (go_wp2; go_ret; exact ⟨rfl, hT.freeze hgS _⟩)

theorem bld.String.ok {bs : List UInt8} (o0 : Nat) : Sp prog 73 [.aptr o0] [(o0, .abs (bldAbs 121 5 bs))] (fun v H => v = .str bs ∧ H = []) :=
 spec_bldS fun b w S hb => bld.str b bs w S hb

theorem bld.len (b : Nat) (bs : List UInt8) (w : World) (S : Nat → Prop) (h : BldAt 121 5 bs w b S) :
  Calls prog 79 #[.pointer (some ⟨b, 0, Option.none⟩)] w fun e w' => e = .returned (.int .i64 bs.length) ∧ w' = w := by
 obtain ⟨p, v, h1, hbk, hown, hne, hS⟩ := h
 obtain ⟨ao, cap, rfl⟩ : ∃ ao cap, v = .slice ao bs.length cap := by
  rcases hown.2 with ⟨hv, h0⟩ | ⟨g, cap, cur, hv, _⟩
  ·exact ⟨Option.none, 0, by rw [hv, h0]⟩
  ·exact ⟨_, _, hv⟩
 have c1 : w.cell? ⟨b, 1, Option.none⟩ = some (.slice ao bs.length cap) := by rw [Lib.cell_of_heap hbk]; rfl
 go_enter func79, ntmps79
 go_wp2
 go_ret
 exact ⟨Z, Z⟩

theorem bld.Len.ok {bs : List UInt8} (o0 : Nat) : Sp prog 79 [.aptr o0] [(o0, .abs (bldAbs 121 5 bs))] (fun v H => v = .int .i64 bs.length ∧ H = [(o0, .abs (bldAbs 121 5 bs))]) :=
 spec_bldL fun b w S hb => bld.len b bs w S hb

theorem mewslaw16.Far.ok {d l r} (h : mewslaw16.Far d l = some r) : Sp prog 6 [.agg [.sl .no 3 (m0L d.Files), .sl .no 3 (m1L d.Faults)], .sl .no 4 (m2L l)] [] (fun v H => v = .bool r ∧ H = []) := by
 unfold mewslaw16.Far at h
 refine sb [.tmp 4] func6 Z (xr (xb [.sl .no 3 (m0L d.Files), .sl .no 3 (m1L d.Faults)] Z fun p101 => xz (.bool false) Z (xe (xr (xz (.i 0) Z (xe ?_))))))
 obtain ⟨s200, s200e, h124⟩ := bind_some h
 refine aw_join (σ := Int) (ν := Unit) (fun u v => [(1, .sl .no 4 (m2L l)), (2, .ptr p101 0), (5, .i u)]) (fun u v => [(p101, .cells [.sl .no 3 (m0L d.Files), .sl .no 3 (m1L d.Faults)])]) (fun u => s200 = .inl u) ?_ ?_
 intro s123
 intro _
 rintro rfl
 have h := onSum_inl h124
 obtain ⟨s199, s199e, h169⟩ := bind_some h
 refine aw_join (σ := Unit) (ν := Unit) (fun u v => [(1, .sl .no 4 (m2L l)), (2, .ptr p101 0)]) (fun u v => [(p101, .cells [.sl .no 3 (m0L d.Files), .sl .no 3 (m1L d.Faults)])]) (fun u => s199 = .inl u) ?_ ?_
 intro s168
 intro _
 rintro rfl
 have h := onSum_inl h169
 obtain ⟨s194, s194e, h195⟩ := letO_of h
 refine aw_meet (ν := Unit) (fun v => [(4, .bool s194)]) (fun v => []) ?_ ?_
 have h := s194e.symm
 refine aw_region (xf (.ptr p101 0) underlying25 sizeOf22 Z (xl 0 isAgg22 Z (xa (.i (d.Files.length : Int)) Z (pu_lenM Z underlying22 (tm Z)) (xz (bd (40 < (d.Files.length : Int))) Z (xy Z ?_)))))
 rcases Bool.eq_false_or_eq_true (decide (40 < (d.Files.length : Int))) with hb197 | hb197
 replace h := ite_t (dec_t hb197) h
 refine aops_known 55 Z hb197 (xu Z (xu Z (xu Z (xu Z (xz (.bool true) Z (xy Z (xu Z (xu Z (xu Z ?_)))))))))
 refine xz (.bool true) Z (xy Z (xe ?_))
 subst h
 exact ⟨(), wi [] Z⟩
 replace h := ite_f (dec_f hb197) h
 refine aops_known 55 Z hb197 (xp (.ptr p101 1) Z Z (fa Z underlying25 Z sizeOf23 Z Z Z) (xg Z Z (op_load1 (i := 0) Z isAgg23 (tm Z) Z Z (xp (.i (d.Faults.length : Int)) Z Z (pu_lenM Z underlying23 (tm Z)) (xp (bd (100 < (d.Faults.length : Int))) Z Z (pe Z) (xz (bd (100 < (d.Faults.length : Int))) Z (xy Z ?_)))))))
 rcases Bool.eq_false_or_eq_true (decide (100 < (d.Faults.length : Int))) with hb198 | hb198
 replace h := ite_t (dec_t hb198) h
 refine aops_known 61 Z hb198 (xu Z (xu Z (xu Z (xz (.bool true) Z (xy Z (xe ?_))))))
 subst h
 exact ⟨(), wi [] Z⟩
 replace h := ite_f (dec_f hb198) h
 refine aops_known 61 Z hb198 (xq Z Z Z Z (xp (.i (l.length : Int)) Z Z (pu_lenM Z underlying58 (tm Z)) (xp (bd (100 < (l.length : Int))) Z Z (pe Z) (xz (bd (100 < (l.length : Int))) Z (xy Z (xe ?_))))))
 subst h
 exact ⟨(), wi [] Z⟩
 intro _
 have h := h195
 refine aw_ret ?_
 cases h
 exact rt ⟨Z, Z⟩ Z w0
 have h := s199e
 refine xr (xy Z (xa (.i (l.length : Int)) Z (pu_lenM Z underlying58 (tm Z)) (xz (.i 0) Z (xe (aw_block (aw_while (σ := mewslaw16.Far.S2) (ν := Unit) (mewslaw16.Far.body2 l) (fun s183 v => [(1, .sl .no 4 (m2L l)), (2, .ptr p101 0), (5, .i s183.n), (31, .sl .no 4 (m2L l)), (32, .i (l.length : Int)), (33, .i s183.t33)]) (fun s183 v => [(p101, .cells [.sl .no 3 (m0L d.Files), .sl .no 3 (m1L d.Faults)])]) ⟨s123, 0⟩ () _ h (wi [0] Z) ?_))))))
 rintro s183 _ x185 h hx184
 unfold mewslaw16.Far.body2 at h
 refine xr (xz (bd (s183.t33 < (l.length : Int))) Z (xe (aw_seq (cd h Z (fun _ h => ?_) (fun _ h => ?_)))))
 refine aw_skip (aw_seq (aw_block (aw_seq (aw_region ?_))))
 obtain ⟨c187, h⟩ := need_of h
 refine xa (.vptr [.i (ix l s183.t33).Kind, .str (ix l s183.t33).Name, .str (ix l s183.t33).S, .i (ix l s183.t33).N]) Z (pu_indexAddrM Z underlying58 sizeOf62 (tm Z) (tm Z) c187 Z) (xc Z (op_loadVN Z isAgg62 sizeOf62 (tm Z) (nb Z) Z (xA (.agg [.i 0, .str nS, .str nS, .i 0]) zeroValue62 Z fun p188 => xs 0 (mewslaw16.Op.ct (ix l s183.t33)) sizeOf62 Z (xe (xr (xy Z (xf (.ptr p188 2) underlying62 sizeOf9 Z (xl 0 isAgg9 Z (xa (.i ((ix l s183.t33).S.length : Int)) Z (pu_strLen Z underlying9 (tm Z)) (xa (.i (if 10000 < ((ix l s183.t33).S.length : Int) then 10000 else ((ix l s183.t33).S.length : Int))) Z (pu_min2 Z (tm Z) (AEv.int _ _)) (xf (.ptr p188 1) underlying62 sizeOf9 Z ?_)))))))))))
 refine xl 0 isAgg9 Z (xa (.i ((ix l s183.t33).Name.length : Int)) Z (pu_strLen Z underlying9 (tm Z)) (xa (.i (if 10000 < ((ix l s183.t33).Name.length : Int) then 10000 else ((ix l s183.t33).Name.length : Int))) Z (pu_min2 Z (tm Z) (AEv.int _ _)) (xz (.i (w64 ((if 10000 < ((ix l s183.t33).S.length : Int) then 10000 else ((ix l s183.t33).S.length : Int)) + (if 10000 < ((ix l s183.t33).Name.length : Int) then 10000 else ((ix l s183.t33).Name.length : Int))))) Z ?_)))
 obtain ⟨x189, x189e, h⟩ := letO_of h
 refine xa (.i x189) Z (APure.eq (pe Z) (congrArg (AV.int .i64) x189e.symm)) (xy Z (xe (xr (xy Z (xz (bd (5000 < x189)) Z (xe (cd h Z (fun _ h => ?_) (fun _ h => ?_))))))))
 refine xr (xz (.bool true) Z (xe (aw_ret ?_)))
 cases h
 cases congrArg some (hx184 _ rfl)
 cases onSum_inr h169
 exact rt ⟨Z, Z⟩ Z w0
 refine aw_skip (aw_region (xz (.i (w64 (s183.t33 + 1))) Z (xy Z (xe ?_))))
 cases h
 exact ⟨_, (), Z, wi [1] Z⟩
 refine aw_exit ?_
 cases h
 have h := congrArg some (hx184 _ rfl)
 exact ⟨(), (), (some_of h).symm, wi [0] Z⟩
 have h := s200e
 refine xr (xf (.ptr p101 0) underlying25 sizeOf22 Z (xl 0 isAgg22 Z (xa (.i (d.Files.length : Int)) Z (pu_lenM Z underlying22 (tm Z)) (xz (.i 0) Z (xe (aw_block (aw_while (σ := mewslaw16.Far.S0) (ν := Unit) (mewslaw16.Far.body0 d) (fun s138 v => [(1, .sl .no 4 (m2L l)), (2, .ptr p101 0), (5, .i s138.n), (11, .sl .no 3 (m0L d.Files)), (12, .i (d.Files.length : Int)), (13, .i s138.t13)]) (fun s138 v => [(p101, .cells [.sl .no 3 (m0L d.Files), .sl .no 3 (m1L d.Faults)])]) ⟨0, 0⟩ () _ h (wi [0] Z) ?_)))))))
 rintro s138 _ x140 h hx139
 unfold mewslaw16.Far.body0 at h
 refine xr (xz (bd (s138.t13 < (d.Files.length : Int))) Z (xe (aw_seq (cd h Z (fun _ h => ?_) (fun _ h => ?_)))))
 refine aw_skip (aw_seq (aw_block (aw_seq (aw_region ?_))))
 obtain ⟨c142, h⟩ := need_of h
 refine xa (.vptr [.str (ix d.Files s138.t13).Name, .str (ix d.Files s138.t13).Data, .i (ix d.Files s138.t13).Synced]) Z (pu_indexAddrM Z underlying22 sizeOf60 (tm Z) (tm Z) c142 Z) (xc Z (op_loadVN Z isAgg60 sizeOf60 (tm Z) (nb Z) Z (xA (.agg [.str nS, .str nS, .i 0]) zeroValue60 Z fun p143 => xs 0 [.str (ix d.Files s138.t13).Name, .str (ix d.Files s138.t13).Data, .i (ix d.Files s138.t13).Synced] sizeOf60 Z (xe (xr (xy Z (xf (.ptr p143 1) underlying60 sizeOf9 Z (xl 0 isAgg9 Z (xa (.i ((ix d.Files s138.t13).Data.length : Int)) Z (pu_strLen Z underlying9 (tm Z)) (xa (.i (if 10000 < ((ix d.Files s138.t13).Data.length : Int) then 10000 else ((ix d.Files s138.t13).Data.length : Int))) Z (pu_min2 Z (tm Z) (AEv.int _ _)) (xf (.ptr p143 0) underlying60 sizeOf9 Z ?_)))))))))))
 refine xl 0 isAgg9 Z (xa (.i ((ix d.Files s138.t13).Name.length : Int)) Z (pu_strLen Z underlying9 (tm Z)) (xa (.i (if 10000 < ((ix d.Files s138.t13).Name.length : Int) then 10000 else ((ix d.Files s138.t13).Name.length : Int))) Z (pu_min2 Z (tm Z) (AEv.int _ _)) (xz (.i (w64 ((if 10000 < ((ix d.Files s138.t13).Data.length : Int) then 10000 else ((ix d.Files s138.t13).Data.length : Int)) + (if 10000 < ((ix d.Files s138.t13).Name.length : Int) then 10000 else ((ix d.Files s138.t13).Name.length : Int))))) Z ?_)))
 obtain ⟨x144, x144e, h⟩ := letO_of h
 refine xa (.i x144) Z (APure.eq (pe Z) (congrArg (AV.int .i64) x144e.symm)) (xy Z (xe (xr (xy Z (xz (bd (5000 < x144)) Z (xe (cd h Z (fun _ h => ?_) (fun _ h => ?_))))))))
 refine xr (xz (.bool true) Z (xe (aw_ret ?_)))
 cases h
 cases congrArg some (hx139 _ rfl)
 cases onSum_inr h124
 exact rt ⟨Z, Z⟩ Z w0
 refine aw_skip (aw_region (xz (.i (w64 (s138.t13 + 1))) Z (xy Z (xe ?_))))
 cases h
 exact ⟨_, (), Z, wi [1] Z⟩
 refine aw_exit ?_
 cases h
 have h := congrArg some (hx139 _ rfl)
 exact ⟨s138.n, (), (some_of h).symm, wi [0] Z⟩

theorem unit.may_1_1.ok {s_ r} (h : unit.may_1_1 s_ = some r) : Sp prog 75 [.str s_] [] (fun v H => v = .bool r ∧ H = []) := by
 unfold unit.may_1_1 at h
 refine sb [.tmp 2] func75 Z (xr (xz (.bool false) Z (xe (xr (xy Z (xa (.i (s_.length : Int)) Z (pu_strLen Z underlying9 (tm Z)) (xz (bd (1048576 < (s_.length : Int))) Z ?_)))))))
 refine xy Z (xe (aw_ret ?_))
 cases h
 exact rt ⟨Z, Z⟩ Z w0

theorem slices.IndexFunc_string_unit_may_1_1.ok {s_ r} (h : slices.IndexFunc_string_unit_may_1_1 s_ = some r) : Sp prog 95 [.sl .no 1 (m3L s_), .fn 75 []] [] (fun v H => v = .i r ∧ H = []) := by
 unfold slices.IndexFunc_string_unit_may_1_1 at h
 refine sb [.tmp 4] func95 Z (xr (xz (.i 0) Z (xe ?_)))
 obtain ⟨s80, s80e, h60⟩ := bind_some h
 refine aw_join (σ := Unit) (ν := Unit) (fun u v => []) (fun u v => []) (fun u => s80 = .inl u) ?_ ?_
 intro s59
 intro _
 rintro rfl
 have h := onSum_inl h60
 refine xr (xz (.i (-1)) Z (xe (aw_ret ?_)))
 cases h
 exact rt ⟨Z, Z⟩ Z w0
 have h := s80e
 refine xr (xy Z (xa (.i (s_.length : Int)) Z (pu_lenM Z underlying65 (tm Z)) (xz (.i 0) Z (xe (aw_block (aw_while (σ := slices.IndexFunc_string_unit_may_1_1.S0) (ν := Unit) (slices.IndexFunc_string_unit_may_1_1.body0 s_) (fun s72 v => [(0, .sl .no 1 (m3L s_)), (1, .fn 75 []), (7, .i (s_.length : Int)), (8, .i s72.t8)]) (fun s72 v => []) ⟨0⟩ () _ h (wi [] Z) ?_))))))
 rintro s72 _ x74 h hx73
 unfold slices.IndexFunc_string_unit_may_1_1.body0 at h
 refine xr (xz (bd (s72.t8 < (s_.length : Int))) Z (xe (aw_seq (cd h Z (fun _ h => ?_) (fun _ h => ?_)))))
 refine aw_skip (aw_seq (aw_block (xr (xy Z (xy Z (xe (aw_seq (aw_region ?_))))))))
 refine xy Z (xy Z (xy Z ?_))
 obtain ⟨c76, h⟩ := need_of h
 refine xa (.vptr [.str (ix s_ s72.t8)]) Z (pu_indexAddrM Z underlying65 sizeOf9 (tm Z) (tm Z) c76 Z) (xc Z (op_loadV1 Z isAgg9 (tm Z) Z ?_))
 obtain ⟨r77, r77e, h⟩ := bind_some h
 refine xc Z (op_callV (vs := [.str (ix s_ s72.t8)]) (H := []) Z (tm Z) call75 ⟨(tm Z), trivial⟩ (List.Perm.refl _) (unit.may_1_1.ok r77e) ?_)
 rintro _ _ ⟨rfl, rfl⟩
 refine xe (cb h Z (fun _ h => ?_) (fun _ h => ?_))
 refine xr (xy Z (xy Z (xe (aw_ret ?_))))
 cases h
 cases congrArg some (hx73 _ rfl)
 cases onSum_inr h60
 exact rt ⟨Z, Z⟩ Z w0
 refine aw_skip (aw_region (xz (.i (w64 (s72.t8 + 1))) Z (xy Z (xe ?_))))
 cases h
 exact ⟨_, (), Z, wi [] Z⟩
 refine aw_exit ?_
 cases h
 have h := congrArg some (hx73 _ rfl)
 exact ⟨(), (), (some_of h).symm, w0⟩

theorem slices.ContainsFunc_string_unit_may_1_1.ok {s_ r} (h : slices.ContainsFunc_string_unit_may_1_1 s_ = some r) : Sp prog 76 [.sl .no 1 (m3L s_), .fn 75 []] [] (fun v H => v = .bool r ∧ H = []) := by
 unfold slices.ContainsFunc_string_unit_may_1_1 at h
 refine sb [.tmp 4] func76 Z (xr (xz (.bool false) Z (xe (xr (xy Z (xy Z ?_))))))
 obtain ⟨r2, r2e, h⟩ := bind_some h
 refine xo (slices.IndexFunc_string_unit_may_1_1.ok r2e) call95 Z (xz (bd (0 ≤ r2)) Z (xy Z (xe (aw_ret ?_))))
 cases h
 exact rt ⟨Z, Z⟩ Z w0

theorem unit.may_1.ok {c_ r} (h : unit.may_1 c_ = some r) : Sp prog 74 [.sl .no 1 (m3L c_)] [] (fun v H => v = .bool r ∧ H = []) := by
 unfold unit.may_1 at h
 refine sb [.tmp 2] func74 Z (xr (xz (.bool false) Z (xe (xr (xa (.fn 75 []) Z (pu_assign Z (AEv.func _)) (xe ?_))))))
 obtain ⟨s13, s13e, h14⟩ := bind_some h
 refine aw_meet (ν := Unit) (fun v => [(2, .bool s13)]) (fun v => []) ?_ ?_
 have h := s13e
 refine aw_region (xy Z (xa (.i (c_.length : Int)) Z (pu_lenM Z underlying65 (tm Z)) (xz (bd ((c_.length : Int) = 0)) Z (xy Z ?_))))
 rcases Bool.eq_false_or_eq_true (decide ((c_.length : Int) = 0)) with hb16 | hb16
 replace h := ite_t (dec_t hb16) h
 refine aops_known 7 Z hb16 (xu Z (xu Z (xu Z (xz (.bool true) Z (xy Z (xu Z (xu Z (xu Z (xz (.bool true) Z ?_)))))))))
 refine xy Z (xe ?_)
 cases h
 exact ⟨(), wi [] Z⟩
 replace h := ite_f (dec_f hb16) h
 refine aops_known 7 Z hb16 (xq Z Z Z Z (xp (.i (c_.length : Int)) Z Z (pu_lenM Z underlying65 (tm Z)) (xp (bd (65536 < (c_.length : Int))) Z Z (pe Z) (xz (bd (65536 < (c_.length : Int))) Z (xy Z ?_)))))
 rcases Bool.eq_false_or_eq_true (decide (65536 < (c_.length : Int))) with hb17 | hb17
 replace h := ite_t (dec_t hb17) h
 refine aops_known 12 Z hb17 (xu Z (xu Z (xu Z (xz (.bool true) Z (xy Z (xe ?_))))))
 cases h
 exact ⟨(), wi [] Z⟩
 replace h := ite_f (dec_f hb17) h
 refine aops_known 12 Z hb17 (xq Z Z Z Z (xq Z Z Z Z ?_))
 obtain ⟨r18, r18e, h⟩ := bind_some h
 refine xg Z Z (op_call (vs := [.sl .no 1 (m3L c_), .fn 75 []]) (H := []) Z call76 ⟨(tm Z), (tm Z), trivial⟩ (List.Perm.refl _) (slices.ContainsFunc_string_unit_may_1_1.ok r18e) ?_)
 rintro _ _ ⟨rfl, rfl⟩
 refine xz (.bool r18) Z (xy Z (xe ?_))
 cases h
 exact ⟨(), wi [] Z⟩
 intro _
 have h := h14
 refine aw_ret ?_
 cases h
 exact rt ⟨Z, Z⟩ Z w0

theorem slices.IndexFunc_strings_unit_may_1.ok {s_ r} (h : slices.IndexFunc_strings_unit_may_1 s_ = some r) : Sp prog 96 [.sl .no 1 (m4L s_), .fn 74 []] [] (fun v H => v = .i r ∧ H = []) := by
 unfold slices.IndexFunc_strings_unit_may_1 at h
 refine sb [.tmp 4] func96 Z (xr (xz (.i 0) Z (xe ?_)))
 obtain ⟨s80, s80e, h60⟩ := bind_some h
 refine aw_join (σ := Unit) (ν := Unit) (fun u v => []) (fun u v => []) (fun u => s80 = .inl u) ?_ ?_
 intro s59
 intro _
 rintro rfl
 have h := onSum_inl h60
 refine xr (xz (.i (-1)) Z (xe (aw_ret ?_)))
 cases h
 exact rt ⟨Z, Z⟩ Z w0
 have h := s80e
 refine xr (xy Z (xa (.i (s_.length : Int)) Z (pu_lenM Z underlying66 (tm Z)) (xz (.i 0) Z (xe (aw_block (aw_while (σ := slices.IndexFunc_strings_unit_may_1.S0) (ν := Unit) (slices.IndexFunc_strings_unit_may_1.body0 s_) (fun s72 v => [(0, .sl .no 1 (m4L s_)), (1, .fn 74 []), (7, .i (s_.length : Int)), (8, .i s72.t8)]) (fun s72 v => []) ⟨0⟩ () _ h (wi [] Z) ?_))))))
 rintro s72 _ x74 h hx73
 unfold slices.IndexFunc_strings_unit_may_1.body0 at h
 refine xr (xz (bd (s72.t8 < (s_.length : Int))) Z (xe (aw_seq (cd h Z (fun _ h => ?_) (fun _ h => ?_)))))
 refine aw_skip (aw_seq (aw_block (xr (xy Z (xy Z (xe (aw_seq (aw_region ?_))))))))
 refine xy Z (xy Z (xy Z ?_))
 obtain ⟨c76, h⟩ := need_of h
 refine xa (.vptr [.sl .no 1 (m3L (ix s_ s72.t8))]) Z (pu_indexAddrM Z underlying66 sizeOf65 (tm Z) (tm Z) c76 Z) (xc Z (op_loadV1 Z isAgg65 (tm Z) Z ?_))
 obtain ⟨r77, r77e, h⟩ := bind_some h
 refine xc Z (op_callV (vs := [.sl .no 1 (m3L (ix s_ s72.t8))]) (H := []) Z (tm Z) call74 ⟨(tm Z), trivial⟩ (List.Perm.refl _) (unit.may_1.ok r77e) ?_)
 rintro _ _ ⟨rfl, rfl⟩
 refine xe (cb h Z (fun _ h => ?_) (fun _ h => ?_))
 refine xr (xy Z (xy Z (xe (aw_ret ?_))))
 cases h
 cases congrArg some (hx73 _ rfl)
 cases onSum_inr h60
 exact rt ⟨Z, Z⟩ Z w0
 refine aw_skip (aw_region (xz (.i (w64 (s72.t8 + 1))) Z (xy Z (xe ?_))))
 cases h
 exact ⟨_, (), Z, wi [] Z⟩
 refine aw_exit ?_
 cases h
 have h := congrArg some (hx73 _ rfl)
 exact ⟨(), (), (some_of h).symm, w0⟩

theorem slices.ContainsFunc_strings_unit_may_1.ok {s_ r} (h : slices.ContainsFunc_strings_unit_may_1 s_ = some r) : Sp prog 77 [.sl .no 1 (m4L s_), .fn 74 []] [] (fun v H => v = .bool r ∧ H = []) := by
 unfold slices.ContainsFunc_strings_unit_may_1 at h
 refine sb [.tmp 4] func77 Z (xr (xz (.bool false) Z (xe (xr (xy Z (xy Z ?_))))))
 obtain ⟨r2, r2e, h⟩ := bind_some h
 refine xo (slices.IndexFunc_strings_unit_may_1.ok r2e) call96 Z (xz (bd (0 ≤ r2)) Z (xy Z (xe (aw_ret ?_))))
 cases h
 exact rt ⟨Z, Z⟩ Z w0

theorem unit.may.ok {u_ r} (h : unit.may u_ = some r) : Sp prog 50 [.agg [.sl .no 1 (m4L u_.Cmds)]] [] (fun v H => v = .bool r ∧ H = []) := by
 unfold unit.may at h
 refine sb [.tmp 2] func50 Z (xr (xb [.sl .no 1 (m4L u_.Cmds)] Z fun p11 => xz (.bool false) Z (xe (xr (xa (.fn 74 []) Z (pu_assign Z (AEv.func _)) (xe ?_))))))
 obtain ⟨s15, s15e, h16⟩ := bind_some h
 refine aw_meet (ν := Unit) (fun v => [(2, .bool s15)]) (fun v => []) ?_ ?_
 have h := s15e
 refine aw_region (xf (.ptr p11 0) underlying68 sizeOf66 Z (xl 0 isAgg66 Z (xa (.i (u_.Cmds.length : Int)) Z (pu_lenM Z underlying66 (tm Z)) (xz (bd (0 < (u_.Cmds.length : Int))) Z (xy Z ?_)))))
 rcases Bool.eq_false_or_eq_true (decide (0 < (u_.Cmds.length : Int))) with hb18 | hb18
 replace h := ite_t (dec_t hb18) h
 refine aops_known 8 Z hb18 (xp (.ptr p11 0) Z Z (fa Z underlying68 Z sizeOf66 Z Z Z) (xg Z Z (op_load1 (i := 0) Z isAgg66 (tm Z) Z Z (xp (.i (u_.Cmds.length : Int)) Z Z (pu_lenM Z underlying66 (tm Z)) (xp (bd ((u_.Cmds.length : Int) ≤ 4096)) Z Z (pe Z) (xz (bd ((u_.Cmds.length : Int) ≤ 4096)) Z (xy Z ?_)))))))
 rcases Bool.eq_false_or_eq_true (decide ((u_.Cmds.length : Int) ≤ 4096)) with hb19 | hb19
 replace h := ite_t (dec_t hb19) h
 refine aops_known 14 Z hb19 (xp (.ptr p11 0) Z Z (fa Z underlying68 Z sizeOf66 Z Z Z) (xg Z Z (op_load1 (i := 0) Z isAgg66 (tm Z) Z Z (xq Z Z Z Z ?_))))
 obtain ⟨r20, r20e, h⟩ := bind_some h
 refine xg Z Z (op_call (vs := [.sl .no 1 (m4L u_.Cmds), .fn 74 []]) (H := []) Z call77 ⟨(tm Z), (tm Z), trivial⟩ (List.Perm.refl _) (slices.ContainsFunc_strings_unit_may_1.ok r20e) ?_)
 rintro _ _ ⟨rfl, rfl⟩
 refine xp (.bool (!r20)) Z Z (pe Z) (xz (.bool (!r20)) Z (xy Z (xe ?_)))
 cases h
 exact ⟨(), wi [] Z⟩
 replace h := ite_f (dec_f hb19) h
 refine aops_known 14 Z hb19 (xu Z (xu Z (xu Z (xu Z (xu Z (xz (.bool false) Z (xy Z (xe ?_))))))))
 cases h
 exact ⟨(), wi [] Z⟩
 replace h := ite_f (dec_f hb18) h
 refine aops_known 8 Z hb18 (xu Z (xu Z (xu Z (xu Z (xz (.bool false) Z (xy Z (xu Z (xu Z (xu Z ?_)))))))))
 refine xu Z (xu Z (xz (.bool false) Z (xy Z (xe ?_))))
 cases h
 exact ⟨(), wi [] Z⟩
 intro _
 have h := h16
 refine aw_ret ?_
 cases h
 exact rt ⟨Z, Z⟩ Z w0

theorem num.Text.ok {n_ r} (h : num.Text n_ = some r) : Sp prog 97 [.i n_] [] (fun v H => v = .str r ∧ H = []) := by
 unfold num.Text at h
 refine sb [.tmp 2] func97 Z (xr (xa (.str nS) Z (pu_assign Z (AEv.const Z)) (xe (xr (xc Z (op_allocArr (len := 20) (sz := 1) (zs := [.int .u8 0, .int .u8 0, .int .u8 0, .int .u8 0, .int .u8 0, .int .u8 0, .int .u8 0, .int .u8 0, .int .u8 0, .int .u8 0, .int .u8 0, .int .u8 0, .int .u8 0, .int .u8 0, .int .u8 0, .int .u8 0, .int .u8 0, .int .u8 0, .int .u8 0, .int .u8 0]) byteAV (0 : UInt8) Z zeroValue180 Z Z Z (by decide) Z ?_))))))
 intro p67
 refine xe (xr (xz (.i 20) Z (xe (xr (xy Z (xa (.int .u64 (IntKind.wrap .u64 n_)) Z (pu_conv Z underlying2 underlying177 (tm Z)) (xy Z ?_)))))))
 refine xe ?_
 obtain ⟨s69, s69e, h70⟩ := letO_of h
 refine aw_meet (ν := Unit) (fun v => [(0, .i n_), (3, .eptr p67 0 0), (4, .i 20), (5, .int .u64 s69)]) (fun v => [(p67, .vec 1 (m5L (List.replicate 20 (0 : UInt8))))]) ?_ ?_
 have h := s69e.symm
 refine xr (xy Z (xz (bd (n_ < 0)) Z (xe (cd h Z (fun _ h => ?_) (fun _ h => ?_)))))
 refine aw_region (xy Z (xa (.int .u64 (IntKind.wrap .u64 (0 - (IntKind.wrap .u64 n_)))) Z (pu_neg Z (tm Z)) (xy Z (xe ?_))))
 subst h
 exact ⟨(), wi [0] Z⟩
 refine aw_skip ?_
 subst h
 exact ⟨(), wi [0] Z⟩
 intro _
 have h := h70
 obtain ⟨s94, s94e, h95⟩ := bind_some h
 refine aw_meet (ν := Unit) (fun v => [(0, .i n_), (3, .eptr p67 0 0), (4, .i s94.1)]) (fun v => [(p67, .vec 1 (m5L s94.2))]) ?_ ?_
 have h := s94e
 refine aw_block (aw_while (σ := num.Text.S0) (ν := Unit) num.Text.body0 (fun s109 v => [(0, .i n_), (3, .eptr p67 0 0), (4, .i s109.at_), (5, .int .u64 s109.u)]) (fun s109 v => [(p67, .vec 1 (m5L s109.v))]) ⟨20, s69, List.replicate 20 (0 : UInt8)⟩ () _ h (wi [0] Z) ?_)
 rintro s109 _ x111 h hx110
 unfold num.Text.body0 at h
 refine aw_block (xr (xy Z (xz (.i (w64 (s109.at_ - 1))) Z (xy Z (xe (xr (xy Z ?_)))))))
 refine xy Z (xa (.int .u64 (s109.u.tmod 10)) Z (pu_rem Z (tm Z) (AEv.int _ _) (by decide)) (xz (.int .u64 (IntKind.wrap .u64 (48 + (s109.u.tmod 10)))) Z (xa (.int .u8 (IntKind.wrap .u8 (IntKind.wrap .u64 (48 + (s109.u.tmod 10))))) Z (pu_conv Z underlying177 underlying5 (tm Z)) ?_)))
 obtain ⟨c113, h⟩ := need_of h
 obtain ⟨c114, h⟩ := need_of h
 refine xc Z (op_indexAddrArr (len := 20) (j := 0) Z underlying180 sizeOf5 (tm Z) Z (tm Z) c114 c113 ?_)
 obtain ⟨c115, h⟩ := need_of h
 obtain ⟨c116, h⟩ := need_of h
 refine ac0 Z Z (op_storeEM (i := 0) (sz := 1) (y' := u8 (IntKind.wrap .u8 (IntKind.wrap .u64 (48 + (s109.u.tmod 10))))) Z sizeOf5 (tm Z) (v := .int .u8 (IntKind.wrap .u8 (IntKind.wrap .u64 (48 + (s109.u.tmod 10))))) (tm Z) Z c115 Z Z (by decide) (congrArg AV.cells (byteAV_u8 c116.1 c116.2)) (xe (xr (xy Z (xa (.int .u64 (IntKind.wrap .u64 (s109.u.tdiv 10))) Z (pu_quo Z (tm Z) (AEv.int _ _) (by decide)) (xy Z (xe (aw_seq (aw_region ?_)))))))))
 refine xy Z (xz (bd ((IntKind.wrap .u64 (s109.u.tdiv 10)) = 0)) Z (xe (cd h Z (fun _ h => ?_) (fun _ h => ?_))))
 refine aw_exit ?_
 cases h
 cases congrArg some (hx110 _ rfl)
 exact ⟨(), wi [0] Z⟩
 refine aw_skip ?_
 cases h
 exact ⟨_, (), Z, wi [0] Z⟩
 intro _
 have h := h95
 obtain ⟨s123, s123e, h124⟩ := bind_some h
 refine aw_meet (ν := Unit) (fun v => [(3, .eptr p67 0 0), (4, .i s123.1)]) (fun v => [(p67, .vec 1 (m5L s123.2))]) ?_ ?_
 have h := s123e
 refine xr (xy Z (xz (bd (n_ < 0)) Z (xe (cd h Z (fun _ h => ?_) (fun _ h => ?_)))))
 refine xr (xy Z (xz (.i (w64 (s94.1 - 1))) Z (xy Z (xe (aw_region (xy Z ?_))))))
 obtain ⟨c126, h⟩ := need_of h
 obtain ⟨c127, h⟩ := need_of h
 refine xc Z (op_indexAddrArr (len := 20) (j := 0) Z underlying180 sizeOf5 (tm Z) Z (tm Z) c127 c126 ?_)
 obtain ⟨c128, h⟩ := need_of h
 obtain ⟨c129, h⟩ := need_of h
 refine ac0 Z Z (op_storeEM (i := 0) (sz := 1) (y' := u8 45) Z sizeOf5 (tm Z) (v := .int .u8 45) (AEv.int _ _) Z c128 Z Z (by decide) (congrArg AV.cells (byteAV_u8 c129.1 c129.2)) (xe ?_))
 cases h
 exact ⟨(), wi [0] Z⟩
 refine aw_skip ?_
 cases h
 exact ⟨(), wi [0] Z⟩
 intro _
 have h := h124
 refine xr (xy Z ?_)
 obtain ⟨c131, h⟩ := need_of h
 obtain ⟨c132, h⟩ := need_of h
 refine xc Z (op_sliceArr (q := 0) (len := 20) Z underlying180 sizeOf5 (tm Z) Z (by rw [List.length_map]; exact c132) ⟨_, (tm Z)⟩ (by rw [List.length_map]; rfl) (by rw [List.length_map]; exact c131) (map_sub byteAV _ _) (xc Z (op_bytesStr Z underlying114 underlying5 underlying9 (tm Z) (xy Z (xe (aw_ret ?_))))))
 cases h
 exact rt ⟨Z, Z⟩ Z w0

theorem parse.Put.ok {args r} (h : parse.Put args = some r) : Sp prog 78 [.sl .no 1 (m3L args)] [] (fun v H => v = .str r ∧ H = []) := by
 unfold parse.Put at h
 refine sb [.tmp 2] func78 Z (xr (xa (.str nS) Z (pu_assign Z (AEv.const Z)) (xe (xr (xc Z (op_allocBld (e := 5) Z zeroValue121 ?_))))))
 intro p75
 refine xe (xr (xy Z (xa (.i (args.length : Int)) Z (pu_lenM Z underlying65 (tm Z)) ?_)))
 obtain ⟨r76, r76e, h⟩ := bind_some h
 refine xo (num.Text.ok r76e) call97 Z ?_
 obtain ⟨c77, h⟩ := need_of h
 refine xa (.str ([42] ++ r76)) Z (pu_strAdd Z (AEv.const Z) (tm Z) c77) ?_
 obtain ⟨c78, h⟩ := need_of h
 refine xa (.str (([42] ++ r76) ++ [13, 10])) Z (pu_strAdd Z (tm Z) (AEv.const Z) c78) ?_
 obtain ⟨c79, h⟩ := need_of h
 refine xo (bld.WriteString.ok c79 p75) call72 Z (xe ?_)
 obtain ⟨s113, s113e, h114⟩ := bind_some h
 refine aw_meet (ν := Unit) (fun v => [(3, .aptr p75)]) (fun v => [(p75, .abs (bldAbs 121 5 s113))]) ?_ ?_
 have h := s113e
 refine xr (xy Z (xa (.i (args.length : Int)) Z (pu_lenM Z underlying65 (tm Z)) (xz (.i 0) Z (xe (aw_block (aw_while (σ := parse.Put.S0) (ν := Unit) (parse.Put.body0 args) (fun s136 v => [(3, .aptr p75), (12, .sl .no 1 (m3L args)), (13, .i (args.length : Int)), (14, .i s136.t14)]) (fun s136 v => [(p75, .abs (bldAbs 121 5 s136.b))]) ⟨0, nS ++ (([42] ++ r76) ++ [13, 10])⟩ () _ h (wi [0] Z) ?_))))))
 rintro s136 _ x138 h hx137
 unfold parse.Put.body0 at h
 refine xr (xz (bd (s136.t14 < (args.length : Int))) Z (xe (aw_seq (cd h Z (fun _ h => ?_) (fun _ h => ?_)))))
 refine aw_skip (aw_seq (aw_block (aw_seq (aw_region ?_))))
 obtain ⟨c140, h⟩ := need_of h
 refine xa (.vptr [.str (ix args s136.t14)]) Z (pu_indexAddrM Z underlying65 sizeOf9 (tm Z) (tm Z) c140 Z) (xc Z (op_loadV1 Z isAgg9 (tm Z) Z (xy Z (xe (aw_region (xy Z (xa (.i ((ix args s136.t14).length : Int)) Z (pu_strLen Z underlying9 (tm Z)) ?_)))))))
 obtain ⟨r141, r141e, h⟩ := bind_some h
 refine xo (num.Text.ok r141e) call97 Z ?_
 obtain ⟨c142, h⟩ := need_of h
 refine xa (.str ([36] ++ r141)) Z (pu_strAdd Z (AEv.const Z) (tm Z) c142) ?_
 obtain ⟨c143, h⟩ := need_of h
 refine xa (.str (([36] ++ r141) ++ [13, 10])) Z (pu_strAdd Z (tm Z) (AEv.const Z) c143) (xy Z ?_)
 obtain ⟨c144, h⟩ := need_of h
 obtain ⟨x145, x145e, h⟩ := letO_of h
 refine xa (.str x145) Z (APure.eq (pu_strAdd Z (tm Z) (tm Z) c144) (congrArg (AV.str) x145e.symm)) ?_
 obtain ⟨c146, h⟩ := need_of h
 refine xa (.str (x145 ++ [13, 10])) Z (pu_strAdd Z (tm Z) (AEv.const Z) c146) ?_
 obtain ⟨c147, h⟩ := need_of h
 refine xo (bld.WriteString.ok c147 p75) call72 Z (xe (aw_region (xz (.i (w64 (s136.t14 + 1))) Z (xy Z (xe ?_)))))
 cases h
 exact ⟨_, (), Z, wi [0] Z⟩
 refine aw_exit ?_
 cases h
 cases congrArg some (hx137 _ rfl)
 exact ⟨(), wi [0] Z⟩
 intro _
 have h := h114
 refine xr (xo (bld.String.ok p75) call73 Z (xy Z (xe (aw_ret ?_))))
 cases h
 exact rt ⟨Z, Z⟩ Z w0

theorem unit.load.ok {u_ r} (h : unit.load u_ = some r) : Sp prog 51 [.agg [.sl .no 1 (m4L u_.Cmds)]] [] (fun v H => v = .tup [.str r.1, .bool r.2] ∧ H = []) := by
 unfold unit.load at h
 refine sb [.tmp 2, .tmp 3] func51 Z (xr (xb [.sl .no 1 (m4L u_.Cmds)] Z fun p253 => xa (.str nS) Z (pu_assign Z (AEv.const Z)) (xz (.bool false) Z (xe (xr (xc Z (op_allocBld (e := 5) Z zeroValue121 ?_)))))))
 intro p254
 refine xe ?_
 obtain ⟨s504, s504e, h379⟩ := bind_some h
 refine aw_join (σ := List UInt8) (ν := Unit) (fun u v => [(4, .aptr p254)]) (fun u v => [(p254, .abs (bldAbs 121 5 u))]) (fun u => s504 = .inl u) ?_ ?_
 intro s378
 intro _
 rintro rfl
 have h := onSum_inl h379
 refine xr (xo (bld.String.ok p254) call73 Z (xy Z (xz (.bool true) Z (xe (aw_ret ?_)))))
 cases h
 exact rt ⟨Z, Z⟩ Z w0
 have h := s504e
 refine xr (xf (.ptr p253 0) underlying68 sizeOf66 Z (xl 1 isAgg66 Z (xa (.i (u_.Cmds.length : Int)) Z (pu_lenM Z underlying66 (tm Z)) (xz (.i 0) Z (xe (aw_block (aw_while (σ := unit.load.S0) (ν := Unit) (unit.load.body0 u_) (fun s461 v => [(4, .aptr p254), (11, .sl .no 1 (m4L u_.Cmds)), (12, .i (u_.Cmds.length : Int)), (13, .i s461.t13)]) (fun s461 v => [(p254, .abs (bldAbs 121 5 s461.b))]) ⟨0, nS⟩ () _ h (wi [0] Z) ?_)))))))
 rintro s461 _ x463 h hx462
 unfold unit.load.body0 at h
 refine xr (xz (bd (s461.t13 < (u_.Cmds.length : Int))) Z (xe (aw_seq (cd h Z (fun _ h => ?_) (fun _ h => ?_)))))
 refine aw_skip (aw_seq (aw_block (aw_seq (aw_region ?_))))
 obtain ⟨c465, h⟩ := need_of h
 refine xa (.vptr [.sl .no 1 (m3L (ix u_.Cmds s461.t13))]) Z (pu_indexAddrM Z underlying66 sizeOf65 (tm Z) (tm Z) c465 Z) (xc Z (op_loadV1 Z isAgg65 (tm Z) Z (xy Z (xe (xr (xz (.i 0) Z (xe ?_)))))))
 obtain ⟨s502, s502e, h482⟩ := bind_some h
 refine aw_join (σ := Unit) (ν := Unit) (fun u v => [(4, .aptr p254), (6, .sl .no 1 (m3L (ix u_.Cmds s461.t13))), (11, .sl .no 1 (m4L u_.Cmds)), (12, .i (u_.Cmds.length : Int)), (13, .i s461.t13)]) (fun u v => [(p254, .abs (bldAbs 121 5 s461.b))]) (fun u => s502 = .inl u) ?_ ?_
 intro s481
 intro _
 rintro rfl
 have h := onSum_inl h482
 refine xr (xy Z ?_)
 obtain ⟨r499, r499e, h⟩ := bind_some h
 refine xo (parse.Put.ok r499e) call78 Z ?_
 obtain ⟨c500, h⟩ := need_of h
 refine xo (bld.WriteString.ok c500 p254) call72 Z (xe (xr (xo (bld.Len.ok p254) call79 Z (xz (bd (4194304 < ((s461.b ++ r499).length : Int))) Z (xe (cd h Z (fun _ h => ?_) (fun _ h => ?_)))))))
 refine xr (xa (.str nS) Z (pu_assign Z (AEv.const Z)) (xz (.bool false) Z (xe (aw_ret ?_))))
 cases h
 cases congrArg some (hx462 _ rfl)
 cases onSum_inr h379
 exact rt ⟨Z, Z⟩ Z w0
 refine aw_skip (aw_region (xz (.i (w64 (s461.t13 + 1))) Z (xy Z (xe ?_))))
 cases h
 exact ⟨_, (), Z, wi [0] Z⟩
 have h := s502e
 refine xr (xy Z (xa (.i ((ix u_.Cmds s461.t13).length : Int)) Z (pu_lenM Z underlying65 (tm Z)) (xz (.i 0) Z (xe (aw_block (aw_while (σ := unit.load.S2) (ν := Unit) (unit.load.body2 u_ s461) (fun s492 v => [(4, .aptr p254), (6, .sl .no 1 (m3L (ix u_.Cmds s461.t13))), (7, .i s492.n), (11, .sl .no 1 (m4L u_.Cmds)), (12, .i (u_.Cmds.length : Int)), (13, .i s461.t13), (17, .sl .no 1 (m3L (ix u_.Cmds s461.t13))), (18, .i ((ix u_.Cmds s461.t13).length : Int)), (19, .i s492.t19)]) (fun s492 v => [(p254, .abs (bldAbs 121 5 s461.b))]) ⟨0, 0⟩ () _ h (wi [0] Z) ?_))))))
 rintro s492 _ x494 h hx493
 unfold unit.load.body2 at h
 refine xr (xz (bd (s492.t19 < ((ix u_.Cmds s461.t13).length : Int))) Z (xe (aw_seq (cd h Z (fun _ h => ?_) (fun _ h => ?_)))))
 refine aw_skip (aw_seq (aw_block (aw_seq (aw_region ?_))))
 obtain ⟨c496, h⟩ := need_of h
 refine xa (.vptr [.str (ix (ix u_.Cmds s461.t13) s492.t19)]) Z (pu_indexAddrM Z underlying65 sizeOf9 (tm Z) (tm Z) c496 Z) (xc Z (op_loadV1 Z isAgg9 (tm Z) Z (xy Z (xe (xr (xy Z (xy Z (xa (.i ((ix (ix u_.Cmds s461.t13) s492.t19).length : Int)) Z (pu_strLen Z underlying9 (tm Z)) (xz (.i (w64 (s492.n + ((ix (ix u_.Cmds s461.t13) s492.t19).length : Int)))) Z ?_)))))))))
 refine xy Z (xe (xr (xy Z (xz (bd (4194304 < (w64 (s492.n + ((ix (ix u_.Cmds s461.t13) s492.t19).length : Int))))) Z (xe (cd h Z (fun _ h => ?_) (fun _ h => ?_)))))))
 refine xr (xa (.str nS) Z (pu_assign Z (AEv.const Z)) (xz (.bool false) Z (xe (aw_ret ?_))))
 cases h
 cases congrArg some (hx493 _ rfl)
 cases onSum_inr h482
 cases congrArg some (hx462 _ rfl)
 cases onSum_inr h379
 exact rt ⟨Z, Z⟩ Z w0
 refine aw_skip (aw_region (xz (.i (w64 (s492.t19 + 1))) Z (xy Z (xe ?_))))
 cases h
 exact ⟨_, (), Z, wi [0] Z⟩
 refine aw_exit ?_
 cases h
 have h := congrArg some (hx493 _ rfl)
 exact ⟨(), (), (some_of h).symm, wi [0] Z⟩
 refine aw_exit ?_
 cases h
 have h := congrArg some (hx462 _ rfl)
 exact ⟨s461.b, (), (some_of h).symm, wi [0] Z⟩

theorem unit.four.ok {n_ r} (h : unit.four n_ = some r) : Sp prog 53 [.int .u32 n_] [] (fun v H => v = .str r ∧ H = []) := by
 unfold unit.four at h
 refine sb [.tmp 2] func53 Z (xr (xa (.str nS) Z (pu_assign Z (AEv.const Z)) (xe (xr (xy Z (xa (.int .u8 (IntKind.wrap .u8 n_)) Z (pu_conv Z underlying97 underlying5 (tm Z)) (xy Z ?_)))))))
 refine xa (.int .u32 (n_ / 2 ^ min (Int.toNat 8) (IntKind.bits .u32))) Z (pu_shr Z (tm Z) (AEv.int _ _) (by decide)) (xa (.int .u8 (IntKind.wrap .u8 (n_ / 2 ^ min (Int.toNat 8) (IntKind.bits .u32)))) Z (pu_conv Z underlying97 underlying5 (tm Z)) (xy Z (xa (.int .u32 (n_ / 2 ^ min (Int.toNat 16) (IntKind.bits .u32))) Z (pu_shr Z (tm Z) (AEv.int _ _) (by decide)) (xa (.int .u8 (IntKind.wrap .u8 (n_ / 2 ^ min (Int.toNat 16) (IntKind.bits .u32)))) Z (pu_conv Z underlying97 underlying5 (tm Z)) (xy Z (xa (.int .u32 (n_ / 2 ^ min (Int.toNat 24) (IntKind.bits .u32))) Z (pu_shr Z (tm Z) (AEv.int _ _) (by decide)) (xa (.int .u8 (IntKind.wrap .u8 (n_ / 2 ^ min (Int.toNat 24) (IntKind.bits .u32)))) Z (pu_conv Z underlying97 underlying5 (tm Z)) ?_)))))))
 obtain ⟨c5, h⟩ := need_of h
 obtain ⟨c6, h⟩ := need_of h
 obtain ⟨c7, h⟩ := need_of h
 obtain ⟨c8, h⟩ := need_of h
 refine xc Z (op_buildSlice (xs := ([u8 (IntKind.wrap .u8 n_), u8 (IntKind.wrap .u8 (n_ / 2 ^ min (Int.toNat 8) (IntKind.bits .u32))), u8 (IntKind.wrap .u8 (n_ / 2 ^ min (Int.toNat 16) (IntKind.bits .u32))), u8 (IntKind.wrap .u8 (n_ / 2 ^ min (Int.toNat 24) (IntKind.bits .u32)))] : List UInt8).map byteAV) (aparts := [(0, byteAV (u8 (IntKind.wrap .u8 n_))), (1, byteAV (u8 (IntKind.wrap .u8 (n_ / 2 ^ min (Int.toNat 8) (IntKind.bits .u32))))), (2, byteAV (u8 (IntKind.wrap .u8 (n_ / 2 ^ min (Int.toNat 16) (IntKind.bits .u32))))), (3, byteAV (u8 (IntKind.wrap .u8 (n_ / 2 ^ min (Int.toNat 24) (IntKind.bits .u32)))))]) Z underlying114 sizeOf5 zeroValue5 (by decide) (by decide) ⟨Z, (AEv.le (tm Z) (AV.Le.of_eq (byteAV_u8 c5.1 c5.2).symm)), ⟨Z, (AEv.le (tm Z) (AV.Le.of_eq (byteAV_u8 c6.1 c6.2).symm)), ⟨Z, (AEv.le (tm Z) (AV.Le.of_eq (byteAV_u8 c7.1 c7.2).symm)), ⟨Z, (AEv.le (tm Z) (AV.Le.of_eq (byteAV_u8 c8.1 c8.2).symm)), trivial⟩⟩⟩⟩ Z Z Z (xc Z (op_bytesStr Z underlying114 underlying5 underlying9 (tm Z) (xy Z (xe (aw_ret ?_))))))
 cases h
 exact rt ⟨Z, Z⟩ Z w0

theorem crc.Byte.ok {n_ b r} (h : crc.Byte n_ b = some r) : Sp prog 118 [.int .u32 n_, .int .u8 b] [] (fun v H => v = .int .u32 r ∧ H = []) := by
 unfold crc.Byte at h
 refine sb [.tmp 4] func118 Z (xr (xz (.int .u32 0) Z (xe (xr (xy Z (xy Z (xa (.int .u32 (IntKind.wrap .u32 b)) Z (pu_conv Z underlying5 underlying97 (tm Z)) ?_)))))))
 refine xz (.int .u32 (Go.bits .xor .u32 n_ (IntKind.wrap .u32 b))) Z (xy Z (xe ?_))
 obtain ⟨s43, s43e, h44⟩ := bind_some h
 refine aw_meet (ν := Unit) (fun v => [(0, .int .u32 s43)]) (fun v => []) ?_ ?_
 have h := s43e
 refine xr (xz (.i 0) Z (xe (aw_block (aw_while (σ := crc.Byte.S0) (ν := Unit) crc.Byte.body0 (fun s53 v => [(0, .int .u32 s53.n), (9, .i s53.t9)]) (fun s53 v => []) ⟨Go.bits .xor .u32 n_ (IntKind.wrap .u32 b), 0⟩ () _ h (wi [] Z) ?_))))
 rintro s53 _ x55 h hx54
 unfold crc.Byte.body0 at h
 refine xr (xz (bd (s53.t9 < 8)) Z (xe (aw_seq (cd h Z (fun _ h => ?_) (fun _ h => ?_)))))
 refine aw_skip (aw_seq (aw_block (aw_region (xy Z (xa (.int .u32 (s53.n / 2 ^ min (Int.toNat 1) (IntKind.bits .u32))) Z (pu_shr Z (tm Z) (AEv.int _ _) (by decide)) (xy Z (xz (.int .u32 (Go.bits .and .u32 s53.n 1)) Z (xa (.int .u32 (IntKind.wrap .u32 (0 - (Go.bits .and .u32 s53.n 1)))) Z (pu_neg Z (tm Z)) (xz (.int .u32 (Go.bits .and .u32 3988292384 (IntKind.wrap .u32 (0 - (Go.bits .and .u32 s53.n 1))))) Z ?_)))))))))
 obtain ⟨x57, x57e, h⟩ := letO_of h
 refine xa (.int .u32 x57) Z (APure.eq (pe Z) (congrArg (AV.int .u32) x57e.symm)) (xy Z (xe (aw_region (xz (.i (w64 (s53.t9 + 1))) Z (xy Z (xe ?_))))))
 cases h
 exact ⟨_, (), Z, wi [] Z⟩
 refine aw_exit ?_
 cases h
 cases congrArg some (hx54 _ rfl)
 exact ⟨(), wi [] Z⟩
 intro _
 have h := h44
 refine xr (xy Z (xy Z (xe (aw_ret ?_))))
 cases h
 exact rt ⟨Z, Z⟩ Z w0

theorem crc.More.ok {n_ s_ r} (h : crc.More n_ s_ = some r) : Sp prog 98 [.int .u32 n_, .str s_] [] (fun v H => v = .int .u32 r ∧ H = []) := by
 unfold crc.More at h
 refine sb [.tmp 4] func98 Z (xr (xz (.int .u32 0) Z (xe ?_)))
 obtain ⟨s49, s49e, h50⟩ := bind_some h
 refine aw_meet (ν := Unit) (fun v => [(0, .int .u32 s49)]) (fun v => []) ?_ ?_
 have h := s49e
 refine xr (xy Z (xa (.i (s_.length : Int)) Z (pu_strLen Z underlying9 (tm Z)) (xz (.i 0) Z (xe (aw_block (aw_while (σ := crc.More.S0) (ν := Unit) (crc.More.body0 s_) (fun s60 v => [(0, .int .u32 s60.n), (1, .str s_), (7, .i (s_.length : Int)), (8, .i s60.t8)]) (fun s60 v => []) ⟨n_, 0⟩ () _ h (wi [] Z) ?_))))))
 rintro s60 _ x62 h hx61
 unfold crc.More.body0 at h
 refine xr (xz (bd (s60.t8 < (s_.length : Int))) Z (xe (aw_seq (cd h Z (fun _ h => ?_) (fun _ h => ?_)))))
 refine aw_skip (aw_seq (aw_block (xr (xy Z (xy Z (xe (aw_region (xy Z ?_))))))))
 refine xy Z (xy Z ?_)
 obtain ⟨c64, h⟩ := need_of h
 refine xa (.int .u8 (bix s_ s60.t8)) Z (pu_strIdxM Z underlying9 (tm Z) (tm Z) c64) ?_
 obtain ⟨r65, r65e, h⟩ := bind_some h
 refine xo (crc.Byte.ok r65e) call118 Z (xy Z (xe (aw_region (xz (.i (w64 (s60.t8 + 1))) Z (xy Z (xe ?_))))))
 cases h
 exact ⟨_, (), Z, wi [] Z⟩
 refine aw_exit ?_
 cases h
 cases congrArg some (hx61 _ rfl)
 exact ⟨(), wi [] Z⟩
 intro _
 have h := h50
 refine xr (xy Z (xy Z (xe (aw_ret ?_))))
 cases h
 exact rt ⟨Z, Z⟩ Z w0

theorem crc.Of.ok {parts r} (h : crc.Of parts = some r) : Sp prog 80 [.sl .no 1 (m3L parts)] [] (fun v H => v = .int .u32 r ∧ H = []) := by
 unfold crc.Of at h
 refine sb [.tmp 2] func80 Z (xr (xz (.int .u32 0) Z (xe (xr (xz (.int .u32 4294967295) Z (xe ?_))))))
 obtain ⟨s49, s49e, h50⟩ := bind_some h
 refine aw_meet (ν := Unit) (fun v => [(3, .int .u32 s49)]) (fun v => []) ?_ ?_
 have h := s49e
 refine xr (xy Z (xa (.i (parts.length : Int)) Z (pu_lenM Z underlying65 (tm Z)) (xz (.i 0) Z (xe (aw_block (aw_while (σ := crc.Of.S0) (ν := Unit) (crc.Of.body0 parts) (fun s60 v => [(3, .int .u32 s60.n), (6, .sl .no 1 (m3L parts)), (7, .i (parts.length : Int)), (8, .i s60.t8)]) (fun s60 v => []) ⟨4294967295, 0⟩ () _ h (wi [] Z) ?_))))))
 rintro s60 _ x62 h hx61
 unfold crc.Of.body0 at h
 refine xr (xz (bd (s60.t8 < (parts.length : Int))) Z (xe (aw_seq (cd h Z (fun _ h => ?_) (fun _ h => ?_)))))
 refine aw_skip (aw_seq (aw_block (aw_seq (aw_region ?_))))
 obtain ⟨c64, h⟩ := need_of h
 refine xa (.vptr [.str (ix parts s60.t8)]) Z (pu_indexAddrM Z underlying65 sizeOf9 (tm Z) (tm Z) c64 Z) (xc Z (op_loadV1 Z isAgg9 (tm Z) Z (xy Z (xe (aw_region (xy Z (xy Z ?_)))))))
 obtain ⟨r65, r65e, h⟩ := bind_some h
 refine xo (crc.More.ok r65e) call98 Z (xy Z (xe (aw_region (xz (.i (w64 (s60.t8 + 1))) Z (xy Z (xe ?_))))))
 cases h
 exact ⟨_, (), Z, wi [] Z⟩
 refine aw_exit ?_
 cases h
 cases congrArg some (hx61 _ rfl)
 exact ⟨(), wi [] Z⟩
 intro _
 have h := h50
 refine xr (xy Z (xa (.int .u32 (Go.bits .xor .u32 (if IntKind.signed .u32 then -1 else IntKind.max .u32) s49)) Z (pu_compl Z (tm Z)) (xy Z (xe (aw_ret ?_)))))
 cases h
 exact rt ⟨Z, Z⟩ Z w0

theorem crc.Seal.ok {s_ r} (h : crc.Seal s_ = some r) : Sp prog 52 [.str s_] [] (fun v H => v = .str r ∧ H = []) := by
 unfold crc.Seal at h
 refine sb [.tmp 2] func52 Z (xr (xa (.str nS) Z (pu_assign Z (AEv.const Z)) (xe (xr (xy Z (xc Z (op_buildSlice (xs := ([s_] : List (List UInt8)).map AV.str) (aparts := [(0, .str s_)]) Z underlying65 sizeOf9 zeroValue9 (by decide) (by decide) ⟨Z, (tm Z), trivial⟩ Z Z Z ?_)))))))
 obtain ⟨r8, r8e, h⟩ := bind_some h
 refine xc Z (op_call (vs := [.sl .no 1 ([s_].map AV.str)]) (H := []) Z call80 ⟨(AEv.le (tm Z) (AV.Le.forget _ _ _)), trivial⟩ (List.Perm.refl _) (crc.Of.ok r8e) ?_)
 rintro _ _ ⟨rfl, rfl⟩
 refine xy Z (xe (xr (xy Z (xy Z (xa (.int .u8 (IntKind.wrap .u8 r8)) Z (pu_conv Z underlying97 underlying5 (tm Z)) (xy Z (xa (.int .u32 (r8 / 2 ^ min (Int.toNat 8) (IntKind.bits .u32))) Z (pu_shr Z (tm Z) (AEv.int _ _) (by decide)) (xa (.int .u8 (IntKind.wrap .u8 (r8 / 2 ^ min (Int.toNat 8) (IntKind.bits .u32)))) Z (pu_conv Z underlying97 underlying5 (tm Z)) ?_))))))))
 refine xy Z (xa (.int .u32 (r8 / 2 ^ min (Int.toNat 16) (IntKind.bits .u32))) Z (pu_shr Z (tm Z) (AEv.int _ _) (by decide)) (xa (.int .u8 (IntKind.wrap .u8 (r8 / 2 ^ min (Int.toNat 16) (IntKind.bits .u32)))) Z (pu_conv Z underlying97 underlying5 (tm Z)) (xy Z (xa (.int .u32 (r8 / 2 ^ min (Int.toNat 24) (IntKind.bits .u32))) Z (pu_shr Z (tm Z) (AEv.int _ _) (by decide)) (xa (.int .u8 (IntKind.wrap .u8 (r8 / 2 ^ min (Int.toNat 24) (IntKind.bits .u32)))) Z (pu_conv Z underlying97 underlying5 (tm Z)) ?_)))))
 obtain ⟨c9, h⟩ := need_of h
 obtain ⟨c10, h⟩ := need_of h
 obtain ⟨c11, h⟩ := need_of h
 obtain ⟨c12, h⟩ := need_of h
 refine xc Z (op_buildSlice (xs := ([u8 (IntKind.wrap .u8 r8), u8 (IntKind.wrap .u8 (r8 / 2 ^ min (Int.toNat 8) (IntKind.bits .u32))), u8 (IntKind.wrap .u8 (r8 / 2 ^ min (Int.toNat 16) (IntKind.bits .u32))), u8 (IntKind.wrap .u8 (r8 / 2 ^ min (Int.toNat 24) (IntKind.bits .u32)))] : List UInt8).map byteAV) (aparts := [(0, byteAV (u8 (IntKind.wrap .u8 r8))), (1, byteAV (u8 (IntKind.wrap .u8 (r8 / 2 ^ min (Int.toNat 8) (IntKind.bits .u32))))), (2, byteAV (u8 (IntKind.wrap .u8 (r8 / 2 ^ min (Int.toNat 16) (IntKind.bits .u32))))), (3, byteAV (u8 (IntKind.wrap .u8 (r8 / 2 ^ min (Int.toNat 24) (IntKind.bits .u32)))))]) Z underlying114 sizeOf5 zeroValue5 (by decide) (by decide) ⟨Z, (AEv.le (tm Z) (AV.Le.of_eq (byteAV_u8 c9.1 c9.2).symm)), ⟨Z, (AEv.le (tm Z) (AV.Le.of_eq (byteAV_u8 c10.1 c10.2).symm)), ⟨Z, (AEv.le (tm Z) (AV.Le.of_eq (byteAV_u8 c11.1 c11.2).symm)), ⟨Z, (AEv.le (tm Z) (AV.Le.of_eq (byteAV_u8 c12.1 c12.2).symm)), trivial⟩⟩⟩⟩ Z Z Z (xc Z (op_bytesStr Z underlying114 underlying5 underlying9 (tm Z) ?_)))
 obtain ⟨c13, h⟩ := need_of h
 obtain ⟨x14, x14e, h⟩ := letO_of h
 refine xa (.str x14) Z (APure.eq (pu_strAdd Z (tm Z) (tm Z) c13) (congrArg (AV.str) x14e.symm)) (xy Z (xe (aw_ret ?_)))
 cases h
 exact rt ⟨Z, Z⟩ Z w0

theorem unit.Put.ok {u_ r} (h : unit.Put u_ = some r) : Sp prog 24 [.agg [.sl .no 1 (m4L u_.Cmds)]] [] (fun v H => v = .tup [.str r.1, .i r.2] ∧ H = []) := by
 unfold unit.Put at h
 refine sb [.tmp 2, .tmp 3] func24 Z (xr (xb [.sl .no 1 (m4L u_.Cmds)] Z fun p10 => xa (.str nS) Z (pu_assign Z (AEv.const Z)) (xz (.i 0) Z (xe (aw_seq (xr (xL 0 isAgg68 sizeOf68 Z ?_)))))))
 obtain ⟨r11, r11e, h⟩ := bind_some h
 refine xo (unit.may.ok r11e) call50 Z (xz (.bool (!r11)) Z (xe (cb h Z (fun _ h => ?_) (fun _ h => ?_))))
 refine xr (xa (.str nS) Z (pu_assign Z (AEv.const Z)) (xz (.i 1) Z (xe (aw_ret ?_))))
 cases h
 exact rt ⟨Z, Z⟩ Z w0
 refine aw_skip (xr (xL 0 isAgg68 sizeOf68 Z ?_))
 obtain ⟨r12, r12e, h⟩ := bind_some h
 refine xo (unit.load.ok r12e) call51 Z (xy Z (xz (.str r12.1) Z (xz (.bool r12.2) Z (xy Z (xy Z (xe (aw_seq (xr (xy Z ?_)))))))))
 refine xz (.bool (!r12.2)) Z (xe (cb h Z (fun _ h => ?_) (fun _ h => ?_)))
 refine xr (xa (.str nS) Z (pu_assign Z (AEv.const Z)) (xz (.i 6) Z (xe (aw_ret ?_))))
 cases h
 exact rt ⟨Z, Z⟩ Z w0
 refine aw_skip (xr (xy Z (xa (.i (r12.1.length : Int)) Z (pu_strLen Z underlying9 (tm Z)) (xa (.int .u32 (IntKind.wrap .u32 (r12.1.length : Int))) Z (pu_conv Z underlying3 underlying97 (tm Z)) ?_))))
 obtain ⟨r13, r13e, h⟩ := bind_some h
 refine xo (unit.four.ok r13e) call53 Z ?_
 obtain ⟨c14, h⟩ := need_of h
 refine xa (.str ([85] ++ r13)) Z (pu_strAdd Z (AEv.const Z) (tm Z) c14) (xy Z ?_)
 obtain ⟨c15, h⟩ := need_of h
 refine xa (.str (([85] ++ r13) ++ r12.1)) Z (pu_strAdd Z (tm Z) (tm Z) c15) ?_
 obtain ⟨r16, r16e, h⟩ := bind_some h
 refine xo (crc.Seal.ok r16e) call52 Z (xy Z (xz (.i 0) Z (xe (aw_ret ?_))))
 cases h
 exact rt ⟨Z, Z⟩ Z w0

theorem restore.Other.ok {name r} (h : restore.Other name = some r) : Sp prog 12 [.str name] [] (fun v H => v = .str r ∧ H = []) := by
 unfold restore.Other at h
 refine sb [.tmp 2] func12 Z (xr (xa (.str nS) Z (pu_assign Z (AEv.const Z)) (xe (xr (xy Z ?_)))))
 obtain ⟨c2, h⟩ := need_of h
 refine xa (.str (name ++ [46, 110, 101, 119])) Z (pu_strAdd Z (tm Z) (AEv.const Z) c2) (xy Z (xe (aw_ret ?_)))
 cases h
 exact rt ⟨Z, Z⟩ Z w0

theorem slices.Clone_api_File.ok {s r} (h : slices.Clone_api_File s = some r) : Sp prog 81 [.sl .no 3 (m0L s)] [] (fun v H => ∃ n0, v = .vec n0 ∧ H = [(n0, .vec 3 (m0L r))]) := by
 unfold slices.Clone_api_File at h
 obtain ⟨c, h⟩ := need_of h
 cases h
 refine sb [.tmp 2] func81 Z (xr (xa (.sl .full 3 e0L) Z (pu_assign Z (AEv.nil 3 (by decide))) (xe (aw_seq (xr (xy Z (xc Z (op_nilSlice Z underlying22 (tm Z) fun b hb => ?_))))))))
 refine xe (aw_cond (tm Z) (fun hb2 => ?_) (fun hb2 => ?_))
 have hs : s = [] := List.map_eq_nil_iff.1 (hb hb2)
 subst hs
 refine xr (xa (.sl .full 3 e0L) Z (pu_assign Z (AEv.nil 3 (by decide))) (xe (aw_vecNil 2 (tm Z) fun t => (aw_ret ?_))))
 exact rq [.vec t] ⟨t, Z, Z⟩ (AV.Le.refl _) ⟨tm Z, trivial⟩ (wi [0] Z)
 refine aw_skip (xr (xc Z (op_buildSlice (xs := ([] : List api.File).map api.File.av) (aparts := []) Z underlying22 sizeOf60 zeroValue60 (by decide) (by decide) trivial Z Z Z (xy Z (xc Z (op_appendNVM (sz := 3) Z underlying22 underlying22 (.inl Z) typeInfo60 Z Z Z (by decide) (tm Z) (given_sl (tm Z)) c ?_))))))
 intro t
 refine xy Z (xe (aw_ret ?_))
 exact rq [.vec t] ⟨t, Z, Z⟩ (AV.Le.refl _) ⟨tm Z, trivial⟩ (wi [0] Z)

theorem slices.Clone_api_Fault.ok {s r} (h : slices.Clone_api_Fault s = some r) : Sp prog 82 [.sl .no 3 (m1L s)] [] (fun v H => ∃ n0, v = .vec n0 ∧ H = [(n0, .vec 3 (m1L r))]) := by
 unfold slices.Clone_api_Fault at h
 obtain ⟨c, h⟩ := need_of h
 cases h
 refine sb [.tmp 2] func82 Z (xr (xa (.sl .full 3 e1L) Z (pu_assign Z (AEv.nil 3 (by decide))) (xe (aw_seq (xr (xy Z (xc Z (op_nilSlice Z underlying23 (tm Z) fun b hb => ?_))))))))
 refine xe (aw_cond (tm Z) (fun hb2 => ?_) (fun hb2 => ?_))
 have hs : s = [] := List.map_eq_nil_iff.1 (hb hb2)
 subst hs
 refine xr (xa (.sl .full 3 e1L) Z (pu_assign Z (AEv.nil 3 (by decide))) (xe (aw_vecNil 2 (tm Z) fun t => (aw_ret ?_))))
 exact rq [.vec t] ⟨t, Z, Z⟩ (AV.Le.refl _) ⟨tm Z, trivial⟩ (wi [0] Z)
 refine aw_skip (xr (xc Z (op_buildSlice (xs := ([] : List api.Fault).map api.Fault.av) (aparts := []) Z underlying23 sizeOf79 zeroValue79 (by decide) (by decide) trivial Z Z Z (xy Z (xc Z (op_appendNVM (sz := 3) Z underlying23 underlying23 (.inl Z) typeInfo79 Z Z Z (by decide) (tm Z) (given_sl (tm Z)) c ?_))))))
 intro t
 refine xy Z (xe (aw_ret ?_))
 exact rq [.vec t] ⟨t, Z, Z⟩ (AV.Le.refl _) ⟨tm Z, trivial⟩ (wi [0] Z)

theorem disk.own.ok {d r} (h : disk.own d = some r) : Sp prog 54 [.agg [.sl .no 3 (m0L d.Files), .sl .no 3 (m1L d.Faults)]] [] (fun v H => ∃ n0 n1, v = .agg [.vec n0, .vec n1] ∧ H = [(n0, .vec 3 (m0L r.Files)), (n1, .vec 3 (m1L r.Faults))]) := by
 unfold disk.own at h
 refine sb [.cell 2 25] func54 Z (xr (xb [.sl .no 3 (m0L d.Files), .sl .no 3 (m1L d.Faults)] Z fun p7 => xA (.agg [.sl .full 3 e0L, .sl .full 3 e1L]) zeroValue25 Z fun p8 => xe (aw_seq ?_)))
 obtain ⟨r9, r9e, h⟩ := bind_some h
 obtain ⟨r11, r11e, h⟩ := bind_some h
 refine aw_reserve fun p10 => (aw_reserve fun p12 => (aw_planR (by decide +kernel) [[], [(3, 0, false)], [(1, 0, true)], [], [(3, 0, false)], [(0, 0, true)], [], [(2, 0, true)]] [[5], [2], [7], []] [[[(p12, .resv)], [(p12, .vec 3 (m1L r11))]], [[(p10, .resv)], [(p10, .vec 3 (m0L r9))]], [[(p8, .cells [.sl .full 3 e0L, .sl .full 3 e1L])], [(p8, .cells [.vec p10, .vec p12])]], [[(p7, .cells [.sl .no 3 (m0L d.Files), .sl .no 3 (m1L d.Faults)])]]] [.ptr p7 0, .sl .no 3 (m0L d.Files), .vec p10, .ptr p7 1, .sl .no 3 (m1L d.Faults), .vec p12, .agg [.vec p10, .vec p12], .un] (by decide +kernel) Z Z ?_ ?_))
 exact ⟨yp Z (fa Z underlying25 Z sizeOf22 Z Z Z), stepg_plain Z (op_load1 (i := 0) Z isAgg22 (tm Z) Z Z ⟨Z, Z⟩), stepg_plain Z (aop_settleV (op_call (vs := [.sl .no 3 (m0L d.Files)]) (H := []) (R := [(p10, .resv)]) Z call81 ⟨(tm Z), trivial⟩ (List.Perm.refl _) (slices.Clone_api_File.ok r9e) (by rintro _ _ ⟨t, rfl, rfl⟩; exact ⟨t, Z, Z⟩)) ⟨Z, Z⟩), yp Z (fa Z underlying25 Z sizeOf23 Z Z Z), stepg_plain Z (op_load1 (i := 0) Z isAgg23 (tm Z) Z Z ⟨Z, Z⟩), stepg_plain Z (aop_settleV (op_call (vs := [.sl .no 3 (m1L d.Faults)]) (H := []) (R := [(p12, .resv)]) Z call82 ⟨(tm Z), trivial⟩ (List.Perm.refl _) (slices.Clone_api_Fault.ok r11e) (by rintro _ _ ⟨t, rfl, rfl⟩; exact ⟨t, Z, Z⟩)) ⟨Z, Z⟩), yp Z (pu_build (zs := [.sl .full 3 e0L, .sl .full 3 e1L]) (szs := [1, 1]) (aparts := [(0, .vec p10), (1, .vec p12)]) (cs := [.vec p10, .vec p12]) Z underlying25 zeroValue25 Z ⟨sizeOf22, sizeOf23, trivial⟩ ⟨Z, (tm Z), ⟨Z, (tm Z), trivial⟩⟩ Z), stepg_plain Z (op_store (i := 0) (cs' := [.vec p10, .vec p12]) Z sizeOf25 (tm Z) (v := .agg [.vec p10, .vec p12]) (tm Z) Z Z Z (nb Z) Z ⟨Z, Z⟩), trivial⟩
 refine aw_ret ?_
 cases h
 exact rq [.agg [.vec p10, .vec p12]] ⟨p10, p12, Z, Z⟩ vr ⟨(CellOk.agg 2 (tm Z) Z isAgg25 sizeOf25 (nb Z) Z), trivial⟩ (wi [1, 0] Z)

theorem disk.Remove_1.ok {f a1_ r} (h : disk.Remove_1 f a1_ = some r) (o0 : Nat) : Sp prog 56 [.agg [.str f.Name, .str f.Data, .i f.Synced], .ptr o0 0] [(o0, .cells [.str a1_])] (fun v H => v = .bool r ∧ H = [(o0, .cells [.str a1_])]) := by
 unfold disk.Remove_1 at h
 refine sb [.tmp 3] func56 Z (xr (xb [.str f.Name, .str f.Data, .i f.Synced] Z fun p2 => xz (.bool false) Z (xe (xr (xf (.ptr p2 0) underlying60 sizeOf9 Z (xl 0 isAgg9 Z (xl 1 isAgg9 Z (xa (bd (f.Name = a1_)) Z (pu_str (v := bd (f.Name = a1_)) Z Z (tm Z) (tm Z) Z) (xy Z (xe ?_))))))))))
 refine aw_ret ?_
 cases h
 exact rt ⟨Z, Z⟩ Z (wi [1] Z)

theorem slices.IndexFunc_api_File_v_disk_Remove_1.ok {s_ b1_ r} (h : slices.IndexFunc_api_File_v_disk_Remove_1 s_ b1_ = some r) (o0 o1 : Nat) : Sp prog 69 [.vec o0, .fn 56 [.ptr o1 0]] [(o0, .vec 3 (m0L s_)), (o1, .cells [.str b1_])] (fun v H => v = .i r ∧ H = [(o0, .vec 3 (m0L s_)), (o1, .cells [.str b1_])]) := by
 unfold slices.IndexFunc_api_File_v_disk_Remove_1 at h
 refine sb [.tmp 4] func69 Z (xr (xz (.i 0) Z (xe ?_)))
 obtain ⟨s92, s92e, h69⟩ := bind_some h
 refine aw_join (σ := Unit) (ν := Unit) (fun u v => []) (fun u v => [(o0, .vec 3 (m0L s_)), (o1, .cells [.str b1_])]) (fun u => s92 = .inl u) ?_ ?_
 intro s68
 intro _
 rintro rfl
 have h := onSum_inl h69
 refine xr (xz (.i (-1)) Z (xe (aw_ret ?_)))
 cases h
 exact rt ⟨Z, Z⟩ Z (wi [0, 1] Z)
 have h := s92e
 refine xr (xy Z (xc Z (op_lenVecM (i := 0) Z underlying22 (tm Z) Z (xz (.i 0) Z (xe (aw_block (aw_while (σ := slices.IndexFunc_api_File_v_disk_Remove_1.S0) (ν := Unit) (slices.IndexFunc_api_File_v_disk_Remove_1.body0 s_ b1_) (fun s83 v => [(0, .vec o0), (1, .fn 56 [.ptr o1 0]), (7, .i (s_.length : Int)), (8, .i s83.t8)]) (fun s83 v => [(o0, .vec 3 (m0L s_)), (o1, .cells [.str b1_])]) ⟨0⟩ () _ h (wi [0, 1] Z) ?_)))))))
 rintro s83 _ x85 h hx84
 unfold slices.IndexFunc_api_File_v_disk_Remove_1.body0 at h
 refine xr (xz (bd (s83.t8 < (s_.length : Int))) Z (xe (aw_seq (cd h Z (fun _ h => ?_) (fun _ h => ?_)))))
 refine aw_skip (aw_seq (aw_block (xr (xy Z (xy Z (xe (aw_seq (aw_region ?_))))))))
 refine xy Z (xy Z (xy Z ?_))
 obtain ⟨c87, h⟩ := need_of h
 refine xc Z (op_indexAddrVecM Z underlying22 sizeOf60 (tm Z) (j := 0) Z (tm Z) c87 ?_)
 obtain ⟨c88, h⟩ := need_of h
 refine xc Z (op_loadENM (i := 0) (sz := 3) Z isAgg60 sizeOf60 (tm Z) Z c88 (by decide) Z ?_)
 obtain ⟨r89, r89e, h⟩ := bind_some h
 refine aops_weak (weak_pick [1, 0] (by decide) Z) (xc Z (op_callV (vs := [.agg [.str (ix s_ s83.t8).Name, .str (ix s_ s83.t8).Data, .i (ix s_ s83.t8).Synced]]) (H := [(o1, .cells [.str b1_])]) Z (tm Z) call56 ⟨(tm Z), trivial⟩ (List.Perm.refl _) (disk.Remove_1.ok r89e o1) ?_))
 rintro _ _ ⟨rfl, rfl⟩
 refine xe (cb h Z (fun _ h => ?_) (fun _ h => ?_))
 refine xr (xy Z (xy Z (xe (aw_ret ?_))))
 cases h
 cases congrArg some (hx84 _ rfl)
 cases onSum_inr h69
 exact rt ⟨Z, Z⟩ Z (wi [1, 0] Z)
 refine aw_skip (aw_region (xz (.i (w64 (s83.t8 + 1))) Z (xy Z (xe ?_))))
 cases h
 exact ⟨_, (), Z, wi [1, 0] Z⟩
 refine aw_exit ?_
 cases h
 have h := congrArg some (hx84 _ rfl)
 exact ⟨(), (), (some_of h).symm, wi [0, 1] Z⟩

theorem slices.DeleteFunc_api_File_v_disk_Remove_1.ok {s_ b1_ r} (h : slices.DeleteFunc_api_File_v_disk_Remove_1 s_ b1_ = some r) (o0 o1 : Nat) : Sp prog 55 [.vec o0, .fn 56 [.ptr o1 0]] [(o0, .vec 3 (m0L s_)), (o1, .cells [.str b1_])] (fun v H => ∃ n0, v = .vec n0 ∧ H = [(o1, .cells [.str b1_]), (n0, .vec 3 (m0L r))]) := by
 unfold slices.DeleteFunc_api_File_v_disk_Remove_1 at h
 refine sb [.tmp 4] func55 Z (xr (xa (.sl .full 3 e0L) Z (pu_assign Z (AEv.nil 3 (by decide))) (xe (xr (xy Z (xy Z ?_))))))
 obtain ⟨r129, r129e, h⟩ := bind_some h
 refine xo (slices.IndexFunc_api_File_v_disk_Remove_1.ok r129e o0 o1) call69 Z (xy Z (xe (aw_seq (xr (xy Z (xz (bd (r129 = (-1))) Z (xe (cd h Z (fun _ h => ?_) (fun _ h => ?_)))))))))
 refine xr (xy Z (xy Z (xe (aw_ret ?_))))
 cases h
 exact rt ⟨o0, Z, Z⟩ Z (wi [1, 0] Z)
 refine aw_skip ?_
 obtain ⟨s190, s190e, h191⟩ := bind_some h
 refine aw_meet (ν := Unit) (fun v => [(0, .vec o0), (5, .i s190.1)]) (fun v => [(o0, .vec 3 (m0L s190.2)), (o1, .cells [.str b1_])]) ?_ ?_
 have h := s190e
 refine xr (xy Z (xz (.i (w64 (r129 + 1))) Z (xy Z (xe (aw_block (aw_while (σ := slices.DeleteFunc_api_File_v_disk_Remove_1.S0) (ν := Unit) (slices.DeleteFunc_api_File_v_disk_Remove_1.body0 b1_) (fun s231 v => [(0, .vec o0), (1, .fn 56 [.ptr o1 0]), (5, .i s231.i), (6, .i s231.j)]) (fun s231 v => [(o0, .vec 3 (m0L s231.v)), (o1, .cells [.str b1_])]) ⟨r129, w64 (r129 + 1), s_⟩ () _ h (wi [0, 1] Z) ?_))))))
 rintro s231 _ x233 h hx232
 unfold slices.DeleteFunc_api_File_v_disk_Remove_1.body0 at h
 refine aw_seq (xr (xy Z (xy Z (xc Z (op_lenVecM (i := 0) Z underlying22 (tm Z) Z (xz (bd (s231.j < (s231.v.length : Int))) Z (xe (cd h Z (fun _ h => ?_) (fun _ h => ?_)))))))))
 refine aw_skip ?_
 obtain ⟨s242, s242e, h243⟩ := bind_some h
 refine aw_meet (ν := Unit) (fun v => [(0, .vec o0), (1, .fn 56 [.ptr o1 0]), (5, .i s242.1), (6, .i s231.j)]) (fun v => [(o0, .vec 3 (m0L s242.2)), (o1, .cells [.str b1_])]) ?_ ?_
 have h := s242e
 refine aw_block (xr (xy Z (xy Z ?_)))
 obtain ⟨c245, h⟩ := need_of h
 refine xc Z (op_indexAddrVecM Z underlying22 sizeOf60 (tm Z) (j := 0) Z (tm Z) c245 ?_)
 obtain ⟨c246, h⟩ := need_of h
 refine xc Z (op_loadENM (i := 0) (sz := 3) Z isAgg60 sizeOf60 (tm Z) Z c246 (by decide) Z (xA (.agg [.str nS, .str nS, .i 0]) zeroValue60 Z fun p247 => xs 0 [.str (ix s231.v s231.j).Name, .str (ix s231.v s231.j).Data, .i (ix s231.v s231.j).Synced] sizeOf60 Z (xe (xr (xy Z (xL 0 isAgg60 sizeOf60 Z ?_))))))
 obtain ⟨r248, r248e, h⟩ := bind_some h
 refine aops_weak (weak_pick [2, 0, 1] (by decide) Z) (xc Z (op_callV (vs := [.agg [.str (ix s231.v s231.j).Name, .str (ix s231.v s231.j).Data, .i (ix s231.v s231.j).Synced]]) (H := [(o1, .cells [.str b1_])]) Z (tm Z) call56 ⟨(tm Z), trivial⟩ (List.Perm.refl _) (disk.Remove_1.ok r248e o1) ?_))
 rintro _ _ ⟨rfl, rfl⟩
 refine xz (.bool (!r248)) Z (xe (cb h Z (fun _ h => ?_) (fun _ h => ?_)))
 refine xr (xy Z (xy Z (xL 1 isAgg60 sizeOf60 Z ?_)))
 obtain ⟨c249, h⟩ := need_of h
 refine xc Z (op_indexAddrVecM Z underlying22 sizeOf60 (tm Z) (j := 2) Z (tm Z) c249 ?_)
 obtain ⟨c250, h⟩ := need_of h
 refine ac0 Z Z (op_storeEM (i := 2) (sz := 3) (y' := (ix s231.v s231.j)) Z sizeOf60 (tm Z) (v := .agg [.str (ix s231.v s231.j).Name, .str (ix s231.v s231.j).Data, .i (ix s231.v s231.j).Synced]) (tm Z) Z c250 Z Z (by decide) Z (xe (aw_region (xy Z (xz (.i (w64 (s231.i + 1))) Z (xy Z (xe ?_)))))))
 cases h
 exact ⟨(), wi [2, 0] Z⟩
 refine aw_skip ?_
 cases h
 exact ⟨(), wi [2, 0] Z⟩
 intro _
 have h := h243
 refine aw_region (xy Z (xz (.i (w64 (s231.j + 1))) Z (xy Z (xe ?_))))
 cases h
 exact ⟨_, (), Z, wi [0, 1] Z⟩
 refine aw_exit ?_
 cases h
 cases congrArg some (hx232 _ rfl)
 exact ⟨(), wi [0, 1] Z⟩
 intro _
 have h := h191
 refine xr (xy Z (xy Z ?_))
 obtain ⟨c253, h⟩ := need_of h
 refine xc Z (op_sliceVecM Z underlying22 sizeOf60 (tm Z) (q := 0) Z ⟨_, (tm Z)⟩ Z c253 ?_)
 obtain ⟨c254, h⟩ := need_of h
 refine ac0 Z Z (op_clearVM (q := 0) api.File.av (({ Name := nS, Data := nS, Synced := 0 } : api.File) : api.File) Z underlying22 zeroValue60 Z Z (tm Z) Z c254 (xe (xr (xy Z (xy Z ?_)))))
 obtain ⟨c255, h⟩ := need_of h
 refine xc Z (op_sliceVecM Z underlying22 sizeOf60 (tm Z) (q := 0) Z Z ⟨_, (tm Z)⟩ c255 (xy Z (xe ?_)))
 obtain ⟨c256, h⟩ := need_of h
 refine aw_shrinkM 4 0 (tm Z) Z c256 fun p257 => (aw_ret ?_)
 cases h
 exact rt ⟨p257, Z, Z⟩ Z (wi [1, 0] Z)

theorem disk.Remove.ok {d name r} (h : disk.Remove d name = some r) : Sp prog 25 [.agg [.sl .no 3 (m0L d.Files), .sl .no 3 (m1L d.Faults)], .str name] [] (fun v H => ∃ n0 n1, v = .agg [.vec n0, .vec n1] ∧ H = [(n0, .vec 3 (m0L r.Files)), (n1, .vec 3 (m1L r.Faults))]) := by
 unfold disk.Remove at h
 refine sb [.cell 4 25] func25 Z (xr (xb [.sl .no 3 (m0L d.Files), .sl .no 3 (m1L d.Faults)] Z fun p9 => xb [.str name] Z fun p10 => xA (.agg [.sl .full 3 e0L, .sl .full 3 e1L]) zeroValue25 Z fun p11 => xe (xr (xL 2 isAgg25 sizeOf25 Z ?_))))
 obtain ⟨r12, r12e, h⟩ := bind_some h
 refine xk (disk.own.ok r12e) call54 Z ?_
 rintro _ _ ⟨t13, t14, rfl, rfl⟩
 refine xs 4 [.vec t13, .vec t14] sizeOf25 Z (xe (xr (xf (.ptr p9 0) underlying25 sizeOf22 Z (xl 4 isAgg22 Z (xa (.fn 56 [.ptr p10 0]) Z (pu_makeFunc Z ⟨(tm Z), trivial⟩) ?_)))))
 obtain ⟨r15, r15e, h⟩ := bind_some h
 refine aops_weak (weak_pick [0, 3, 1, 2, 4] (by decide) Z) (xk (slices.DeleteFunc_api_File_v_disk_Remove_1.ok r15e t13 p10) call55 Z ?_)
 rintro _ _ ⟨t16, rfl, rfl⟩
 refine xf (.ptr p9 0) underlying25 sizeOf22 Z (xs 4 [.vec t16, .vec t14] sizeOf22 Z (xe (xr (xL 4 isAgg25 sizeOf25 Z (xs 3 [.vec t16, .vec t14] sizeOf25 Z (xe (aw_ret ?_)))))))
 cases h
 exact rq [.agg [.vec t16, .vec t14]] ⟨t16, t14, Z, Z⟩ vr ⟨(CellOk.agg 3 (tm Z) Z isAgg25 sizeOf25 (nb Z) Z), trivial⟩ (wi [1, 2] Z)

theorem disk.find_1.ok {f a1_ r} (h : disk.find_1 f a1_ = some r) (o0 : Nat) : Sp prog 70 [.agg [.str f.Name, .str f.Data, .i f.Synced], .ptr o0 0] [(o0, .cells [.str a1_])] (fun v H => v = .bool r ∧ H = [(o0, .cells [.str a1_])]) := by
 unfold disk.find_1 at h
 refine sb [.tmp 3] func70 Z (xr (xb [.str f.Name, .str f.Data, .i f.Synced] Z fun p2 => xz (.bool false) Z (xe (xr (xf (.ptr p2 0) underlying60 sizeOf9 Z (xl 0 isAgg9 Z (xl 1 isAgg9 Z (xa (bd (f.Name = a1_)) Z (pu_str (v := bd (f.Name = a1_)) Z Z (tm Z) (tm Z) Z) (xy Z (xe ?_))))))))))
 refine aw_ret ?_
 cases h
 exact rt ⟨Z, Z⟩ Z (wi [1] Z)

theorem slices.IndexFunc_api_File_disk_find_1.ok {s_ b0_ r} (h : slices.IndexFunc_api_File_disk_find_1 s_ b0_ = some r) (o0 : Nat) : Sp prog 69 [.sl .no 3 (m0L s_), .fn 70 [.ptr o0 0]] [(o0, .cells [.str b0_])] (fun v H => v = .i r ∧ H = [(o0, .cells [.str b0_])]) := by
 unfold slices.IndexFunc_api_File_disk_find_1 at h
 refine sb [.tmp 4] func69 Z (xr (xz (.i 0) Z (xe ?_)))
 obtain ⟨s80, s80e, h60⟩ := bind_some h
 refine aw_join (σ := Unit) (ν := Unit) (fun u v => []) (fun u v => [(o0, .cells [.str b0_])]) (fun u => s80 = .inl u) ?_ ?_
 intro s59
 intro _
 rintro rfl
 have h := onSum_inl h60
 refine xr (xz (.i (-1)) Z (xe (aw_ret ?_)))
 cases h
 exact rt ⟨Z, Z⟩ Z (wi [0] Z)
 have h := s80e
 refine xr (xy Z (xa (.i (s_.length : Int)) Z (pu_lenM Z underlying22 (tm Z)) (xz (.i 0) Z (xe (aw_block (aw_while (σ := slices.IndexFunc_api_File_disk_find_1.S0) (ν := Unit) (slices.IndexFunc_api_File_disk_find_1.body0 s_ b0_) (fun s72 v => [(0, .sl .no 3 (m0L s_)), (1, .fn 70 [.ptr o0 0]), (7, .i (s_.length : Int)), (8, .i s72.t8)]) (fun s72 v => [(o0, .cells [.str b0_])]) ⟨0⟩ () _ h (wi [0] Z) ?_))))))
 rintro s72 _ x74 h hx73
 unfold slices.IndexFunc_api_File_disk_find_1.body0 at h
 refine xr (xz (bd (s72.t8 < (s_.length : Int))) Z (xe (aw_seq (cd h Z (fun _ h => ?_) (fun _ h => ?_)))))
 refine aw_skip (aw_seq (aw_block (xr (xy Z (xy Z (xe (aw_seq (aw_region ?_))))))))
 refine xy Z (xy Z (xy Z ?_))
 obtain ⟨c76, h⟩ := need_of h
 refine xa (.vptr [.str (ix s_ s72.t8).Name, .str (ix s_ s72.t8).Data, .i (ix s_ s72.t8).Synced]) Z (pu_indexAddrM Z underlying22 sizeOf60 (tm Z) (tm Z) c76 Z) (xc Z (op_loadVN Z isAgg60 sizeOf60 (tm Z) (nb Z) Z ?_))
 obtain ⟨r77, r77e, h⟩ := bind_some h
 refine xc Z (op_callV (vs := [.agg [.str (ix s_ s72.t8).Name, .str (ix s_ s72.t8).Data, .i (ix s_ s72.t8).Synced]]) (H := [(o0, .cells [.str b0_])]) Z (tm Z) call70 ⟨(tm Z), trivial⟩ (List.Perm.refl _) (disk.find_1.ok r77e o0) ?_)
 rintro _ _ ⟨rfl, rfl⟩
 refine xe (cb h Z (fun _ h => ?_) (fun _ h => ?_))
 refine xr (xy Z (xy Z (xe (aw_ret ?_))))
 cases h
 cases congrArg some (hx73 _ rfl)
 cases onSum_inr h60
 exact rt ⟨Z, Z⟩ Z (wi [0] Z)
 refine aw_skip (aw_region (xz (.i (w64 (s72.t8 + 1))) Z (xy Z (xe ?_))))
 cases h
 exact ⟨_, (), Z, wi [0] Z⟩
 refine aw_exit ?_
 cases h
 have h := congrArg some (hx73 _ rfl)
 exact ⟨(), (), (some_of h).symm, wi [0] Z⟩

theorem disk.find.ok {d name r} (h : disk.find d name = some r) : Sp prog 41 [.agg [.sl .no 3 (m0L d.Files), .sl .no 3 (m1L d.Faults)], .str name] [] (fun v H => v = .i r ∧ H = []) := by
 unfold disk.find at h
 refine sb [.tmp 4] func41 Z (xr (xb [.sl .no 3 (m0L d.Files), .sl .no 3 (m1L d.Faults)] Z fun p4 => xb [.str name] Z fun p5 => xz (.i 0) Z (xe (xr (xf (.ptr p4 0) underlying25 sizeOf22 Z (xl 1 isAgg22 Z (xa (.fn 70 [.ptr p5 0]) Z (pu_makeFunc Z ⟨(tm Z), trivial⟩) ?_)))))))
 obtain ⟨r6, r6e, h⟩ := bind_some h
 refine xo (slices.IndexFunc_api_File_disk_find_1.ok r6e p5) call69 Z (xy Z (xe (aw_ret ?_)))
 cases h
 exact rt ⟨Z, Z⟩ Z w0

theorem disk.Read.ok {d name r} (h : disk.Read d name = some r) : Sp prog 26 [.agg [.sl .no 3 (m0L d.Files), .sl .no 3 (m1L d.Faults)], .str name] [] (fun v H => v = .tup [.str r.1, .i r.2] ∧ H = []) := by
 unfold disk.Read at h
 refine sb [.tmp 4, .tmp 5] func26 Z (xr (xb [.sl .no 3 (m0L d.Files), .sl .no 3 (m1L d.Faults)] Z fun p5 => xa (.str nS) Z (pu_assign Z (AEv.const Z)) (xz (.i 0) Z (xe (xr (xL 0 isAgg25 sizeOf25 Z (xy Z ?_)))))))
 obtain ⟨r6, r6e, h⟩ := bind_some h
 refine xo (disk.find.ok r6e) call41 Z (xy Z (xe (aw_seq (xr (xy Z (xz (bd (r6 < 0)) Z (xe (cd h Z (fun _ h => ?_) (fun _ h => ?_)))))))))
 refine xr (xa (.str nS) Z (pu_assign Z (AEv.const Z)) (xz (.i 8) Z (xe (aw_ret ?_))))
 cases h
 exact rt ⟨Z, Z⟩ Z w0
 refine aw_skip (xr (xf (.ptr p5 0) underlying25 sizeOf22 Z (xl 0 isAgg22 Z (xy Z ?_))))
 obtain ⟨c7, h⟩ := need_of h
 refine xa (.vptr [.str (ix d.Files r6).Name, .str (ix d.Files r6).Data, .i (ix d.Files r6).Synced]) Z (pu_indexAddrM Z underlying22 sizeOf60 (tm Z) (tm Z) c7 Z) (xf (.vptr [.str (ix d.Files r6).Data, .i (ix d.Files r6).Synced]) underlying60 sizeOf9 Z (xc Z (op_loadV1 Z isAgg9 (tm Z) Z (xy Z (xz (.i 0) Z (xe (aw_ret ?_)))))))
 cases h
 exact rt ⟨Z, Z⟩ Z w0

theorem crc.Fits.ok {s_ r} (h : crc.Fits s_ = some r) : Sp prog 83 [.str s_] [] (fun v H => v = .bool r ∧ H = []) := by
 unfold crc.Fits at h
 refine sb [.tmp 2] func83 Z (xr (xz (.bool false) Z (xe ?_)))
 obtain ⟨s13, s13e, h14⟩ := bind_some h
 refine aw_meet (ν := Unit) (fun v => [(2, .bool s13)]) (fun v => []) ?_ ?_
 have h := s13e
 refine aw_region (xy Z (xa (.i (s_.length : Int)) Z (pu_strLen Z underlying9 (tm Z)) (xz (bd (4 ≤ (s_.length : Int))) Z (xy Z ?_))))
 rcases Bool.eq_false_or_eq_true (decide (4 ≤ (s_.length : Int))) with hb16 | hb16
 replace h := ite_t (dec_t hb16) h
 refine aops_known 6 Z hb16 (xq Z Z Z Z (xq Z Z Z Z (xp (.i (s_.length : Int)) Z Z (pu_strLen Z underlying9 (tm Z)) (xp (.i (w64 ((s_.length : Int) - 4))) Z Z (pe Z) ?_))))
 obtain ⟨c17, h⟩ := need_of h
 refine xp (.str (sub s_ 0 (w64 ((s_.length : Int) - 4)))) Z Z (pu_strSliceM Z underlying9 (tm Z) Z ⟨_, (tm Z)⟩ c17) ?_
 obtain ⟨r18, r18e, h⟩ := bind_some h
 refine xg Z Z (op_call (vs := [.str (sub s_ 0 (w64 ((s_.length : Int) - 4)))]) (H := []) Z call52 ⟨(tm Z), trivial⟩ (List.Perm.refl _) (crc.Seal.ok r18e) ?_)
 rintro _ _ ⟨rfl, rfl⟩
 refine xq Z Z Z Z (xp (bd (r18 = s_)) Z Z (pu_str (v := bd (r18 = s_)) Z Z (tm Z) (tm Z) Z) (xz (bd (r18 = s_)) Z (xy Z (xe ?_))))
 cases h
 exact ⟨(), wi [] Z⟩
 replace h := ite_f (dec_f hb16) h
 refine aops_known 6 Z hb16 (xu Z (xu Z (xu Z (xu Z (xu Z (xu Z (xu Z (xu Z (xz (.bool false) Z ?_)))))))))
 refine xy Z (xe ?_)
 cases h
 exact ⟨(), wi [] Z⟩
 intro _
 have h := h14
 refine aw_ret ?_
 cases h
 exact rt ⟨Z, Z⟩ Z w0

theorem parse.Limits.ok {l r} (h : parse.Limits l = some r) : Sp prog 119 [.agg [.i l.Args, .i l.Bulk, .i l.Line]] [] (fun v H => v = .agg [.i r.Args, .i r.Bulk, .i r.Line] ∧ H = []) := by
 unfold parse.Limits at h
 refine sb [.cell 2 149] func119 Z (xr (xb [.i l.Args, .i l.Bulk, .i l.Line] Z fun p3 => xA (.agg [.i 0, .i 0, .i 0]) zeroValue149 Z fun p4 => xe (xr (xf (.ptr p3 0) underlying149 sizeOf3 Z (xl 1 isAgg3 Z (xa (.i (if l.Args < 1 then 1 else l.Args)) Z (pu_max2 Z (tm Z) (AEv.int _ _)) (xa (.i (if 65536 < (if l.Args < 1 then 1 else l.Args) then 65536 else (if l.Args < 1 then 1 else l.Args))) Z (pu_min2 Z (tm Z) (AEv.int _ _)) (xf (.ptr p3 1) underlying149 sizeOf3 Z (xl 1 isAgg3 Z (xa (.i (if l.Bulk < 1 then 1 else l.Bulk)) Z (pu_max2 Z (tm Z) (AEv.int _ _)) ?_))))))))))
 refine xa (.i (if 1048576 < (if l.Bulk < 1 then 1 else l.Bulk) then 1048576 else (if l.Bulk < 1 then 1 else l.Bulk))) Z (pu_min2 Z (tm Z) (AEv.int _ _)) (xf (.ptr p3 2) underlying149 sizeOf3 Z (xl 1 isAgg3 Z (xa (.i (if l.Line < 1 then 1 else l.Line)) Z (pu_max2 Z (tm Z) (AEv.int _ _)) (xa (.i (if 65536 < (if l.Line < 1 then 1 else l.Line) then 65536 else (if l.Line < 1 then 1 else l.Line))) Z (pu_min2 Z (tm Z) (AEv.int _ _)) (xa (.agg [.i (if 65536 < (if l.Args < 1 then 1 else l.Args) then 65536 else (if l.Args < 1 then 1 else l.Args)), .i (if 1048576 < (if l.Bulk < 1 then 1 else l.Bulk) then 1048576 else (if l.Bulk < 1 then 1 else l.Bulk)), .i (if 65536 < (if l.Line < 1 then 1 else l.Line) then 65536 else (if l.Line < 1 then 1 else l.Line))]) Z (pu_build (zs := [.i 0, .i 0, .i 0]) (szs := [1, 1, 1]) (aparts := [(0, .i (if 65536 < (if l.Args < 1 then 1 else l.Args) then 65536 else (if l.Args < 1 then 1 else l.Args))), (1, .i (if 1048576 < (if l.Bulk < 1 then 1 else l.Bulk) then 1048576 else (if l.Bulk < 1 then 1 else l.Bulk))), (2, .i (if 65536 < (if l.Line < 1 then 1 else l.Line) then 65536 else (if l.Line < 1 then 1 else l.Line)))]) (cs := [.i (if 65536 < (if l.Args < 1 then 1 else l.Args) then 65536 else (if l.Args < 1 then 1 else l.Args)), .i (if 1048576 < (if l.Bulk < 1 then 1 else l.Bulk) then 1048576 else (if l.Bulk < 1 then 1 else l.Bulk)), .i (if 65536 < (if l.Line < 1 then 1 else l.Line) then 65536 else (if l.Line < 1 then 1 else l.Line))]) Z underlying149 zeroValue149 Z ⟨sizeOf3, sizeOf3, sizeOf3, trivial⟩ ⟨Z, (tm Z), ⟨Z, (tm Z), ⟨Z, (tm Z), trivial⟩⟩⟩ Z) (xs 0 [.i (if 65536 < (if l.Args < 1 then 1 else l.Args) then 65536 else (if l.Args < 1 then 1 else l.Args)), .i (if 1048576 < (if l.Bulk < 1 then 1 else l.Bulk) then 1048576 else (if l.Bulk < 1 then 1 else l.Bulk)), .i (if 65536 < (if l.Line < 1 then 1 else l.Line) then 65536 else (if l.Line < 1 then 1 else l.Line))] sizeOf149 Z (xe (aw_ret ?_))))))))
 cases h
 exact rq [.agg [.i (if 65536 < (if l.Args < 1 then 1 else l.Args) then 65536 else (if l.Args < 1 then 1 else l.Args)), .i (if 1048576 < (if l.Bulk < 1 then 1 else l.Bulk) then 1048576 else (if l.Bulk < 1 then 1 else l.Bulk)), .i (if 65536 < (if l.Line < 1 then 1 else l.Line) then 65536 else (if l.Line < 1 then 1 else l.Line))]] ⟨Z, Z⟩ vr ⟨(CellOk.agg 0 (tm Z) Z isAgg149 sizeOf149 (nb Z) Z), trivial⟩ w0

theorem slices.Clone_string.ok {s r} (h : slices.Clone_string s = some r) : Sp prog 120 [.sl .no 1 (m3L s)] [] (fun v H => ∃ n0, v = .sl (.own n0) 1 (m3L r) ∧ H = [(n0, .spare)]) := by
 unfold slices.Clone_string at h
 obtain ⟨c, h⟩ := need_of h
 cases h
 refine sb [.tmp 2] func120 Z (xr (xa (.sl .full 1 e2L) Z (pu_assign Z (AEv.nil 1 (by decide))) (xe (aw_seq (xr (xy Z (xc Z (op_nilSlice Z underlying65 (tm Z) fun b hb => ?_))))))))
 refine xe (aw_cond (tm Z) (fun hb2 => ?_) (fun hb2 => ?_))
 have hs : s = [] := List.map_eq_nil_iff.1 (hb hb2)
 subst hs
 refine xr (xa (.sl .full 1 e2L) Z (pu_assign Z (AEv.nil 1 (by decide))) (xe (aw_claim 2 (tm Z) fun t => (aw_ret ?_))))
 exact rq [.sl (.own t) 1 e2L] ⟨t, Z, Z⟩ (AV.Le.refl _) ⟨tm Z, trivial⟩ (wi [0] Z)
 refine aw_skip (xr (xc Z (op_buildSlice (xs := ([] : List (List UInt8)).map AV.str) (aparts := []) Z underlying65 sizeOf9 zeroValue9 (by decide) (by decide) trivial Z Z Z (xy Z (xc Z (op_appendFM Z underlying65 underlying65 (.inl Z) typeInfo9 Z Z Z (by decide) (tm Z) (given_sl (tm Z)) c ?_))))))
 intro t
 refine xy Z (xe (aw_ret ?_))
 exact rq [.sl (.own t) 1 (m3L ([] ++ s))] ⟨t, Z, Z⟩ (AV.Le.refl _) ⟨tm Z, trivial⟩ (wi [0] Z)

theorem parse.parser.dies.ok {e p_ r} (h : parse.parser.dies e p_ = some r) (o0 q0 q1 : Nat) : Sp prog 143 [.ptr o0 0, .i e] [(o0, .cells (parse.parser.ct (.own q0) (.own q1) p_)), (q0, .spare), (q1, .spare)] (fun v H => ∃ n0, v = .bool r.1 ∧ H = [(o0, .cells [.str r.2.in_.Rest, .sl .full 1 (m3L r.2.in_.Args), .i r.2.in_.Left, .i r.2.in_.Size, .bool r.2.in_.Body, .i r.2.in_.Need, .i r.2.in_.Dead, .str r.2.s, .i r.2.l.Args, .i r.2.l.Bulk, .i r.2.l.Line, .sl (.own n0) 2 (m6L r.2.out)]), (n0, .spare)]) := by
 unfold parse.parser.dies at h
 refine sb [.tmp 4] func143 Z (xr (xz (.bool false) Z (xe (xr (xy Z (xy Z (xa (.agg [.str nS, .sl .full 1 e2L, .i 0, .i 0, .bool false, .i 0, .i e]) Z (pu_build (zs := [.str nS, .sl .full 1 e2L, .i 0, .i 0, .bool false, .i 0, .i 0]) (szs := [1, 1, 1, 1, 1, 1, 1]) (aparts := [(6, .i e)]) (cs := [.str nS, .sl .full 1 e2L, .i 0, .i 0, .bool false, .i 0, .i e]) Z underlying144 zeroValue144 Z ⟨sizeOf9, sizeOf65, sizeOf3, sizeOf3, sizeOf4, sizeOf3, sizeOf29, trivial⟩ ⟨Z, (tm Z), trivial⟩ Z) ?_)))))))
 refine xa (.ptr o0 0) Z (pu_nilCheck Z (tm Z) Z) (xf (.ptr o0 0) underlying184 sizeOf144 Z (xs 0 (parse.parser.ct .full (.own q1) { p_ with in_ := ({ Rest := nS, Args := ([] : List (List UInt8)), Left := 0, Size := 0, Body := false, Need := 0, Dead := e } : api.Input) }) sizeOf144 Z (xe (xr (xy Z (xa (.ptr o0 0) Z (pu_nilCheck Z (tm Z) Z) (xf (.ptr o0 7) underlying184 sizeOf9 Z (ac0 Z Z (op_store (i := 0) (cs' := (parse.parser.ct .full (.own q1) { p_ with in_ := ({ Rest := nS, Args := ([] : List (List UInt8)), Left := 0, Size := 0, Body := false, Need := 0, Dead := e } : api.Input), s := nS })) Z sizeOf9 (tm Z) (v := .str nS) (AEv.const Z) Z Z Z (nb Z) Z ?_)))))))))
 refine xe (xr (xz (.bool false) Z (xe (aw_ret ?_))))
 cases h
 exact rt ⟨q1, Z, Z⟩ Z (wi [0, 2] Z)

theorem stringslite.Clone.calls (s : ByteArray) (w : World) (hlim : s.size ≤ 281474976710656) :
  Calls prog 138 #[.string s] w fun e w' => e = .returned (.string s) ∧ Below w.heap.size w w' := by
 by_cases h0 : s.size = 0
 ·have hs : s = ⟨#[]⟩ := by
   apply ByteArray.ext
   exact Array.eq_empty_of_size_eq_zero h0
  subst hs
  go_enter func138, ntmps138
  go_wp2
  go_ret
  exact ⟨Z, Below.refl _ _⟩
 ·obtain ⟨i0, hi, hz0, hz1, hz2⟩ := info_parts (show (prog.info? 5).map (fun i => (i.zero, i.size, i.bytes)) = some (some (.int .u8 0), 1, 1) by kernel_rfl)
  have hinfo : (prog.info? 5).map (·.size) = some 1 := by rw [hi]; simp [hz1]
  have hco : prog.cellsOf 5 = 1 := by simp [Program.cellsOf, hi, hz1]
  obtain ⟨M, hM⟩ : ∃ M, M = madeCells (Value.int .u8 0).cells (((s.size : Nat) : Int).toNat * i0.size) := ⟨_, rfl⟩
  have hMs : M.size = s.size := by rw [hM, size_madeCells, hz1]; simp
  have hmk : ∀ W : World, (Instr.makeSlice 114 (.int .i64 (s.size : Int)) (.int .i64 (s.size : Int))).run prog W = .ok (.slice (some ⟨W.heap.size, 0, none⟩) s.size s.size) (W.alloc (.cells M 5)) := fun W => by
   have h := run_make (P := prog) W 114 5 i0 (.int .u8 0) underlying114 hi hz0 .i64 .i64 (s.size : Int) (s.size : Int) (by omega) (by omega) (by rw [hz2]; omega) (by omega)
   rw [← hM] at h
   simpa using h
  clear hM
  have hcp := Lib.run_copy_row_string (P := prog) (w.alloc (.cells M 5)) 114 9 3 5 w.heap.size 0 s.size s.size s M 5 underlying114 hinfo (heap_alloc_new w _) (Nat.le_refl _) (by omega)
  obtain ⟨Y, hY⟩ : ∃ Y, Y = (M.toList.take 0 ++ Lib.byteCells s.data.toList ++ M.toList.drop (0 + s.size)).toArray := ⟨_, rfl⟩
  rw [← hY] at hcp
  have hYl : Y.toList = Lib.byteCells s.data.toList := by
   rw [hY, List.toList_toArray, List.take_zero, List.nil_append, List.drop_of_length_le (by rw [Array.length_toList]; omega), List.append_nil]
  have hYs : Y.size = s.size := by rw [← Array.length_toList, hYl, Lib.byteCells_length, ← Lib.size_eq]
  have hgY : ((w.alloc (.cells M 5)).setRow w.heap.size Y).heap[w.heap.size]? = some (.cells Y 5 (0, 0)) := setRow_heap _ _ M _ 5 (0, 0) (heap_alloc_new w _)
  have hne : s.data.toList ≠ [] := fun e => h0 (by rw [Lib.size_eq, e]; rfl)
  have hUS := Lib.run_unsafeString_row (P := prog) ((w.alloc (.cells M 5)).setRow w.heap.size Y) 156 3 9 5 underlying156 hco w.heap.size Y.size (by unfold World.shape?; rw [hgY]) s.data.toList hne (by rw [← Lib.size_eq]; omega) (by rw [← Lib.size_eq]; omega)
   (fun j x hx => Lib.cells_of_row hgY Y.size j _ (by rw [List.take_of_length_le (by rw [Array.length_toList]; exact Nat.le_refl _), hYl]; simp [Lib.byteCells, hx]))
  rw [← Lib.size_eq] at hUS
  clear hY
  go_enter func138, ntmps138
  go_wp2
  go_ret
  have hb1 : Below w.heap.size w (w.alloc (.cells M 5)) := (Below.refl _ w).alloc (Nat.le_refl _) _
  have hb2 : Below w.heap.size (w.alloc (.cells M 5)) ((w.alloc (.cells M 5)).setRow w.heap.size Y) := ⟨rfl, rfl, rfl, by simp, fun k hk => setRow_other _ _ _ _ (by omega)⟩
  exact ⟨Z, Lib.below_freeze (hb1.trans hb2) (p := ⟨w.heap.size, 0, none⟩) (Nat.le_refl _) _⟩

theorem stringslite.Clone.ok {s r} (h : stringslite.Clone s = some r) : Sp prog 138 [.str s] [] (fun v H => v = .str r ∧ H = []) := by
 unfold stringslite.Clone at h
 obtain ⟨c, h⟩ := need_of h
 cases h
 exact spec_str1 fun w => stringslite.Clone.calls _ w (by rw [bs_size]; exact c)

theorem strings.Clone.ok {s_ r} (h : strings.Clone s_ = some r) : Sp prog 122 [.str s_] [] (fun v H => v = .str r ∧ H = []) := by
 unfold strings.Clone at h
 refine sb [.tmp 2] func122 Z (xr (xa (.str nS) Z (pu_assign Z (AEv.const Z)) (xe (xr (xy Z ?_)))))
 obtain ⟨r2, r2e, h⟩ := bind_some h
 refine xo (stringslite.Clone.ok r2e) call138 Z (xy Z (xe (aw_ret ?_)))
 cases h
 exact rt ⟨Z, Z⟩ Z w0

theorem parse.parser.past.ok {n_ p_ r} (h : parse.parser.past n_ p_ = some r) (o0 q0 q1 : Nat) : Sp prog 144 [.ptr o0 0, .i n_] [(o0, .cells (parse.parser.ct (.own q0) (.own q1) p_)), (q0, .spare), (q1, .spare)] (fun v H => ∃ n0 n1, v = .tup [] ∧ H = [(o0, .cells [.str r.in_.Rest, .sl (.own n0) 1 (m3L r.in_.Args), .i r.in_.Left, .i r.in_.Size, .bool r.in_.Body, .i r.in_.Need, .i r.in_.Dead, .str r.s, .i r.l.Args, .i r.l.Bulk, .i r.l.Line, .sl (.own n1) 2 (m6L r.out)]), (n0, .spare), (n1, .spare)]) := by
 unfold parse.parser.past at h
 refine sb [] func144 Z (aw_upd (xr (xy Z (xa (.ptr o0 0) Z (pu_nilCheck Z (tm Z) Z) (xf (.ptr o0 0) underlying184 sizeOf144 Z (xf (.ptr o0 3) underlying144 sizeOf3 Z (xl 0 isAgg3 Z (xy Z ?_))))))))
 refine xz (.i (w64 (p_.in_.Size + n_))) Z (xa (.ptr o0 0) Z (pu_nilCheck Z (tm Z) Z) (xf (.ptr o0 0) underlying184 sizeOf144 Z (xf (.ptr o0 3) underlying144 sizeOf3 Z (xs 0 (parse.parser.ct (.own q0) (.own q1) { p_ with in_ := { p_.in_ with Size := w64 (p_.in_.Size + n_) } }) sizeOf3 Z (xe (aw_region (xy Z (xy Z (xa (.ptr o0 0) Z (pu_nilCheck Z (tm Z) Z) ?_)))))))))
 refine xf (.ptr o0 7) underlying184 sizeOf9 Z (xl 0 isAgg9 Z (xy Z ?_))
 obtain ⟨c2, h⟩ := need_of h
 refine xa (.str (sub p_.s n_ (p_.s.length : Int))) Z (pu_strSliceM Z underlying9 (tm Z) ⟨_, (tm Z)⟩ Z c2) (xa (.ptr o0 0) Z (pu_nilCheck Z (tm Z) Z) (xf (.ptr o0 7) underlying184 sizeOf9 Z (xs 0 (parse.parser.ct (.own q0) (.own q1) { p_ with in_ := { p_.in_ with Size := w64 (p_.in_.Size + n_) }, s := sub p_.s n_ (p_.s.length : Int) }) sizeOf9 Z (xe (upd_done ?_)))))
 cases h
 exact rq [] ⟨q0, q1, Z, Z⟩ vr trivial (wi [0, 1, 2] Z)

theorem parse.parser.whole.ok {args p_ r} (h : parse.parser.whole args p_ = some r) (o0 q0 q1 : Nat) : Sp prog 137 [.ptr o0 0, .sl .no 1 (m3L args)] [(o0, .cells (parse.parser.ct (.own q0) (.own q1) p_)), (q0, .spare), (q1, .spare)] (fun v H => ∃ n0, v = .tup [] ∧ H = [(o0, .cells [.str r.in_.Rest, .sl .full 1 (m3L r.in_.Args), .i r.in_.Left, .i r.in_.Size, .bool r.in_.Body, .i r.in_.Need, .i r.in_.Dead, .str r.s, .i r.l.Args, .i r.l.Bulk, .i r.l.Line, .sl (.own n0) 2 (m6L r.out)]), (n0, .spare)]) := by
 unfold parse.parser.whole at h
 refine sb [] func137 Z (aw_upd ?_)
 obtain ⟨s14, s14e, h16⟩ := bind_some h
 refine aw_meet (ν := Nat) (fun v => [(0, .ptr o0 0)]) (fun v => [(o0, .cells (parse.parser.ct (.own q0) (.own v) { p_ with out := s14 })), (q0, .spare), (v, .spare)]) ?_ ?_
 have h := s14e
 refine xr (xy Z (xa (.i (args.length : Int)) Z (pu_lenM Z underlying65 (tm Z)) (xz (bd (0 < (args.length : Int))) Z (xe (cd h Z (fun _ h => ?_) (fun _ h => ?_))))))
 obtain ⟨c18, h⟩ := need_of h
 refine aw_reserve fun p19 => (aw_planR (by decide +kernel) [[], [], [], [], [(1, 0, false)], [], [], [], [], [], [(1, 0, false)], [], [], [(3, 0, true), (0, 0, true)], [], [], [(1, 0, true)]] [[13], [16], [], [13]] [[[(p19, .resv)], [(p19, .spare)]], [[(o0, .cells (parse.parser.ct (.own q0) (.own q1) p_))], [(o0, .cells (parse.parser.ct (.own q0) (.own p19) { p_ with out := p_.out ++ [({ Args := args, Size := p_.in_.Size } : api.Request)] }))]], [[(q0, .spare)]], [[(q1, .spare)], []]] [.ptr o0 0, .ptr o0 0, .ptr o0 0, .ptr o0 11, .sl (.own q1) 2 (m6L p_.out), .sl .no 1 (m3L args), .ptr o0 0, .ptr o0 0, .ptr o0 0, .ptr o0 3, .i p_.in_.Size, .agg [.sl .no 1 (m3L args), .i p_.in_.Size], .sl .full 2 ([({ Args := args, Size := p_.in_.Size } : api.Request)].map api.Request.av), .sl (.own p19) 2 (m6L (p_.out ++ [({ Args := args, Size := p_.in_.Size } : api.Request)])), .ptr o0 0, .ptr o0 11, .un] (by decide +kernel) Z Z ?_ ?_)
 exact ⟨ym Z Z Z, ym Z Z Z, yp Z (pu_nilCheck Z (tm Z) Z), yp Z (fa Z underlying184 Z sizeOf145 Z Z Z), stepg_plain Z (op_load1 (i := 0) Z isAgg145 (tm Z) Z Z ⟨Z, Z⟩), ym Z Z Z, ym Z Z Z, yp Z (pu_nilCheck Z (tm Z) Z), yp Z (fa Z underlying184 Z sizeOf144 Z Z Z), yp Z (fa Z underlying144 Z sizeOf3 Z Z Z), stepg_plain Z (op_load1 (i := 0) Z isAgg3 (tm Z) Z Z ⟨Z, Z⟩), yp Z (pu_build (zs := [.sl .full 1 e2L, .i 0]) (szs := [1, 1]) (aparts := [(0, .sl .no 1 (m3L args)), (1, .i p_.in_.Size)]) (cs := [.sl .no 1 (m3L args), .i p_.in_.Size]) Z underlying151 zeroValue151 Z ⟨sizeOf65, sizeOf3, trivial⟩ ⟨Z, (tm Z), ⟨Z, (tm Z), trivial⟩⟩ Z), stepg_plain Z (op_buildSlice (xs := ([({ Args := args, Size := p_.in_.Size } : api.Request)] : List api.Request).map api.Request.av) (aparts := [(0, .agg [.sl .no 1 (m3L args), .i p_.in_.Size])]) Z underlying145 sizeOf151 zeroValue151 (by decide) (by decide) ⟨Z, (tm Z), trivial⟩ Z Z Z ⟨Z, Z⟩), stepg_plain Z (aop_settleS (op_appendOM (q := 0) Z underlying145 underlying145 (.inl Z) typeInfo151 Z Z Z (by decide) (tm Z) Z (given_sl (tm Z)) c18 fun t => ⟨t, Z, Z⟩) ⟨Z, Z⟩), yp Z (pu_nilCheck Z (tm Z) Z), yp Z (fa Z underlying184 Z sizeOf145 Z Z Z), stepg_plain Z (op_store (i := 0) (cs' := (parse.parser.ct (.own q0) (.own p19) { p_ with out := p_.out ++ [({ Args := args, Size := p_.in_.Size } : api.Request)] })) Z sizeOf145 (tm Z) (v := .sl (.own p19) 2 (m6L (p_.out ++ [({ Args := args, Size := p_.in_.Size } : api.Request)]))) (tm Z) Z Z Z (nb Z) Z ⟨Z, Z⟩), trivial⟩
 cases h
 exact ⟨p19, wl [1, 2, 0] Z ⟨⟨_, Z, ⟨vr, vr, vr, vr, vr, vr, vr, vr, vr, vr, vr, vr, trivial⟩, Z⟩, ⟨_, Z, Z⟩, ⟨_, Z, Z⟩, trivial⟩ ⟨tm Z, trivial⟩⟩
 refine aw_skip ?_
 cases h
 exact ⟨q1, wi [0, 1, 2] Z⟩
 intro n15
 have h := h16
 refine aw_region (xy Z (xa (.agg [.str nS, .sl .full 1 e2L, .i 0, .i 0, .bool false, .i 0, .i 0]) Z (pu_build (zs := [.str nS, .sl .full 1 e2L, .i 0, .i 0, .bool false, .i 0, .i 0]) (szs := [1, 1, 1, 1, 1, 1, 1]) (aparts := []) (cs := [.str nS, .sl .full 1 e2L, .i 0, .i 0, .bool false, .i 0, .i 0]) Z underlying144 zeroValue144 Z ⟨sizeOf9, sizeOf65, sizeOf3, sizeOf3, sizeOf4, sizeOf3, sizeOf29, trivial⟩ trivial Z) (xa (.ptr o0 0) Z (pu_nilCheck Z (tm Z) Z) (xf (.ptr o0 0) underlying184 sizeOf144 Z (xs 0 (parse.parser.ct .full (.own n15) { p_ with in_ := ({ Rest := nS, Args := ([] : List (List UInt8)), Left := 0, Size := 0, Body := false, Need := 0, Dead := 0 } : api.Input), out := s14 }) sizeOf144 Z (xe (upd_done ?_)))))))
 cases h
 exact rq [] ⟨n15, Z, Z⟩ vr trivial (wi [0, 2] Z)

end Go.Pu
