/- Contracts of Go functions, printed by a program of mine over the kit's printer or proved by hand, and plain laws: what the groups' laws lean on. -/
import Derived.BigRegion
import Derived.IntWalk
import Derived.Outline
import Derived.Shelf.SlSortCmp.InsertionK
import Derived.Sort.WalkA
import Derived.Test.YtfcpebjjcijgcaaD0
import Derived.WalkSpells
-- unicodetext/colltable.Check: printed by gprint.py
namespace Go.Proofs.Ytfcpebjjcijgcaa.G
open Go.RowKit Go.Proofs.YtfcpebjjcijgcaaW.PrintWords Go.Proofs.YtfcpebjjcijgcaaW.PrintLast Go.Proofs.YtfcpebjjcijgcaaW.PrintMore
attribute [local go_sem] max2_int min2_int max_two min_two max_three min_three max_four min_four   -- for this text's walks alone
set_option linter.unusedVariables false
set_option linter.unusedSimpArgs false
/-! ### colltable_Check: function 22 -/
mutual
def colltable_Check.j0 : Nat → Bool → List (S49) → List (S36) → Int → Int → Int → Option (Int)
  | 0, _, _, _, _, _, _ => none
  | k + 1, x34, x102000, x102001, x102002, x102003, x102004 => if x34 = true then (some 1) else ((colltable_ofGroups.f x102000 x102001 x102002 x102003 x102004).bind fun t102 => (if t102 = 0 then (colltable_Check.l0 k x102000 (x102000.length : Int) 0 x102000 x102001 x102002 x102003 x102004) else (some t102)))
def colltable_Check.l0 : Nat → List (S49) → Int → Int → List (S49) → List (S36) → Int → Int → Int → Option (Int)
  | 0, _, _, _, _, _, _, _, _ => none
  | k + 1, x41, x42, x43, x102000, x102001, x102002, x102003, x102004 => if x43 < x42 then (if 0 ≤ x43 then (if x43 < (x41.length : Int) then ((colltable_ofEntry.f x102000 x102001 x102002 x102003 x102004 ((rd_T49 x41 x43).f0) ((rd_T49 x41 x43).f1)).bind fun t105 => (if t105 = 0 then (if x43 > 0 then (if 0 ≤ (wrap64 (x43 - 1)) then (if (wrap64 (x43 - 1)) < (x102000.length : Int) then ((codepoint_Compare.f ((rd_T49 x102000 (wrap64 (x43 - 1))).f0) ((rd_T49 x41 x43).f0)).bind fun t107 => (if t107 ≥ 0 then (some 4) else (colltable_Check.l0 k x41 x42 (wrap64 (x43 + 1)) x102000 x102001 x102002 x102003 x102004))) else (none)) else (none)) else (colltable_Check.l0 k x41 x42 (wrap64 (x43 + 1)) x102000 x102001 x102002 x102003 x102004)) else (some t105))) else (none)) else (none)) else (some 0)
end
def colltable_Check.f (k : Nat) (l0_0 : List (S49)) (l0_1 : List (S36)) (a0_2 : Int) (a0_3 : Int) (a0_4 : Int) : Option (Int) := if a0_2 < 1 then (colltable_Check.j0 k true l0_0 l0_1 a0_2 a0_3 a0_4) else (if a0_2 > 65502 then (colltable_Check.j0 k true l0_0 l0_1 a0_2 a0_3 a0_4) else (if a0_3 < 1 then (colltable_Check.j0 k true l0_0 l0_1 a0_2 a0_3 a0_4) else (if a0_3 > 65535 then (colltable_Check.j0 k true l0_0 l0_1 a0_2 a0_3 a0_4) else (if a0_4 < 1 then (colltable_Check.j0 k true l0_0 l0_1 a0_2 a0_3 a0_4) else (colltable_Check.j0 k (decide (a0_4 > 65535)) l0_0 l0_1 a0_2 a0_3 a0_4)))))
def colltable_Check.T12 : Bool × List (List Nat × List Nat) := (true, [([], []), ([0], [0]), ([1], [1]), ([2], [2]), ([3, 2], [2, 3]), ([2], [2]), ([5, 2], [2, 5]), ([4, 6, 2], [2, 4, 6]), ([7, 2], [2, 7]), ([8, 2], [2, 8]), ([2], [2]), ([10, 2], [2, 10]), ([9, 11, 2, 2], [2, 9, 11]), ([12, 2], [2, 12]), ([2, 13], [2, 13])])
def colltable_Check.B12 : List Nat := [0, 1, 3, 7, 15, 7, 39, 127, 255, 511, 7, 1031, 4095, 8191, 16383]
theorem colltable_Check.tab12 : rtab .any (opsOf Try.f22 12) = colltable_Check.T12 := by kernel_rfl
theorem colltable_Check.bits12 : waitsOk colltable_Check.T12.2 colltable_Check.B12 = true := by kernel_rfl
set_option maxHeartbeats 8000000 in
set_option maxRecDepth 100000 in
theorem colltable_Check.calls (k : Nat) (A0_0 : Option Addr) (c0_0 : Nat) (l0_0 : List (S49)) (A0_1 : Option Addr) (c0_1 : Nat) (l0_1 : List (S36)) (a0_2 : Int) (a0_3 : Int) (a0_4 : Int) (r : Int) (w : World) (hr0_0 : Kd.C k49 w A0_0 l0_0.length l0_0) (hc0_0 : l0_0.length ≤ c0_0) (hr0_1 : Kd.C k36 w A0_1 l0_1.length l0_1) (hc0_1 : l0_1.length ≤ c0_1) (h : colltable_Check.f k l0_0 l0_1 a0_2 a0_3 a0_4 = some r) :
  Calls Try.prog 22 #[.agg #[.slice A0_0 l0_0.length c0_0, .slice A0_1 l0_1.length c0_1, .int .i64 a0_2, .int .i64 a0_3, .int .i64 a0_4]] w fun e w' => e = .returned (.int .i64 r) ∧ Below w.heap.size w w' := by
 have hu25 := Try.underlying25
 have hu49 := Try.underlying49
 have HR0_0 := Aside0.mk hr0_0
 have HC0_0 := Aside0.mk hc0_0
 clear hr0_0 hc0_0
 have HR0_1 := Aside0.mk hr0_1
 have HC0_1 := Aside0.mk hc0_1
 clear hr0_1 hc0_1
 have HB := Aside0.mk (Below.refl w.heap.size w)
 have H : (if a0_2 < 1 then (colltable_Check.j0 k true l0_0 l0_1 a0_2 a0_3 a0_4) else (if a0_2 > 65502 then (colltable_Check.j0 k true l0_0 l0_1 a0_2 a0_3 a0_4) else (if a0_3 < 1 then (colltable_Check.j0 k true l0_0 l0_1 a0_2 a0_3 a0_4) else (if a0_3 > 65535 then (colltable_Check.j0 k true l0_0 l0_1 a0_2 a0_3 a0_4) else (if a0_4 < 1 then (colltable_Check.j0 k true l0_0 l0_1 a0_2 a0_3 a0_4) else (colltable_Check.j0 k (decide (a0_4 > 65535)) l0_0 l0_1 a0_2 a0_3 a0_4)))))) = some r := h
 clear h
 have HC2 := Aside0.mk H
 clear H
 go_enter Try.func22, Try.ntmps22
 go_upto_region 1 with (first | ((with_reducible refine gate_dst (N := 1) rfl ?_); refine box_event ?hg (N := 1) ?hd (cs := #[.slice A0_0 l0_0.length c0_0, .slice A0_1 l0_1.length c0_1, .int .i64 a0_2, .int .i64 a0_3, .int .i64 a0_4]) (t := 25) ?hr ?_; (case hd => rfl); (case hg => rfl); (case hr => first | (go_simp; done) | (go_simp; rfl)); intro gb101 hg w3 hbox hb; have n0_ := Aside0.mk (below_step (by repeat (first | (with_reducible first | exact HB.out | apply below_alloc | apply pw_below_drewN | apply below_drew1) | exact HB.out)) hb); have n1_ := Aside0.mk (hbox); have n2_ := Aside0.mk ((by rw [hg]; exact (below_size (by repeat (first | (with_reducible first | exact HB.out | apply below_alloc | apply pw_below_drewN | apply below_drew1) | exact HB.out))) : w.heap.size ≤ gb101)); have n3_ := Aside0.mk ((by rw [hg]; exact (below_size (by repeat (first | (with_reducible first | exact HB.out | apply below_alloc | apply pw_below_drewN | apply below_drew1) | exact HB.out))) : w.heap.size ≤ gb101)); clear HB; have HB := n0_; have BK101 := n1_; have GW101 := n2_; have GE101 := n3_; clear n0_ n1_ n2_ n3_; clear hb hbox hg))
 (try simp only [Act.put, List.setIfInBounds_toArray, List.set_cons_zero, List.set_cons_succ])
 go_cut [34] (fun v34 wc => ∃ (kq : Nat) (x34_1 : Bool), v34 = .bool x34_1 ∧ Aside0 (colltable_Check.j0 kq x34_1 l0_0 l0_1 a0_2 a0_3 a0_4 = some r) ∧ Aside0 (kq ≤ k) ∧ Aside0 (wc.heap[gb101]? = some (.cells #[(.slice A0_0 l0_0.length c0_0), (.slice A0_1 l0_1.length c0_1), .int .i64 a0_2, .int .i64 a0_3, .int .i64 a0_4] 25 (0, 0))) ∧ Aside0 (Below w.heap.size w wc))
 case first =>
  have H := HC2.out
  clear HC2
  by_cases c4 : a0_2 < 1
  ·rw [if_pos c4] at H
   have c4b0 : decide (a0_2 < 1) = true := decide_eq_true c4
   clear c4
   (first | rw [c4b0] | (simp only [i64_w, i32_w]; rw [c4b0]) | skip)
   have H' := Aside0.mk H
   clear H
   have hcz5_0 : w3.cell? ⟨gb101, 0, none⟩ = some (.slice A0_0 l0_0.length c0_0) := (blk_cell BK101.out 0).trans rfl
   have hcz5_1 : w3.cell? ⟨gb101, 1, none⟩ = some (.slice A0_1 l0_1.length c0_1) := (blk_cell BK101.out 1).trans rfl
   have hcz5_2 : w3.cell? ⟨gb101, 2, none⟩ = some (.int .i64 a0_2) := (blk_cell BK101.out 2).trans rfl
   have hcz5_3 : w3.cell? ⟨gb101, 3, none⟩ = some (.int .i64 a0_3) := (blk_cell BK101.out 3).trans rfl
   have hcz5_4 : w3.cell? ⟨gb101, 4, none⟩ = some (.int .i64 a0_4) := (blk_cell BK101.out 4).trans rfl
   have hfz5_0 := blk_frozen BK101.out 0
   have hfz5_1 := blk_frozen BK101.out 1
   have hfz5_2 := blk_frozen BK101.out 2
   have hfz5_3 := blk_frozen BK101.out 3
   have hfz5_4 := blk_frozen BK101.out 4
   go_wp2
   go_meet
   case rel => exact ⟨_, (true), (by first | rfl | (simp; done) | (simp [*]; done)), H', ⟨by first | omega | exact Nat.le_refl _⟩, ⟨by (with_reducible repeat (first | refine blk_drewN ?_ _ | refine blk_drew ?_ | refine blk_alloc ?_ _)); exact BK101.out⟩, ⟨by repeat (first | (with_reducible first | exact HB.out | apply below_alloc | apply pw_below_drewN | apply below_drew1 | refine below_set ?_ GE101.out) | exact HB.out)⟩⟩
  ·rw [if_neg c4] at H
   have c4b0 : decide (a0_2 < 1) = false := decide_eq_false c4
   clear c4
   (first | rw [c4b0] | (simp only [i64_w, i32_w]; rw [c4b0]) | skip)
   by_cases c6 : a0_2 > 65502
   ·rw [if_pos c6] at H
    have c6b0 : decide (65502 < a0_2) = true := decide_eq_true c6
    clear c6
    have H' := Aside0.mk H
    clear H
    have hcz7_0 : w3.cell? ⟨gb101, 0, none⟩ = some (.slice A0_0 l0_0.length c0_0) := (blk_cell BK101.out 0).trans rfl
    have hcz7_1 : w3.cell? ⟨gb101, 1, none⟩ = some (.slice A0_1 l0_1.length c0_1) := (blk_cell BK101.out 1).trans rfl
    have hcz7_2 : w3.cell? ⟨gb101, 2, none⟩ = some (.int .i64 a0_2) := (blk_cell BK101.out 2).trans rfl
    have hcz7_3 : w3.cell? ⟨gb101, 3, none⟩ = some (.int .i64 a0_3) := (blk_cell BK101.out 3).trans rfl
    have hcz7_4 : w3.cell? ⟨gb101, 4, none⟩ = some (.int .i64 a0_4) := (blk_cell BK101.out 4).trans rfl
    have hfz7_0 := blk_frozen BK101.out 0
    have hfz7_1 := blk_frozen BK101.out 1
    have hfz7_2 := blk_frozen BK101.out 2
    have hfz7_3 := blk_frozen BK101.out 3
    have hfz7_4 := blk_frozen BK101.out 4
    go_wp2
    go_meet
    case rel => exact ⟨_, (true), (by first | rfl | (simp; done) | (simp [*]; done)), H', ⟨by first | omega | exact Nat.le_refl _⟩, ⟨by (with_reducible repeat (first | refine blk_drewN ?_ _ | refine blk_drew ?_ | refine blk_alloc ?_ _)); exact BK101.out⟩, ⟨by repeat (first | (with_reducible first | exact HB.out | apply below_alloc | apply pw_below_drewN | apply below_drew1 | refine below_set ?_ GE101.out) | exact HB.out)⟩⟩
   ·rw [if_neg c6] at H
    have c6b0 : decide (65502 < a0_2) = false := decide_eq_false c6
    clear c6
    by_cases c8 : a0_3 < 1
    ·rw [if_pos c8] at H
     have c8b0 : decide (a0_3 < 1) = true := decide_eq_true c8
     clear c8
     have H' := Aside0.mk H
     clear H
     have hcz9_0 : w3.cell? ⟨gb101, 0, none⟩ = some (.slice A0_0 l0_0.length c0_0) := (blk_cell BK101.out 0).trans rfl
     have hcz9_1 : w3.cell? ⟨gb101, 1, none⟩ = some (.slice A0_1 l0_1.length c0_1) := (blk_cell BK101.out 1).trans rfl
     have hcz9_2 : w3.cell? ⟨gb101, 2, none⟩ = some (.int .i64 a0_2) := (blk_cell BK101.out 2).trans rfl
     have hcz9_3 : w3.cell? ⟨gb101, 3, none⟩ = some (.int .i64 a0_3) := (blk_cell BK101.out 3).trans rfl
     have hcz9_4 : w3.cell? ⟨gb101, 4, none⟩ = some (.int .i64 a0_4) := (blk_cell BK101.out 4).trans rfl
     have hfz9_0 := blk_frozen BK101.out 0
     have hfz9_1 := blk_frozen BK101.out 1
     have hfz9_2 := blk_frozen BK101.out 2
     have hfz9_3 := blk_frozen BK101.out 3
     have hfz9_4 := blk_frozen BK101.out 4
     go_wp2
     go_meet
     case rel => exact ⟨_, (true), (by first | rfl | (simp; done) | (simp [*]; done)), H', ⟨by first | omega | exact Nat.le_refl _⟩, ⟨by (with_reducible repeat (first | refine blk_drewN ?_ _ | refine blk_drew ?_ | refine blk_alloc ?_ _)); exact BK101.out⟩, ⟨by repeat (first | (with_reducible first | exact HB.out | apply below_alloc | apply pw_below_drewN | apply below_drew1 | refine below_set ?_ GE101.out) | exact HB.out)⟩⟩
    ·rw [if_neg c8] at H
     have c8b0 : decide (a0_3 < 1) = false := decide_eq_false c8
     clear c8
     by_cases c10 : a0_3 > 65535
     ·rw [if_pos c10] at H
      have c10b0 : decide (65535 < a0_3) = true := decide_eq_true c10
      clear c10
      have H' := Aside0.mk H
      clear H
      have hcz11_0 : w3.cell? ⟨gb101, 0, none⟩ = some (.slice A0_0 l0_0.length c0_0) := (blk_cell BK101.out 0).trans rfl
      have hcz11_1 : w3.cell? ⟨gb101, 1, none⟩ = some (.slice A0_1 l0_1.length c0_1) := (blk_cell BK101.out 1).trans rfl
      have hcz11_2 : w3.cell? ⟨gb101, 2, none⟩ = some (.int .i64 a0_2) := (blk_cell BK101.out 2).trans rfl
      have hcz11_3 : w3.cell? ⟨gb101, 3, none⟩ = some (.int .i64 a0_3) := (blk_cell BK101.out 3).trans rfl
      have hcz11_4 : w3.cell? ⟨gb101, 4, none⟩ = some (.int .i64 a0_4) := (blk_cell BK101.out 4).trans rfl
      have hfz11_0 := blk_frozen BK101.out 0
      have hfz11_1 := blk_frozen BK101.out 1
      have hfz11_2 := blk_frozen BK101.out 2
      have hfz11_3 := blk_frozen BK101.out 3
      have hfz11_4 := blk_frozen BK101.out 4
      go_wp2
      go_meet
      case rel => exact ⟨_, (true), (by first | rfl | (simp; done) | (simp [*]; done)), H', ⟨by first | omega | exact Nat.le_refl _⟩, ⟨by (with_reducible repeat (first | refine blk_drewN ?_ _ | refine blk_drew ?_ | refine blk_alloc ?_ _)); exact BK101.out⟩, ⟨by repeat (first | (with_reducible first | exact HB.out | apply below_alloc | apply pw_below_drewN | apply below_drew1 | refine below_set ?_ GE101.out) | exact HB.out)⟩⟩
     ·rw [if_neg c10] at H
      have c10b0 : decide (65535 < a0_3) = false := decide_eq_false c10
      clear c10
      by_cases c12 : a0_4 < 1
      ·rw [if_pos c12] at H
       have c12b0 : decide (a0_4 < 1) = true := decide_eq_true c12
       clear c12
       have H' := Aside0.mk H
       clear H
       have hcz13_0 : w3.cell? ⟨gb101, 0, none⟩ = some (.slice A0_0 l0_0.length c0_0) := (blk_cell BK101.out 0).trans rfl
       have hcz13_1 : w3.cell? ⟨gb101, 1, none⟩ = some (.slice A0_1 l0_1.length c0_1) := (blk_cell BK101.out 1).trans rfl
       have hcz13_2 : w3.cell? ⟨gb101, 2, none⟩ = some (.int .i64 a0_2) := (blk_cell BK101.out 2).trans rfl
       have hcz13_3 : w3.cell? ⟨gb101, 3, none⟩ = some (.int .i64 a0_3) := (blk_cell BK101.out 3).trans rfl
       have hcz13_4 : w3.cell? ⟨gb101, 4, none⟩ = some (.int .i64 a0_4) := (blk_cell BK101.out 4).trans rfl
       have hfz13_0 := blk_frozen BK101.out 0
       have hfz13_1 := blk_frozen BK101.out 1
       have hfz13_2 := blk_frozen BK101.out 2
       have hfz13_3 := blk_frozen BK101.out 3
       have hfz13_4 := blk_frozen BK101.out 4
       go_wp2
       go_meet
       case rel => exact ⟨_, (true), (by first | rfl | (simp; done) | (simp [*]; done)), H', ⟨by first | omega | exact Nat.le_refl _⟩, ⟨by (with_reducible repeat (first | refine blk_drewN ?_ _ | refine blk_drew ?_ | refine blk_alloc ?_ _)); exact BK101.out⟩, ⟨by repeat (first | (with_reducible first | exact HB.out | apply below_alloc | apply pw_below_drewN | apply below_drew1 | refine below_set ?_ GE101.out) | exact HB.out)⟩⟩
      ·rw [if_neg c12] at H
       have c12b0 : decide (a0_4 < 1) = false := decide_eq_false c12
       clear c12
       have H' := Aside0.mk H
       clear H
       have hcz14_0 : w3.cell? ⟨gb101, 0, none⟩ = some (.slice A0_0 l0_0.length c0_0) := (blk_cell BK101.out 0).trans rfl
       have hcz14_1 : w3.cell? ⟨gb101, 1, none⟩ = some (.slice A0_1 l0_1.length c0_1) := (blk_cell BK101.out 1).trans rfl
       have hcz14_2 : w3.cell? ⟨gb101, 2, none⟩ = some (.int .i64 a0_2) := (blk_cell BK101.out 2).trans rfl
       have hcz14_3 : w3.cell? ⟨gb101, 3, none⟩ = some (.int .i64 a0_3) := (blk_cell BK101.out 3).trans rfl
       have hcz14_4 : w3.cell? ⟨gb101, 4, none⟩ = some (.int .i64 a0_4) := (blk_cell BK101.out 4).trans rfl
       have hfz14_0 := blk_frozen BK101.out 0
       have hfz14_1 := blk_frozen BK101.out 1
       have hfz14_2 := blk_frozen BK101.out 2
       have hfz14_3 := blk_frozen BK101.out 3
       have hfz14_4 := blk_frozen BK101.out 4
       go_wp2
       go_meet
       case rel => exact ⟨_, (decide (a0_4 > 65535)), (by first | rfl | (simp; done) | (simp [*]; done)), H', ⟨by first | omega | exact Nat.le_refl _⟩, ⟨by (with_reducible repeat (first | refine blk_drewN ?_ _ | refine blk_drew ?_ | refine blk_alloc ?_ _)); exact BK101.out⟩, ⟨by repeat (first | (with_reducible first | exact HB.out | apply below_alloc | apply pw_below_drewN | apply below_drew1 | refine below_set ?_ GE101.out) | exact HB.out)⟩⟩
 case rest =>
  clear HC2
  try clear c1
  try clear c2
  try clear p2
  try clear c4
  try clear c4b0
  try clear c6
  try clear c6b0
  try clear c8
  try clear c8b0
  try clear c10
  try clear c10b0
  try clear c12
  try clear c12b0
  try clear hcz11_0
  try clear hcz11_1
  try clear hcz11_2
  try clear hcz11_3
  try clear hcz11_4
  try clear hcz13_0
  try clear hcz13_1
  try clear hcz13_2
  try clear hcz13_3
  try clear hcz13_4
  try clear hcz14_0
  try clear hcz14_1
  try clear hcz14_2
  try clear hcz14_3
  try clear hcz14_4
  try clear hcz5_0
  try clear hcz5_1
  try clear hcz5_2
  try clear hcz5_3
  try clear hcz5_4
  try clear hcz7_0
  try clear hcz7_1
  try clear hcz7_2
  try clear hcz7_3
  try clear hcz7_4
  try clear hcz9_0
  try clear hcz9_1
  try clear hcz9_2
  try clear hcz9_3
  try clear hcz9_4
  try clear hfz11_0
  try clear hfz11_1
  try clear hfz11_2
  try clear hfz11_3
  try clear hfz11_4
  try clear hfz13_0
  try clear hfz13_1
  try clear hfz13_2
  try clear hfz13_3
  try clear hfz13_4
  try clear hfz14_0
  try clear hfz14_1
  try clear hfz14_2
  try clear hfz14_3
  try clear hfz14_4
  try clear hfz5_0
  try clear hfz5_1
  try clear hfz5_2
  try clear hfz5_3
  try clear hfz5_4
  try clear hfz7_0
  try clear hfz7_1
  try clear hfz7_2
  try clear hfz7_3
  try clear hfz7_4
  try clear hfz9_0
  try clear hfz9_1
  try clear hfz9_2
  try clear hfz9_3
  try clear hfz9_4
  obtain ⟨kq, x34_1, rfl, HA, HJ1, BK101, HB⟩ := hcut
  cases kq with
  | zero => exact absurd HA.out (by simp [colltable_Check.j0])
  | succ kj1 =>
   have H := HA.out
   clear HA
   simp only [colltable_Check.j0] at H
   by_cases c15 : x34_1 = true
   ·subst c15
    have H1 : (some 1) = some r := by rw [if_pos rfl] at H; exact H
    clear H
    have H := H1
    clear H1
    obtain rfl := Option.some.inj H
    go_wp2
    go_ret
    exact ⟨by first | rfl | (simp [errW_none, errW_some] <;> rfl) | (simp [*, errW_none, errW_some] <;> rfl), by repeat (first | (with_reducible first | exact HB.out | apply below_alloc | apply pw_below_drewN | apply below_drew1 | refine below_set ?_ GE101.out) | exact HB.out)⟩
   ·replace c15 := Bool.eq_false_iff.mpr c15
    subst c15
    have H1 : ((colltable_ofGroups.f l0_0 l0_1 a0_2 a0_3 a0_4).bind fun t102 => (if t102 = 0 then (colltable_Check.l0 kj1 l0_0 (l0_0.length : Int) 0 l0_0 l0_1 a0_2 a0_3 a0_4) else (some t102))) = some r := by rw [if_neg (show ¬ (false = true) by decide)] at H; exact H
    clear H
    have H := H1
    clear H1
    replace H := Option.bind_eq_some_iff.mp H
    obtain ⟨t102, A160, H⟩ := H
    replace H : (if t102 = 0 then (colltable_Check.l0 kj1 l0_0 (l0_0.length : Int) 0 l0_0 l0_1 a0_2 a0_3 a0_4) else (some t102)) = some r := H
    have A16 := Aside0.mk A160
    clear A160
    by_cases c17 : t102 = 0
    ·rw [if_pos c17] at H
     have c17b0 : (t102 == 0) = true := beq_iff_eq.mpr c17
     have c17b1 : (t102 != 0) = false := bne_eq_false_iff_eq.mpr c17
     clear c17
     have H' := Aside0.mk H
     clear H
     have hcz18_0 : wc.cell? ⟨gb101, 0, none⟩ = some (.slice A0_0 l0_0.length c0_0) := (blk_cell BK101.out 0).trans rfl
     have hcz18_1 : wc.cell? ⟨gb101, 1, none⟩ = some (.slice A0_1 l0_1.length c0_1) := (blk_cell BK101.out 1).trans rfl
     have hcz18_2 : wc.cell? ⟨gb101, 2, none⟩ = some (.int .i64 a0_2) := (blk_cell BK101.out 2).trans rfl
     have hcz18_3 : wc.cell? ⟨gb101, 3, none⟩ = some (.int .i64 a0_3) := (blk_cell BK101.out 3).trans rfl
     have hcz18_4 : wc.cell? ⟨gb101, 4, none⟩ = some (.int .i64 a0_4) := (blk_cell BK101.out 4).trans rfl
     have hfz18_0 := blk_frozen BK101.out 0
     have hfz18_1 := blk_frozen BK101.out 1
     have hfz18_2 := blk_frozen BK101.out 2
     have hfz18_3 := blk_frozen BK101.out 3
     have hfz18_4 := blk_frozen BK101.out 4
     go_wp2_with (first | ((with_reducible refine gate_callee (f := 35) rfl ?_); refine goesL_ (some 36) rfl rfl Try.func35 (by kernel_rfl) rfl #[.agg #[.slice A0_0 l0_0.length c0_0, .slice A0_1 l0_1.length c0_1, .int .i64 a0_2, .int .i64 a0_3, .int .i64 a0_4]] rfl (by (try simp only [List.map_toArray, List.map_cons, List.map_nil]); first | done | rfl | (simp only [List.length_drop, List.length_take]; rfl)) ?_; (with_reducible refine (colltable_ofGroups.calls _ _ l0_0 _ _ l0_1 a0_2 a0_3 a0_4 t102 _ ?side1 ?side2 ?side3 ?side4 A16.out).mono ?_); (case side1 => repeat (first | exact (Kd.C_below HR0_0.out HB.out) | (with_reducible refine Kd.C_alloc ?_ _) | (with_reducible refine Kd.C_drewN ?_ _) | (with_reducible refine Kd.C_drew ?_))); (case side2 => exact HC0_0.out); (case side3 => repeat (first | exact (Kd.C_below HR0_1.out HB.out) | (with_reducible refine Kd.C_alloc ?_ _) | (with_reducible refine Kd.C_drewN ?_ _) | (with_reducible refine Kd.C_drew ?_))); (case side4 => exact HC0_1.out); rintro e w19 ⟨rfl, hb⟩; refine ⟨_, rfl, ?_⟩; have n0_ := Aside0.mk (blk_below (g := gb101) (o := .cells #[.slice A0_0 l0_0.length c0_0, .slice A0_1 l0_1.length c0_1, .int .i64 a0_2, .int .i64 a0_3, .int .i64 a0_4] 25 (0, 0)) (by (with_reducible repeat (first | refine blk_drewN ?_ _ | refine blk_drew ?_ | refine blk_alloc ?_ _)); exact BK101.out) hb); have n1_ := Aside0.mk (below_step (by repeat (first | (with_reducible first | exact HB.out | apply below_alloc | apply pw_below_drewN | apply below_drew1 | refine below_set ?_ GE101.out) | exact HB.out)) hb); clear BK101; clear HB; have BK101 := n0_; have HB := n1_; clear n0_ n1_; (try clear hb); (try clear hb2); (try clear hk); (try clear hi); have hcz20_0 : w19.cell? ⟨gb101, 0, none⟩ = some (.slice A0_0 l0_0.length c0_0) := (blk_cell BK101.out 0).trans rfl; have hcz20_1 : w19.cell? ⟨gb101, 1, none⟩ = some (.slice A0_1 l0_1.length c0_1) := (blk_cell BK101.out 1).trans rfl; have hcz20_2 : w19.cell? ⟨gb101, 2, none⟩ = some (.int .i64 a0_2) := (blk_cell BK101.out 2).trans rfl; have hcz20_3 : w19.cell? ⟨gb101, 3, none⟩ = some (.int .i64 a0_3) := (blk_cell BK101.out 3).trans rfl; have hcz20_4 : w19.cell? ⟨gb101, 4, none⟩ = some (.int .i64 a0_4) := (blk_cell BK101.out 4).trans rfl; have hfz20_0 := blk_frozen BK101.out 0; have hfz20_1 := blk_frozen BK101.out 1; have hfz20_2 := blk_frozen BK101.out 2; have hfz20_3 := blk_frozen BK101.out 3; have hfz20_4 := blk_frozen BK101.out 4))
     go_loopg [43] kj1 (fun kq v43 w' => ∃ (x43_2 : Int), v43 = .int .i64 x43_2 ∧ Aside0 (colltable_Check.l0 kq l0_0 (l0_0.length : Int) x43_2 l0_0 l0_1 a0_2 a0_3 a0_4 = some r) ∧ Aside0 (kq ≤ kj1) ∧ Aside0 (w'.heap[gb101]? = some (.cells #[(.slice A0_0 l0_0.length c0_0), (.slice A0_1 l0_1.length c0_1), .int .i64 a0_2, .int .i64 a0_3, .int .i64 a0_4] 25 (0, 0))) ∧ Aside0 (Below w.heap.size w w'))
     case atStart => exact ⟨(0), (by first | rfl | (simp; done) | (simp [*]; done)), H', ⟨Nat.le_refl _⟩, ⟨by (with_reducible repeat (first | refine blk_drewN ?_ _ | refine blk_drew ?_ | refine blk_alloc ?_ _)); exact BK101.out⟩, ⟨by repeat (first | (with_reducible first | exact HB.out | apply below_alloc | apply pw_below_drewN | apply below_drew1 | refine below_set ?_ GE101.out) | exact HB.out)⟩⟩
     case round =>
      clear H'
      try clear c1
      try clear c2
      try clear p2
      try clear c3
      try clear c4
      try clear c4b0
      try clear c6
      try clear c6b0
      try clear c8
      try clear c8b0
      try clear c10
      try clear c10b0
      try clear c12
      try clear c12b0
      try clear c15
      try clear c17
      try clear c17b0
      try clear c17b1
      try clear hcz11_0
      try clear hcz11_1
      try clear hcz11_2
      try clear hcz11_3
      try clear hcz11_4
      try clear hcz13_0
      try clear hcz13_1
      try clear hcz13_2
      try clear hcz13_3
      try clear hcz13_4
      try clear hcz14_0
      try clear hcz14_1
      try clear hcz14_2
      try clear hcz14_3
      try clear hcz14_4
      try clear hcz18_0
      try clear hcz18_1
      try clear hcz18_2
      try clear hcz18_3
      try clear hcz18_4
      try clear hcz20_0
      try clear hcz20_1
      try clear hcz20_2
      try clear hcz20_3
      try clear hcz20_4
      try clear hcz5_0
      try clear hcz5_1
      try clear hcz5_2
      try clear hcz5_3
      try clear hcz5_4
      try clear hcz7_0
      try clear hcz7_1
      try clear hcz7_2
      try clear hcz7_3
      try clear hcz7_4
      try clear hcz9_0
      try clear hcz9_1
      try clear hcz9_2
      try clear hcz9_3
      try clear hcz9_4
      try clear hfz11_0
      try clear hfz11_1
      try clear hfz11_2
      try clear hfz11_3
      try clear hfz11_4
      try clear hfz13_0
      try clear hfz13_1
      try clear hfz13_2
      try clear hfz13_3
      try clear hfz13_4
      try clear hfz14_0
      try clear hfz14_1
      try clear hfz14_2
      try clear hfz14_3
      try clear hfz14_4
      try clear hfz18_0
      try clear hfz18_1
      try clear hfz18_2
      try clear hfz18_3
      try clear hfz18_4
      try clear hfz20_0
      try clear hfz20_1
      try clear hfz20_2
      try clear hfz20_3
      try clear hfz20_4
      try clear hfz5_0
      try clear hfz5_1
      try clear hfz5_2
      try clear hfz5_3
      try clear hfz5_4
      try clear hfz7_0
      try clear hfz7_1
      try clear hfz7_2
      try clear hfz7_3
      try clear hfz7_4
      try clear hfz9_0
      try clear hfz9_1
      try clear hfz9_2
      try clear hfz9_3
      try clear hfz9_4
      try clear p2
      obtain ⟨x43_2, rfl, HA, HK2, BK101, HB⟩ := hrel
      cases gk with
      | zero => exact absurd HA.out (by simp [colltable_Check.l0])
      | succ k2 =>
       have H := HA.out
       clear HA
       simp only [colltable_Check.l0] at H
       by_cases c21 : x43_2 < (l0_0.length : Int)
       ·rw [if_pos c21] at H
        have c21b0 : decide (x43_2 < (l0_0.length : Int)) = true := decide_eq_true c21
        clear c21
        by_cases c22 : 0 ≤ x43_2
        ·rw [if_pos c22] at H
         have c22b0 : decide (0 ≤ x43_2) = true := decide_eq_true c22
         clear c22
         by_cases c23 : x43_2 < (l0_0.length : Int)
         ·rw [if_pos c23] at H
          have c23b0 : decide (x43_2 < (l0_0.length : Int)) = true := decide_eq_true c23
          clear c23
          replace H := Option.bind_eq_some_iff.mp H
          obtain ⟨t105, A240, H⟩ := H
          replace H : (if t105 = 0 then (if x43_2 > 0 then (if 0 ≤ (wrap64 (x43_2 - 1)) then (if (wrap64 (x43_2 - 1)) < (l0_0.length : Int) then ((codepoint_Compare.f ((rd_T49 l0_0 (wrap64 (x43_2 - 1))).f0) ((rd_T49 l0_0 x43_2).f0)).bind fun t107 => (if t107 ≥ 0 then (some 4) else (colltable_Check.l0 k2 l0_0 (l0_0.length : Int) (wrap64 (x43_2 + 1)) l0_0 l0_1 a0_2 a0_3 a0_4))) else (none)) else (none)) else (colltable_Check.l0 k2 l0_0 (l0_0.length : Int) (wrap64 (x43_2 + 1)) l0_0 l0_1 a0_2 a0_3 a0_4)) else (some t105)) = some r := H
          have A24 := Aside0.mk A240
          clear A240
          by_cases c25 : t105 = 0
          ·rw [if_pos c25] at H
           have c25b0 : (t105 == 0) = true := beq_iff_eq.mpr c25
           have c25b1 : (t105 != 0) = false := bne_eq_false_iff_eq.mpr c25
           clear c25
           by_cases c26 : x43_2 > 0
           ·rw [if_pos c26] at H
            have c26b0 : decide (0 < x43_2) = true := decide_eq_true c26
            clear c26
            obtain ⟨ji27, hji27⟩ : ∃ j_ : Int, (wrap64 (x43_2 - 1)) = j_ := ⟨_, rfl⟩
            replace H : (if 0 ≤ (ji27) then (if (ji27) < (l0_0.length : Int) then ((codepoint_Compare.f ((rd_T49 l0_0 (ji27)).f0) ((rd_T49 l0_0 x43_2).f0)).bind fun t107 => (if t107 ≥ 0 then (some 4) else (colltable_Check.l0 k2 l0_0 (l0_0.length : Int) (wrap64 (x43_2 + 1)) l0_0 l0_1 a0_2 a0_3 a0_4))) else (none)) else (none)) = some r := by first | (rw [hji27] at H; exact H) | (simp only [hji27] at H ⊢; exact H)
            (try rw [hji27] at A24)
            have hji27w : (IntKind.i64.wrap (x43_2 - 1)) = ji27 := (i64_w _).trans hji27
            by_cases c28 : 0 ≤ (ji27)
            ·rw [if_pos c28] at H
             have c28b0 : decide (0 ≤ (ji27)) = true := decide_eq_true c28
             clear c28
             by_cases c29 : (ji27) < (l0_0.length : Int)
             ·rw [if_pos c29] at H
              have c29b0 : decide ((ji27) < (l0_0.length : Int)) = true := decide_eq_true c29
              clear c29
              replace H := Option.bind_eq_some_iff.mp H
              obtain ⟨t107, A300, H⟩ := H
              replace H : (if t107 ≥ 0 then (some 4) else (colltable_Check.l0 k2 l0_0 (l0_0.length : Int) (wrap64 (x43_2 + 1)) l0_0 l0_1 a0_2 a0_3 a0_4)) = some r := H
              have A30 := Aside0.mk A300
              clear A300
              by_cases c31 : t107 ≥ 0
              ·rw [if_pos c31] at H
               have c31b0 : decide (0 ≤ t107) = true := decide_eq_true c31
               clear c31
               obtain rfl := Option.some.inj H
               have p103 : 0 ≤ (x43_2 : Int) := of_decide_eq_true (by first | (with_reducible assumption) | assumption)
               have q103 : x43_2 < (l0_0.length : Int) := of_decide_eq_true (by first | (with_reducible assumption) | assumption)
               obtain ⟨ad103, A103_0, c103_0, A103_1, c103_1, e103, hx103_0, hx103_1, hl103_0, hi103_0, hl103_1, hi103_1⟩ := at_T49 HR0_0.out x43_2 p103 q103
               cases e103
               replace hx103_0 := (HB.out.cell (World.block_lt_of_cell? w _ hx103_0)).trans hx103_0
               replace hx103_1 := (HB.out.cell (World.block_lt_of_cell? w _ hx103_1)).trans hx103_1
               have HR103_0 := Aside0.mk hi103_0
               have HC103_0 := Aside0.mk hl103_0
               clear hi103_0 hl103_0
               have HR103_1 := Aside0.mk hi103_1
               have HC103_1 := Aside0.mk hl103_1
               clear hi103_1 hl103_1
               replace p103 := eq_true p103
               replace q103 := eq_true q103
               try go_wp2_with (first | ((with_reducible refine gate_dst (N := 5) rfl ?_); refine box_event ?hg (N := 5) ?hd (cs := #[.slice none 0 0, .slice none 0 0]) (t := 49) ?hr ?_; (case hd => rfl); (case hg => rfl); (case hr => first | (go_simp; done) | (go_simp; rfl)); intro gb104 hg w32 hbox hb; have n0_ := Aside0.mk (blk_below (g := gb101) (o := .cells #[.slice (some ad103) l0_0.length c0_0, .slice A0_1 l0_1.length c0_1, .int .i64 a0_2, .int .i64 a0_3, .int .i64 a0_4] 25 (0, 0)) (by (with_reducible repeat (first | refine blk_drewN ?_ _ | refine blk_drew ?_ | refine blk_alloc ?_ _)); exact BK101.out) hb); have n1_ := Aside0.mk (below_step (by repeat (first | (with_reducible first | exact HB.out | apply below_alloc | apply pw_below_drewN | apply below_drew1 | refine below_set ?_ GE101.out) | exact HB.out)) hb); have n2_ := Aside0.mk (hbox); have n3_ := Aside0.mk ((by rw [hg]; exact (below_size (by repeat (first | (with_reducible first | exact HB.out | apply below_alloc | apply pw_below_drewN | apply below_drew1 | refine below_set ?_ GE101.out) | exact HB.out))) : w.heap.size ≤ gb104)); have n4_ := Aside0.mk ((by rw [hg]; exact (below_size (by repeat (first | (with_reducible first | exact HB.out | apply below_alloc | apply pw_below_drewN | apply below_drew1 | refine below_set ?_ GE101.out) | exact HB.out))) : w.heap.size ≤ gb104)); have n5_ := Aside0.mk ((by rw [hg]; exact Nat.ne_of_lt (blk_lt (g := gb101) (o := .cells #[.slice (some ad103) l0_0.length c0_0, .slice A0_1 l0_1.length c0_1, .int .i64 a0_2, .int .i64 a0_3, .int .i64 a0_4] 25 (0, 0)) (by (with_reducible repeat (first | refine blk_drewN ?_ _ | refine blk_drew ?_ | refine blk_alloc ?_ _)); exact BK101.out)) : gb101 ≠ gb104)); have n6_ := Aside0.mk ((by rw [hg]; exact Nat.ne_of_gt (blk_lt (g := gb101) (o := .cells #[.slice (some ad103) l0_0.length c0_0, .slice A0_1 l0_1.length c0_1, .int .i64 a0_2, .int .i64 a0_3, .int .i64 a0_4] 25 (0, 0)) (by (with_reducible repeat (first | refine blk_drewN ?_ _ | refine blk_drew ?_ | refine blk_alloc ?_ _)); exact BK101.out)) : gb104 ≠ gb101)); clear BK101; clear HB; have BK101 := n0_; have HB := n1_; have BK104 := n2_; have GW104 := n3_; have GE104 := n4_; have NB101_104 := n5_; have NB104_101 := n6_; clear n0_ n1_ n2_ n3_ n4_ n5_ n6_; clear hb hbox hg; have hnb33 := NB104_101.out; have hnc33 := NB101_104.out; have hcz34_0 : w32.cell? ⟨gb104, 0, none⟩ = some (.slice none 0 0) := (blk_cell BK104.out 0).trans rfl; have hcz34_1 : w32.cell? ⟨gb104, 1, none⟩ = some (.slice none 0 0) := (blk_cell BK104.out 1).trans rfl; have hfz34_0 := blk_frozen BK104.out 0; have hfz34_1 := blk_frozen BK104.out 1; have hcz35_0 : w32.cell? ⟨gb101, 0, none⟩ = some (.slice (some ad103) l0_0.length c0_0) := (blk_cell BK101.out 0).trans rfl; have hcz35_1 : w32.cell? ⟨gb101, 1, none⟩ = some (.slice A0_1 l0_1.length c0_1) := (blk_cell BK101.out 1).trans rfl; have hcz35_2 : w32.cell? ⟨gb101, 2, none⟩ = some (.int .i64 a0_2) := (blk_cell BK101.out 2).trans rfl; have hcz35_3 : w32.cell? ⟨gb101, 3, none⟩ = some (.int .i64 a0_3) := (blk_cell BK101.out 3).trans rfl; have hcz35_4 : w32.cell? ⟨gb101, 4, none⟩ = some (.int .i64 a0_4) := (blk_cell BK101.out 4).trans rfl; have hfz35_0 := blk_frozen BK101.out 0; have hfz35_1 := blk_frozen BK101.out 1; have hfz35_2 := blk_frozen BK101.out 2; have hfz35_3 := blk_frozen BK101.out 3; have hfz35_4 := blk_frozen BK101.out 4) | ((with_reducible refine gate_callee (f := 36) rfl ?_); refine goesL_ (some 50) rfl rfl Try.func36 (by kernel_rfl) rfl #[.agg #[.slice (some ad103) l0_0.length c0_0, .slice A0_1 l0_1.length c0_1, .int .i64 a0_2, .int .i64 a0_3, .int .i64 a0_4], .agg #[.slice A103_0 ((rd_T49 l0_0 x43_2).f0).length c103_0, .slice A103_1 ((rd_T49 l0_0 x43_2).f1).length c103_1]] rfl (by (try simp only [List.map_toArray, List.map_cons, List.map_nil]); first | done | rfl | (simp only [List.length_drop, List.length_take]; rfl)) ?_; (with_reducible refine (colltable_ofEntry.calls _ _ l0_0 _ _ l0_1 a0_2 a0_3 a0_4 _ _ ((rd_T49 l0_0 x43_2).f0) _ _ ((rd_T49 l0_0 x43_2).f1) t105 _ ?side1 ?side2 ?side3 ?side4 ?side5 ?side6 ?side7 ?side8 A24.out).mono ?_); (case side1 => exact Kd.C_below HR0_0.out (by repeat (first | (with_reducible first | exact HB.out | apply below_alloc | apply pw_below_drewN | apply below_drew1 | refine below_set ?_ GE101.out | refine below_set ?_ GE104.out) | exact HB.out))); (case side2 => exact HC0_0.out); (case side3 => exact Kd.C_below HR0_1.out (by repeat (first | (with_reducible first | exact HB.out | apply below_alloc | apply pw_below_drewN | apply below_drew1 | refine below_set ?_ GE101.out | refine below_set ?_ GE104.out) | exact HB.out))); (case side4 => exact HC0_1.out); (case side5 => exact Kd.C_below HR103_0.out (by repeat (first | (with_reducible first | exact HB.out | apply below_alloc | apply pw_below_drewN | apply below_drew1 | refine below_set ?_ GE101.out | refine below_set ?_ GE104.out) | exact HB.out))); (case side6 => exact HC103_0.out); (case side7 => exact Kd.C_below HR103_1.out (by repeat (first | (with_reducible first | exact HB.out | apply below_alloc | apply pw_below_drewN | apply below_drew1 | refine below_set ?_ GE101.out | refine below_set ?_ GE104.out) | exact HB.out))); (case side8 => exact HC103_1.out); rintro e w36 ⟨rfl, hb⟩; refine ⟨_, rfl, ?_⟩; have n0_ := Aside0.mk (blk_below (g := gb101) (o := .cells #[.slice (some ad103) l0_0.length c0_0, .slice A0_1 l0_1.length c0_1, .int .i64 a0_2, .int .i64 a0_3, .int .i64 a0_4] 25 (0, 0)) (by (with_reducible repeat (first | refine blk_drewN ?_ _ | refine blk_drew ?_ | refine blk_alloc ?_ _)); refine blk_far ?_ NB101_104.out _; (with_reducible repeat (first | refine blk_drewN ?_ _ | refine blk_drew ?_ | refine blk_alloc ?_ _)); refine blk_far ?_ NB101_104.out _; (with_reducible repeat (first | refine blk_drewN ?_ _ | refine blk_drew ?_ | refine blk_alloc ?_ _)); exact BK101.out) hb); have n1_ := Aside0.mk (blk_below (g := gb104) (o := .cells #[.slice A103_0 ((rd_T49 l0_0 x43_2).f0).length c103_0, .slice A103_1 ((rd_T49 l0_0 x43_2).f1).length c103_1] 49 (0, 0)) (by (with_reducible repeat (first | refine blk_drewN ?_ _ | refine blk_drew ?_ | refine blk_alloc ?_ _)); refine blk_put (cs := #[.slice A103_0 ((rd_T49 l0_0 x43_2).f0).length c103_0, .slice none 0 0]) ?_ 1 _ rfl; (with_reducible repeat (first | refine blk_drewN ?_ _ | refine blk_drew ?_ | refine blk_alloc ?_ _)); refine blk_put (cs := #[.slice none 0 0, .slice none 0 0]) ?_ 0 _ rfl; (with_reducible repeat (first | refine blk_drewN ?_ _ | refine blk_drew ?_ | refine blk_alloc ?_ _)); exact BK104.out) hb); have n2_ := Aside0.mk (below_step (by repeat (first | (with_reducible first | exact HB.out | apply below_alloc | apply pw_below_drewN | apply below_drew1 | refine below_set ?_ GE101.out | refine below_set ?_ GE104.out) | exact HB.out)) hb); clear BK101; clear BK104; clear HB; have BK101 := n0_; have BK104 := n1_; have HB := n2_; clear n0_ n1_ n2_; (try clear hb); (try clear hb2); (try clear hk); (try clear hi)))
               have n0_ := Aside0.mk (blk_drew BK101.out)
               have n1_ := Aside0.mk (blk_drew BK104.out)
               have n2_ := Aside0.mk (below_drew1 HB.out)
               clear BK101
               clear BK104
               clear HB
               have BK101 := n0_
               have BK104 := n1_
               have HB := n2_
               clear n0_ n1_ n2_
               have p106 : 0 ≤ ((ji27) : Int) := of_decide_eq_true (by first | (with_reducible assumption) | assumption)
               have q106 : (ji27) < (l0_0.length : Int) := of_decide_eq_true (by first | (with_reducible assumption) | assumption)
               obtain ⟨ad106, A106_0, c106_0, A106_1, c106_1, e106, hx106_0, hx106_1, hl106_0, hi106_0, hl106_1, hi106_1⟩ := at_T49 HR0_0.out (ji27) p106 q106
               have hw106_1 := hx106_1
               have hw106_0 := hx106_0
               obtain rfl : ad103 = ad106 := (by injection e106)
               replace hx106_0 := (HB.out.cell (World.block_lt_of_cell? w _ hx106_0)).trans hx106_0
               replace hx106_1 := (HB.out.cell (World.block_lt_of_cell? w _ hx106_1)).trans hx106_1
               have HR106_0 := Aside0.mk hi106_0
               have HC106_0 := Aside0.mk hl106_0
               clear hi106_0 hl106_0
               have HR106_1 := Aside0.mk hi106_1
               have HC106_1 := Aside0.mk hl106_1
               clear hi106_1 hl106_1
               replace p106 := eq_true p106
               replace q106 := eq_true q106
               refine start_ (n := 15) (S := fun w' => w'.cell? ⟨gb101, 0, none⟩ = some (.slice (some ad103) l0_0.length c0_0) ∧ w'.cell? ⟨gb101, 1, none⟩ = some (.slice A0_1 l0_1.length c0_1) ∧ w'.cell? ⟨gb101, 2, none⟩ = some (.int .i64 a0_2) ∧ w'.cell? ⟨gb101, 3, none⟩ = some (.int .i64 a0_3) ∧ w'.cell? ⟨gb101, 4, none⟩ = some (.int .i64 a0_4) ∧ w'.cell? ⟨gb104, 0, none⟩ = some (.slice A103_0 ((rd_T49 l0_0 x43_2).f0).length c103_0) ∧ w'.cell? ⟨gb104, 1, none⟩ = some (.slice A103_1 ((rd_T49 l0_0 x43_2).f1).length c103_1) ∧ w'.cell? (ad103.add (((ji27)).toNat * 2)) = some (.slice A106_0 ((rd_T49 l0_0 (ji27)).f0).length c106_0) ∧ w'.cell? ⟨(ad103.add (((ji27)).toNat * 2)).block, (ad103.add (((ji27)).toNat * 2)).off + 1, none⟩ = some (.slice A106_1 ((rd_T49 l0_0 (ji27)).f1).length c106_1)) (ds := []) #[false, false, false, false, false, false, false, false, false, false, false, false, false, false, false] (by kernel_rfl) rfl rfl ⟨(blk_cell BK101.out 0).trans rfl, (blk_cell BK101.out 1).trans rfl, (blk_cell BK101.out 2).trans rfl, (blk_cell BK101.out 3).trans rfl, (blk_cell BK101.out 4).trans rfl, (blk_cell BK104.out 0).trans rfl, (blk_cell BK104.out 1).trans rfl, ((HB.out.cell (World.block_lt_of_cell? w _ hw106_0)).trans hw106_0), ((HB.out.cell (World.block_lt_of_cell? w _ hw106_1)).trans hw106_1)⟩ (fun hHeld => ?_); refine with_tabW colltable_Check.tab12 colltable_Check.bits12 (fun HT_ HW_ => ?_)
               generalize w36.drew = w37 at BK101 BK104 HB HR106_0 HR106_1 hx106_0 hx106_1 hHeld ⊢
               refine pure_ (i := 0) (N := some 54) (v := ?_) (a' := ?_) #[true, false, false, false, false, false, false, false, false, false, false, false, false, false, false] rfl rfl (any_of HT_.out (by kernel_rfl)) (fun _ _ _ h => h) (Or.inl ⟨by rfl, ?_⟩) ?_ ?_
               rotate_left
               ·intro w'
                go_simp
                with_reducible rfl
               rotate_left
               ·simp only [Act.put, List.setIfInBounds_toArray, List.set_cons_zero, List.set_cons_succ, i64_w, i32_w]
                rfl
               refine pure_ (i := 1) (N := some 55) (v := ?_) (a' := ?_) #[true, true, false, false, false, false, false, false, false, false, false, false, false, false, false] rfl rfl (any_of HT_.out (by kernel_rfl)) (fun _ _ _ h => h) (Or.inl ⟨by rfl, ?_⟩) ?_ ?_
               rotate_left
               ·intro w'
                go_simp
                with_reducible rfl
               rotate_left
               ·simp only [Act.put, List.setIfInBounds_toArray, List.set_cons_zero, List.set_cons_succ, i64_w, i32_w]
                rfl
               refine pure_ (i := 2) (N := some 56) (v := ?_) (a' := ?_) #[true, true, true, false, false, false, false, false, false, false, false, false, false, false, false] rfl rfl (any_of HT_.out (by kernel_rfl)) (fun _ _ _ h => h) (Or.inl ⟨by rfl, ?_⟩) ?_ ?_
               rotate_left
               ·intro w'
                go_simp
                with_reducible rfl
               rotate_left
               ·simp only [Act.put, List.setIfInBounds_toArray, List.set_cons_zero, List.set_cons_succ, i64_w, i32_w]
                rfl
               refine pure_ (i := 3) (N := some 57) (v := ?_) (a' := ?_) #[true, true, true, true, false, false, false, false, false, false, false, false, false, false, false] rfl rfl (any_of HT_.out (by kernel_rfl)) (fun _ _ _ h => h) (Or.inl ⟨by rfl, ?_⟩) ?_ ?_
               rotate_left
               ·intro w'
                go_simp
                with_reducible rfl
               rotate_left
               ·simp only [Act.put, List.setIfInBounds_toArray, List.set_cons_zero, List.set_cons_succ, i64_w, i32_w]
                rfl
               refine pure_ (i := 5) (N := some 59) (v := ?_) (a' := ?_) #[true, true, true, true, false, true, false, false, false, false, false, false, false, false, false] rfl rfl (any_of HT_.out (by kernel_rfl)) (fun _ _ _ h => h) (Or.inl ⟨by rfl, ?_⟩) ?_ ?_
               rotate_left
               ·intro w'
                go_simp
                with_reducible rfl
               rotate_left
               ·simp only [Act.put, List.setIfInBounds_toArray, List.set_cons_zero, List.set_cons_succ, i64_w, i32_w]
                rfl
               refine pure_ (i := 6) (N := some 60) (v := ?_) (a' := ?_) #[true, true, true, true, false, true, true, false, false, false, false, false, false, false, false] rfl rfl (any_of HT_.out (by kernel_rfl)) (fun _ _ _ h => h) (Or.inl ⟨by rfl, ?_⟩) ?_ ?_
               rotate_left
               ·intro w'
                go_simp
                with_reducible rfl
               rotate_left
               ·simp only [Act.put, List.setIfInBounds_toArray, List.set_cons_zero, List.set_cons_succ, i64_w, i32_w]
                rfl
               refine pure_ (i := 10) (N := some 64) (v := ?_) (a' := ?_) #[true, true, true, true, false, true, true, false, false, false, true, false, false, false, false] rfl rfl (any_of HT_.out (by kernel_rfl)) (fun _ _ _ h => h) (Or.inl ⟨by rfl, ?_⟩) ?_ ?_
               rotate_left
               ·intro w'
                go_simp
                with_reducible rfl
               rotate_left
               ·simp only [Act.put, List.setIfInBounds_toArray, List.set_cons_zero, List.set_cons_succ, i64_w, i32_w]
                rfl
               refine take_ (i := 4) (N := some 58) (v := ?_) (a' := ?_) #[true, true, true, true, true, true, true, false, false, false, true, false, false, false, false] rfl rfl (take_ofW HT_.out HW_.out (by kernel_rfl)) (fun _ _ _ h => h) (Or.inl ⟨by rfl, ?_⟩) hHeld ?_ ?_
               rotate_left
               ·rintro w' ⟨s0, s1, s2, s3, s4, s5, s6, s7, s8⟩
                go_simp
                with_reducible rfl
               rotate_left
               ·simp only [Act.put, List.setIfInBounds_toArray, List.set_cons_zero, List.set_cons_succ, i64_w, i32_w]
                rfl
               refine pure_ (i := 7) (N := some 61) (v := ?_) (a' := ?_) #[true, true, true, true, true, true, true, true, false, false, true, false, false, false, false] rfl rfl (any_of HT_.out (by kernel_rfl)) (fun _ _ _ h => h) (Or.inl ⟨by rfl, ?_⟩) ?_ ?_
               rotate_left
               ·intro w'
                go_simp
                with_reducible rfl
               rotate_left
               ·simp only [Act.put, List.setIfInBounds_toArray, List.set_cons_zero, List.set_cons_succ, i64_w, i32_w]
                rfl
               refine pure_ (i := 8) (N := some 62) (v := ?_) (a' := ?_) #[true, true, true, true, true, true, true, true, true, false, true, false, false, false, false] rfl rfl (any_of HT_.out (by kernel_rfl)) (fun _ _ _ h => h) (Or.inl ⟨by rfl, ?_⟩) ?_ ?_
               rotate_left
               ·intro w'
                go_simp
                with_reducible rfl
               rotate_left
               ·simp only [Act.put, List.setIfInBounds_toArray, List.set_cons_zero, List.set_cons_succ, i64_w, i32_w]
                rfl
               refine take_ (i := 9) (N := some 63) (v := ?_) (a' := ?_) #[true, true, true, true, true, true, true, true, true, true, true, false, false, false, false] rfl rfl (take_ofW HT_.out HW_.out (by kernel_rfl)) (fun _ _ _ h => h) (Or.inl ⟨by rfl, ?_⟩) hHeld ?_ ?_
               rotate_left
               ·rintro w' ⟨s0, s1, s2, s3, s4, s5, s6, s7, s8⟩
                go_simp
                with_reducible rfl
               rotate_left
               ·simp only [Act.put, List.setIfInBounds_toArray, List.set_cons_zero, List.set_cons_succ, i64_w, i32_w]
                rfl
               refine take_ (i := 11) (N := some 65) (v := ?_) (a' := ?_) #[true, true, true, true, true, true, true, true, true, true, true, true, false, false, false] rfl rfl (take_ofW HT_.out HW_.out (by kernel_rfl)) (fun _ _ _ h => h) (Or.inl ⟨by rfl, ?_⟩) hHeld ?_ ?_
               rotate_left
               ·rintro w' ⟨s0, s1, s2, s3, s4, s5, s6, s7, s8⟩
                go_simp
                with_reducible rfl
               rotate_left
               ·simp only [Act.put, List.setIfInBounds_toArray, List.set_cons_zero, List.set_cons_succ, i64_w, i32_w]
                rfl
               refine one_ (i := 12) (N := some 66) #[true, true, true, true, true, true, true, true, true, true, true, true, true, false, false] rfl rfl (one_of HT_.out (by kernel_rfl)) (by decide) (fun K hK => ?_)
               refine goes_ Try.func37 (by kernel_rfl) rfl #[.slice A106_0 ((rd_T49 l0_0 (ji27)).f0).length c106_0, .slice A103_0 ((rd_T49 l0_0 x43_2).f0).length c103_0] (by rfl) rfl rfl (by (try simp only [List.map_toArray, List.map_cons, List.map_nil]); first | done | (simp only [hji27]; rfl) | rfl | (simp only [List.length_drop, List.length_take]; rfl)) ?_
               with_reducible refine (codepoint_Compare.calls _ _ ((rd_T49 l0_0 (ji27)).f0) _ _ ((rd_T49 l0_0 x43_2).f0) t107 _ ?side1 ?side2 ?side3 ?side4 A30.out).mono ?_
               (case side1 => repeat (first | exact (Kd.C_below HR106_0.out HB.out) | (with_reducible refine Kd.C_alloc ?_ _) | (with_reducible refine Kd.C_drewN ?_ _) | (with_reducible refine Kd.C_drew ?_)))
               (case side2 => exact HC106_0.out)
               (case side3 => repeat (first | exact (Kd.C_below HR103_0.out HB.out) | (with_reducible refine Kd.C_alloc ?_ _) | (with_reducible refine Kd.C_drewN ?_ _) | (with_reducible refine Kd.C_drew ?_)))
               (case side4 => exact HC103_0.out)
               rintro e w38 ⟨rfl, hb⟩
               refine ⟨_, rfl, ?_⟩
               have n0_ := Aside0.mk (blk_below (g := gb101) (o := .cells #[.slice (some ad103) l0_0.length c0_0, .slice A0_1 l0_1.length c0_1, .int .i64 a0_2, .int .i64 a0_3, .int .i64 a0_4] 25 (0, 0)) (by (with_reducible repeat (first | refine blk_drewN ?_ _ | refine blk_drew ?_ | refine blk_alloc ?_ _)); exact BK101.out) hb)
               have n1_ := Aside0.mk (blk_below (g := gb104) (o := .cells #[.slice A103_0 ((rd_T49 l0_0 x43_2).f0).length c103_0, .slice A103_1 ((rd_T49 l0_0 x43_2).f1).length c103_1] 49 (0, 0)) (by (with_reducible repeat (first | refine blk_drewN ?_ _ | refine blk_drew ?_ | refine blk_alloc ?_ _)); exact BK104.out) hb)
               have n2_ := Aside0.mk (below_step (by repeat (first | (with_reducible first | exact HB.out | apply below_alloc | apply pw_below_drewN | apply below_drew1 | refine below_set ?_ GE101.out | refine below_set ?_ GE104.out) | exact HB.out)) hb)
               clear BK101
               clear BK104
               clear HB
               have BK101 := n0_
               have BK104 := n1_
               have HB := n2_
               clear n0_ n1_ n2_
               (try clear hb)
               (try clear hb2)
               (try clear hk)
               (try clear hi)
               refine hK.out _ _ ⟨(blk_cell BK101.out 0).trans rfl, (blk_cell BK101.out 1).trans rfl, (blk_cell BK101.out 2).trans rfl, (blk_cell BK101.out 3).trans rfl, (blk_cell BK101.out 4).trans rfl, (blk_cell BK104.out 0).trans rfl, (blk_cell BK104.out 1).trans rfl, ((HB.out.cell (World.block_lt_of_cell? w _ hw106_0)).trans hw106_0), ((HB.out.cell (World.block_lt_of_cell? w _ hw106_1)).trans hw106_1)⟩ (fun hHeld => ?_)
               clear hK K
               refine norm_ (a' := ?_) ?_ ?_
               rotate_left
               ·show Act.put _ (some 66) _ = _
                simp only [Act.put, List.setIfInBounds_toArray, List.set_cons_zero, List.set_cons_succ, i64_w, i32_w]
                rfl
               refine pure_ (i := 13) (N := some 67) (v := ?_) (a' := ?_) #[true, true, true, true, true, true, true, true, true, true, true, true, true, true, false] rfl rfl (any_of HT_.out (by kernel_rfl)) (fun _ _ _ h => h) (Or.inl ⟨by rfl, ?_⟩) ?_ ?_
               rotate_left
               ·intro w'
                go_simp
                with_reducible rfl
               rotate_left
               ·simp only [Act.put, List.setIfInBounds_toArray, List.set_cons_zero, List.set_cons_succ, i64_w, i32_w]
                rfl
               refine pure_ (i := 14) (N := some 68) (v := ?_) (a' := ?_) #[true, true, true, true, true, true, true, true, true, true, true, true, true, true, true] rfl rfl (any_of HT_.out (by kernel_rfl)) (fun _ _ _ h => h) (Or.inl ⟨by rfl, ?_⟩) ?_ ?_
               rotate_left
               ·intro w'
                go_simp
                with_reducible rfl
               rotate_left
               ·simp only [Act.put, List.setIfInBounds_toArray, List.set_cons_zero, List.set_cons_succ, i64_w, i32_w]
                rfl
               refine done_ (done_of HT_.out (by kernel_rfl)) ?_
               try go_wp2
               go_ret
               exact ⟨by first | rfl | (simp [errW_none, errW_some] <;> rfl) | (simp only [← hji27]; first | rfl | (simp [errW_none, errW_some] <;> rfl)) | (simp [*, errW_none, errW_some] <;> rfl), by repeat (first | (with_reducible first | exact HB.out | apply below_alloc | apply pw_below_drewN | apply below_drew1 | refine below_set ?_ GE101.out | refine below_set ?_ GE104.out) | exact HB.out)⟩
              ·rw [if_neg c31] at H
               have c31b0 : decide (0 ≤ t107) = false := decide_eq_false c31
               clear c31
               have H' := Aside0.mk H
               clear H
               have p103 : 0 ≤ (x43_2 : Int) := of_decide_eq_true (by first | (with_reducible assumption) | assumption)
               have q103 : x43_2 < (l0_0.length : Int) := of_decide_eq_true (by first | (with_reducible assumption) | assumption)
               obtain ⟨ad103, A103_0, c103_0, A103_1, c103_1, e103, hx103_0, hx103_1, hl103_0, hi103_0, hl103_1, hi103_1⟩ := at_T49 HR0_0.out x43_2 p103 q103
               cases e103
               replace hx103_0 := (HB.out.cell (World.block_lt_of_cell? w _ hx103_0)).trans hx103_0
               replace hx103_1 := (HB.out.cell (World.block_lt_of_cell? w _ hx103_1)).trans hx103_1
               have HR103_0 := Aside0.mk hi103_0
               have HC103_0 := Aside0.mk hl103_0
               clear hi103_0 hl103_0
               have HR103_1 := Aside0.mk hi103_1
               have HC103_1 := Aside0.mk hl103_1
               clear hi103_1 hl103_1
               replace p103 := eq_true p103
               replace q103 := eq_true q103
               try go_wp2_with (first | ((with_reducible refine gate_dst (N := 5) rfl ?_); refine box_event ?hg (N := 5) ?hd (cs := #[.slice none 0 0, .slice none 0 0]) (t := 49) ?hr ?_; (case hd => rfl); (case hg => rfl); (case hr => first | (go_simp; done) | (go_simp; rfl)); intro gb104 hg w39 hbox hb; have n0_ := Aside0.mk (blk_below (g := gb101) (o := .cells #[.slice (some ad103) l0_0.length c0_0, .slice A0_1 l0_1.length c0_1, .int .i64 a0_2, .int .i64 a0_3, .int .i64 a0_4] 25 (0, 0)) (by (with_reducible repeat (first | refine blk_drewN ?_ _ | refine blk_drew ?_ | refine blk_alloc ?_ _)); exact BK101.out) hb); have n1_ := Aside0.mk (below_step (by repeat (first | (with_reducible first | exact HB.out | apply below_alloc | apply pw_below_drewN | apply below_drew1 | refine below_set ?_ GE101.out) | exact HB.out)) hb); have n2_ := Aside0.mk (hbox); have n3_ := Aside0.mk ((by rw [hg]; exact (below_size (by repeat (first | (with_reducible first | exact HB.out | apply below_alloc | apply pw_below_drewN | apply below_drew1 | refine below_set ?_ GE101.out) | exact HB.out))) : w.heap.size ≤ gb104)); have n4_ := Aside0.mk ((by rw [hg]; exact (below_size (by repeat (first | (with_reducible first | exact HB.out | apply below_alloc | apply pw_below_drewN | apply below_drew1 | refine below_set ?_ GE101.out) | exact HB.out))) : w.heap.size ≤ gb104)); have n5_ := Aside0.mk ((by rw [hg]; exact Nat.ne_of_lt (blk_lt (g := gb101) (o := .cells #[.slice (some ad103) l0_0.length c0_0, .slice A0_1 l0_1.length c0_1, .int .i64 a0_2, .int .i64 a0_3, .int .i64 a0_4] 25 (0, 0)) (by (with_reducible repeat (first | refine blk_drewN ?_ _ | refine blk_drew ?_ | refine blk_alloc ?_ _)); exact BK101.out)) : gb101 ≠ gb104)); have n6_ := Aside0.mk ((by rw [hg]; exact Nat.ne_of_gt (blk_lt (g := gb101) (o := .cells #[.slice (some ad103) l0_0.length c0_0, .slice A0_1 l0_1.length c0_1, .int .i64 a0_2, .int .i64 a0_3, .int .i64 a0_4] 25 (0, 0)) (by (with_reducible repeat (first | refine blk_drewN ?_ _ | refine blk_drew ?_ | refine blk_alloc ?_ _)); exact BK101.out)) : gb104 ≠ gb101)); clear BK101; clear HB; have BK101 := n0_; have HB := n1_; have BK104 := n2_; have GW104 := n3_; have GE104 := n4_; have NB101_104 := n5_; have NB104_101 := n6_; clear n0_ n1_ n2_ n3_ n4_ n5_ n6_; clear hb hbox hg; have hnb40 := NB104_101.out; have hnc40 := NB101_104.out; have hcz41_0 : w39.cell? ⟨gb104, 0, none⟩ = some (.slice none 0 0) := (blk_cell BK104.out 0).trans rfl; have hcz41_1 : w39.cell? ⟨gb104, 1, none⟩ = some (.slice none 0 0) := (blk_cell BK104.out 1).trans rfl; have hfz41_0 := blk_frozen BK104.out 0; have hfz41_1 := blk_frozen BK104.out 1; have hcz42_0 : w39.cell? ⟨gb101, 0, none⟩ = some (.slice (some ad103) l0_0.length c0_0) := (blk_cell BK101.out 0).trans rfl; have hcz42_1 : w39.cell? ⟨gb101, 1, none⟩ = some (.slice A0_1 l0_1.length c0_1) := (blk_cell BK101.out 1).trans rfl; have hcz42_2 : w39.cell? ⟨gb101, 2, none⟩ = some (.int .i64 a0_2) := (blk_cell BK101.out 2).trans rfl; have hcz42_3 : w39.cell? ⟨gb101, 3, none⟩ = some (.int .i64 a0_3) := (blk_cell BK101.out 3).trans rfl; have hcz42_4 : w39.cell? ⟨gb101, 4, none⟩ = some (.int .i64 a0_4) := (blk_cell BK101.out 4).trans rfl; have hfz42_0 := blk_frozen BK101.out 0; have hfz42_1 := blk_frozen BK101.out 1; have hfz42_2 := blk_frozen BK101.out 2; have hfz42_3 := blk_frozen BK101.out 3; have hfz42_4 := blk_frozen BK101.out 4) | ((with_reducible refine gate_callee (f := 36) rfl ?_); refine goesL_ (some 50) rfl rfl Try.func36 (by kernel_rfl) rfl #[.agg #[.slice (some ad103) l0_0.length c0_0, .slice A0_1 l0_1.length c0_1, .int .i64 a0_2, .int .i64 a0_3, .int .i64 a0_4], .agg #[.slice A103_0 ((rd_T49 l0_0 x43_2).f0).length c103_0, .slice A103_1 ((rd_T49 l0_0 x43_2).f1).length c103_1]] rfl (by (try simp only [List.map_toArray, List.map_cons, List.map_nil]); first | done | rfl | (simp only [List.length_drop, List.length_take]; rfl)) ?_; (with_reducible refine (colltable_ofEntry.calls _ _ l0_0 _ _ l0_1 a0_2 a0_3 a0_4 _ _ ((rd_T49 l0_0 x43_2).f0) _ _ ((rd_T49 l0_0 x43_2).f1) t105 _ ?side1 ?side2 ?side3 ?side4 ?side5 ?side6 ?side7 ?side8 A24.out).mono ?_); (case side1 => exact Kd.C_below HR0_0.out (by repeat (first | (with_reducible first | exact HB.out | apply below_alloc | apply pw_below_drewN | apply below_drew1 | refine below_set ?_ GE101.out | refine below_set ?_ GE104.out) | exact HB.out))); (case side2 => exact HC0_0.out); (case side3 => exact Kd.C_below HR0_1.out (by repeat (first | (with_reducible first | exact HB.out | apply below_alloc | apply pw_below_drewN | apply below_drew1 | refine below_set ?_ GE101.out | refine below_set ?_ GE104.out) | exact HB.out))); (case side4 => exact HC0_1.out); (case side5 => exact Kd.C_below HR103_0.out (by repeat (first | (with_reducible first | exact HB.out | apply below_alloc | apply pw_below_drewN | apply below_drew1 | refine below_set ?_ GE101.out | refine below_set ?_ GE104.out) | exact HB.out))); (case side6 => exact HC103_0.out); (case side7 => exact Kd.C_below HR103_1.out (by repeat (first | (with_reducible first | exact HB.out | apply below_alloc | apply pw_below_drewN | apply below_drew1 | refine below_set ?_ GE101.out | refine below_set ?_ GE104.out) | exact HB.out))); (case side8 => exact HC103_1.out); rintro e w43 ⟨rfl, hb⟩; refine ⟨_, rfl, ?_⟩; have n0_ := Aside0.mk (blk_below (g := gb101) (o := .cells #[.slice (some ad103) l0_0.length c0_0, .slice A0_1 l0_1.length c0_1, .int .i64 a0_2, .int .i64 a0_3, .int .i64 a0_4] 25 (0, 0)) (by (with_reducible repeat (first | refine blk_drewN ?_ _ | refine blk_drew ?_ | refine blk_alloc ?_ _)); refine blk_far ?_ NB101_104.out _; (with_reducible repeat (first | refine blk_drewN ?_ _ | refine blk_drew ?_ | refine blk_alloc ?_ _)); refine blk_far ?_ NB101_104.out _; (with_reducible repeat (first | refine blk_drewN ?_ _ | refine blk_drew ?_ | refine blk_alloc ?_ _)); exact BK101.out) hb); have n1_ := Aside0.mk (blk_below (g := gb104) (o := .cells #[.slice A103_0 ((rd_T49 l0_0 x43_2).f0).length c103_0, .slice A103_1 ((rd_T49 l0_0 x43_2).f1).length c103_1] 49 (0, 0)) (by (with_reducible repeat (first | refine blk_drewN ?_ _ | refine blk_drew ?_ | refine blk_alloc ?_ _)); refine blk_put (cs := #[.slice A103_0 ((rd_T49 l0_0 x43_2).f0).length c103_0, .slice none 0 0]) ?_ 1 _ rfl; (with_reducible repeat (first | refine blk_drewN ?_ _ | refine blk_drew ?_ | refine blk_alloc ?_ _)); refine blk_put (cs := #[.slice none 0 0, .slice none 0 0]) ?_ 0 _ rfl; (with_reducible repeat (first | refine blk_drewN ?_ _ | refine blk_drew ?_ | refine blk_alloc ?_ _)); exact BK104.out) hb); have n2_ := Aside0.mk (below_step (by repeat (first | (with_reducible first | exact HB.out | apply below_alloc | apply pw_below_drewN | apply below_drew1 | refine below_set ?_ GE101.out | refine below_set ?_ GE104.out) | exact HB.out)) hb); clear BK101; clear BK104; clear HB; have BK101 := n0_; have BK104 := n1_; have HB := n2_; clear n0_ n1_ n2_; (try clear hb); (try clear hb2); (try clear hk); (try clear hi)))
               have n0_ := Aside0.mk (blk_drew BK101.out)
               have n1_ := Aside0.mk (blk_drew BK104.out)
               have n2_ := Aside0.mk (below_drew1 HB.out)
               clear BK101
               clear BK104
               clear HB
               have BK101 := n0_
               have BK104 := n1_
               have HB := n2_
               clear n0_ n1_ n2_
               have p106 : 0 ≤ ((ji27) : Int) := of_decide_eq_true (by first | (with_reducible assumption) | assumption)
               have q106 : (ji27) < (l0_0.length : Int) := of_decide_eq_true (by first | (with_reducible assumption) | assumption)
               obtain ⟨ad106, A106_0, c106_0, A106_1, c106_1, e106, hx106_0, hx106_1, hl106_0, hi106_0, hl106_1, hi106_1⟩ := at_T49 HR0_0.out (ji27) p106 q106
               have hw106_1 := hx106_1
               have hw106_0 := hx106_0
               obtain rfl : ad103 = ad106 := (by injection e106)
               replace hx106_0 := (HB.out.cell (World.block_lt_of_cell? w _ hx106_0)).trans hx106_0
               replace hx106_1 := (HB.out.cell (World.block_lt_of_cell? w _ hx106_1)).trans hx106_1
               have HR106_0 := Aside0.mk hi106_0
               have HC106_0 := Aside0.mk hl106_0
               clear hi106_0 hl106_0
               have HR106_1 := Aside0.mk hi106_1
               have HC106_1 := Aside0.mk hl106_1
               clear hi106_1 hl106_1
               replace p106 := eq_true p106
               replace q106 := eq_true q106
               refine start_ (n := 15) (S := fun w' => w'.cell? ⟨gb101, 0, none⟩ = some (.slice (some ad103) l0_0.length c0_0) ∧ w'.cell? ⟨gb101, 1, none⟩ = some (.slice A0_1 l0_1.length c0_1) ∧ w'.cell? ⟨gb101, 2, none⟩ = some (.int .i64 a0_2) ∧ w'.cell? ⟨gb101, 3, none⟩ = some (.int .i64 a0_3) ∧ w'.cell? ⟨gb101, 4, none⟩ = some (.int .i64 a0_4) ∧ w'.cell? ⟨gb104, 0, none⟩ = some (.slice A103_0 ((rd_T49 l0_0 x43_2).f0).length c103_0) ∧ w'.cell? ⟨gb104, 1, none⟩ = some (.slice A103_1 ((rd_T49 l0_0 x43_2).f1).length c103_1) ∧ w'.cell? (ad103.add (((ji27)).toNat * 2)) = some (.slice A106_0 ((rd_T49 l0_0 (ji27)).f0).length c106_0) ∧ w'.cell? ⟨(ad103.add (((ji27)).toNat * 2)).block, (ad103.add (((ji27)).toNat * 2)).off + 1, none⟩ = some (.slice A106_1 ((rd_T49 l0_0 (ji27)).f1).length c106_1)) (ds := []) #[false, false, false, false, false, false, false, false, false, false, false, false, false, false, false] (by kernel_rfl) rfl rfl ⟨(blk_cell BK101.out 0).trans rfl, (blk_cell BK101.out 1).trans rfl, (blk_cell BK101.out 2).trans rfl, (blk_cell BK101.out 3).trans rfl, (blk_cell BK101.out 4).trans rfl, (blk_cell BK104.out 0).trans rfl, (blk_cell BK104.out 1).trans rfl, ((HB.out.cell (World.block_lt_of_cell? w _ hw106_0)).trans hw106_0), ((HB.out.cell (World.block_lt_of_cell? w _ hw106_1)).trans hw106_1)⟩ (fun hHeld => ?_); refine with_tabW colltable_Check.tab12 colltable_Check.bits12 (fun HT_ HW_ => ?_)
               generalize w43.drew = w44 at BK101 BK104 HB HR106_0 HR106_1 hx106_0 hx106_1 hHeld ⊢
               refine pure_ (i := 0) (N := some 54) (v := ?_) (a' := ?_) #[true, false, false, false, false, false, false, false, false, false, false, false, false, false, false] rfl rfl (any_of HT_.out (by kernel_rfl)) (fun _ _ _ h => h) (Or.inl ⟨by rfl, ?_⟩) ?_ ?_
               rotate_left
               ·intro w'
                go_simp
                with_reducible rfl
               rotate_left
               ·simp only [Act.put, List.setIfInBounds_toArray, List.set_cons_zero, List.set_cons_succ, i64_w, i32_w]
                rfl
               refine pure_ (i := 1) (N := some 55) (v := ?_) (a' := ?_) #[true, true, false, false, false, false, false, false, false, false, false, false, false, false, false] rfl rfl (any_of HT_.out (by kernel_rfl)) (fun _ _ _ h => h) (Or.inl ⟨by rfl, ?_⟩) ?_ ?_
               rotate_left
               ·intro w'
                go_simp
                with_reducible rfl
               rotate_left
               ·simp only [Act.put, List.setIfInBounds_toArray, List.set_cons_zero, List.set_cons_succ, i64_w, i32_w]
                rfl
               refine pure_ (i := 2) (N := some 56) (v := ?_) (a' := ?_) #[true, true, true, false, false, false, false, false, false, false, false, false, false, false, false] rfl rfl (any_of HT_.out (by kernel_rfl)) (fun _ _ _ h => h) (Or.inl ⟨by rfl, ?_⟩) ?_ ?_
               rotate_left
               ·intro w'
                go_simp
                with_reducible rfl
               rotate_left
               ·simp only [Act.put, List.setIfInBounds_toArray, List.set_cons_zero, List.set_cons_succ, i64_w, i32_w]
                rfl
               refine pure_ (i := 3) (N := some 57) (v := ?_) (a' := ?_) #[true, true, true, true, false, false, false, false, false, false, false, false, false, false, false] rfl rfl (any_of HT_.out (by kernel_rfl)) (fun _ _ _ h => h) (Or.inl ⟨by rfl, ?_⟩) ?_ ?_
               rotate_left
               ·intro w'
                go_simp
                with_reducible rfl
               rotate_left
               ·simp only [Act.put, List.setIfInBounds_toArray, List.set_cons_zero, List.set_cons_succ, i64_w, i32_w]
                rfl
               refine pure_ (i := 5) (N := some 59) (v := ?_) (a' := ?_) #[true, true, true, true, false, true, false, false, false, false, false, false, false, false, false] rfl rfl (any_of HT_.out (by kernel_rfl)) (fun _ _ _ h => h) (Or.inl ⟨by rfl, ?_⟩) ?_ ?_
               rotate_left
               ·intro w'
                go_simp
                with_reducible rfl
               rotate_left
               ·simp only [Act.put, List.setIfInBounds_toArray, List.set_cons_zero, List.set_cons_succ, i64_w, i32_w]
                rfl
               refine pure_ (i := 6) (N := some 60) (v := ?_) (a' := ?_) #[true, true, true, true, false, true, true, false, false, false, false, false, false, false, false] rfl rfl (any_of HT_.out (by kernel_rfl)) (fun _ _ _ h => h) (Or.inl ⟨by rfl, ?_⟩) ?_ ?_
               rotate_left
               ·intro w'
                go_simp
                with_reducible rfl
               rotate_left
               ·simp only [Act.put, List.setIfInBounds_toArray, List.set_cons_zero, List.set_cons_succ, i64_w, i32_w]
                rfl
               refine pure_ (i := 10) (N := some 64) (v := ?_) (a' := ?_) #[true, true, true, true, false, true, true, false, false, false, true, false, false, false, false] rfl rfl (any_of HT_.out (by kernel_rfl)) (fun _ _ _ h => h) (Or.inl ⟨by rfl, ?_⟩) ?_ ?_
               rotate_left
               ·intro w'
                go_simp
                with_reducible rfl
               rotate_left
               ·simp only [Act.put, List.setIfInBounds_toArray, List.set_cons_zero, List.set_cons_succ, i64_w, i32_w]
                rfl
               refine take_ (i := 4) (N := some 58) (v := ?_) (a' := ?_) #[true, true, true, true, true, true, true, false, false, false, true, false, false, false, false] rfl rfl (take_ofW HT_.out HW_.out (by kernel_rfl)) (fun _ _ _ h => h) (Or.inl ⟨by rfl, ?_⟩) hHeld ?_ ?_
               rotate_left
               ·rintro w' ⟨s0, s1, s2, s3, s4, s5, s6, s7, s8⟩
                go_simp
                with_reducible rfl
               rotate_left
               ·simp only [Act.put, List.setIfInBounds_toArray, List.set_cons_zero, List.set_cons_succ, i64_w, i32_w]
                rfl
               refine pure_ (i := 7) (N := some 61) (v := ?_) (a' := ?_) #[true, true, true, true, true, true, true, true, false, false, true, false, false, false, false] rfl rfl (any_of HT_.out (by kernel_rfl)) (fun _ _ _ h => h) (Or.inl ⟨by rfl, ?_⟩) ?_ ?_
               rotate_left
               ·intro w'
                go_simp
                with_reducible rfl
               rotate_left
               ·simp only [Act.put, List.setIfInBounds_toArray, List.set_cons_zero, List.set_cons_succ, i64_w, i32_w]
                rfl
               refine pure_ (i := 8) (N := some 62) (v := ?_) (a' := ?_) #[true, true, true, true, true, true, true, true, true, false, true, false, false, false, false] rfl rfl (any_of HT_.out (by kernel_rfl)) (fun _ _ _ h => h) (Or.inl ⟨by rfl, ?_⟩) ?_ ?_
               rotate_left
               ·intro w'
                go_simp
                with_reducible rfl
               rotate_left
               ·simp only [Act.put, List.setIfInBounds_toArray, List.set_cons_zero, List.set_cons_succ, i64_w, i32_w]
                rfl
               refine take_ (i := 9) (N := some 63) (v := ?_) (a' := ?_) #[true, true, true, true, true, true, true, true, true, true, true, false, false, false, false] rfl rfl (take_ofW HT_.out HW_.out (by kernel_rfl)) (fun _ _ _ h => h) (Or.inl ⟨by rfl, ?_⟩) hHeld ?_ ?_
               rotate_left
               ·rintro w' ⟨s0, s1, s2, s3, s4, s5, s6, s7, s8⟩
                go_simp
                with_reducible rfl
               rotate_left
               ·simp only [Act.put, List.setIfInBounds_toArray, List.set_cons_zero, List.set_cons_succ, i64_w, i32_w]
                rfl
               refine take_ (i := 11) (N := some 65) (v := ?_) (a' := ?_) #[true, true, true, true, true, true, true, true, true, true, true, true, false, false, false] rfl rfl (take_ofW HT_.out HW_.out (by kernel_rfl)) (fun _ _ _ h => h) (Or.inl ⟨by rfl, ?_⟩) hHeld ?_ ?_
               rotate_left
               ·rintro w' ⟨s0, s1, s2, s3, s4, s5, s6, s7, s8⟩
                go_simp
                with_reducible rfl
               rotate_left
               ·simp only [Act.put, List.setIfInBounds_toArray, List.set_cons_zero, List.set_cons_succ, i64_w, i32_w]
                rfl
               refine one_ (i := 12) (N := some 66) #[true, true, true, true, true, true, true, true, true, true, true, true, true, false, false] rfl rfl (one_of HT_.out (by kernel_rfl)) (by decide) (fun K hK => ?_)
               refine goes_ Try.func37 (by kernel_rfl) rfl #[.slice A106_0 ((rd_T49 l0_0 (ji27)).f0).length c106_0, .slice A103_0 ((rd_T49 l0_0 x43_2).f0).length c103_0] (by rfl) rfl rfl (by (try simp only [List.map_toArray, List.map_cons, List.map_nil]); first | done | (simp only [hji27]; rfl) | rfl | (simp only [List.length_drop, List.length_take]; rfl)) ?_
               with_reducible refine (codepoint_Compare.calls _ _ ((rd_T49 l0_0 (ji27)).f0) _ _ ((rd_T49 l0_0 x43_2).f0) t107 _ ?side1 ?side2 ?side3 ?side4 A30.out).mono ?_
               (case side1 => repeat (first | exact (Kd.C_below HR106_0.out HB.out) | (with_reducible refine Kd.C_alloc ?_ _) | (with_reducible refine Kd.C_drewN ?_ _) | (with_reducible refine Kd.C_drew ?_)))
               (case side2 => exact HC106_0.out)
               (case side3 => repeat (first | exact (Kd.C_below HR103_0.out HB.out) | (with_reducible refine Kd.C_alloc ?_ _) | (with_reducible refine Kd.C_drewN ?_ _) | (with_reducible refine Kd.C_drew ?_)))
               (case side4 => exact HC103_0.out)
               rintro e w45 ⟨rfl, hb⟩
               refine ⟨_, rfl, ?_⟩
               have n0_ := Aside0.mk (blk_below (g := gb101) (o := .cells #[.slice (some ad103) l0_0.length c0_0, .slice A0_1 l0_1.length c0_1, .int .i64 a0_2, .int .i64 a0_3, .int .i64 a0_4] 25 (0, 0)) (by (with_reducible repeat (first | refine blk_drewN ?_ _ | refine blk_drew ?_ | refine blk_alloc ?_ _)); exact BK101.out) hb)
               have n1_ := Aside0.mk (blk_below (g := gb104) (o := .cells #[.slice A103_0 ((rd_T49 l0_0 x43_2).f0).length c103_0, .slice A103_1 ((rd_T49 l0_0 x43_2).f1).length c103_1] 49 (0, 0)) (by (with_reducible repeat (first | refine blk_drewN ?_ _ | refine blk_drew ?_ | refine blk_alloc ?_ _)); exact BK104.out) hb)
               have n2_ := Aside0.mk (below_step (by repeat (first | (with_reducible first | exact HB.out | apply below_alloc | apply pw_below_drewN | apply below_drew1 | refine below_set ?_ GE101.out | refine below_set ?_ GE104.out) | exact HB.out)) hb)
               clear BK101
               clear BK104
               clear HB
               have BK101 := n0_
               have BK104 := n1_
               have HB := n2_
               clear n0_ n1_ n2_
               (try clear hb)
               (try clear hb2)
               (try clear hk)
               (try clear hi)
               refine hK.out _ _ ⟨(blk_cell BK101.out 0).trans rfl, (blk_cell BK101.out 1).trans rfl, (blk_cell BK101.out 2).trans rfl, (blk_cell BK101.out 3).trans rfl, (blk_cell BK101.out 4).trans rfl, (blk_cell BK104.out 0).trans rfl, (blk_cell BK104.out 1).trans rfl, ((HB.out.cell (World.block_lt_of_cell? w _ hw106_0)).trans hw106_0), ((HB.out.cell (World.block_lt_of_cell? w _ hw106_1)).trans hw106_1)⟩ (fun hHeld => ?_)
               clear hK K
               refine norm_ (a' := ?_) ?_ ?_
               rotate_left
               ·show Act.put _ (some 66) _ = _
                simp only [Act.put, List.setIfInBounds_toArray, List.set_cons_zero, List.set_cons_succ, i64_w, i32_w]
                rfl
               refine pure_ (i := 13) (N := some 67) (v := ?_) (a' := ?_) #[true, true, true, true, true, true, true, true, true, true, true, true, true, true, false] rfl rfl (any_of HT_.out (by kernel_rfl)) (fun _ _ _ h => h) (Or.inl ⟨by rfl, ?_⟩) ?_ ?_
               rotate_left
               ·intro w'
                go_simp
                with_reducible rfl
               rotate_left
               ·simp only [Act.put, List.setIfInBounds_toArray, List.set_cons_zero, List.set_cons_succ, i64_w, i32_w]
                rfl
               refine pure_ (i := 14) (N := some 68) (v := ?_) (a' := ?_) #[true, true, true, true, true, true, true, true, true, true, true, true, true, true, true] rfl rfl (any_of HT_.out (by kernel_rfl)) (fun _ _ _ h => h) (Or.inl ⟨by rfl, ?_⟩) ?_ ?_
               rotate_left
               ·intro w'
                go_simp
                with_reducible rfl
               rotate_left
               ·simp only [Act.put, List.setIfInBounds_toArray, List.set_cons_zero, List.set_cons_succ, i64_w, i32_w]
                rfl
               refine done_ (done_of HT_.out (by kernel_rfl)) ?_
               try go_wp2
               go_roundg k2
               case measure => have := HJ1.out; have := HK2.out; omega
               case rel => exact ⟨(wrap64 (x43_2 + 1)), (by first | rfl | (simp; done) | (simp [*]; done)), H', ⟨by have := HJ1.out; have := HK2.out; omega⟩, ⟨by (with_reducible repeat (first | refine blk_drewN ?_ _ | refine blk_drew ?_ | refine blk_alloc ?_ _)); exact BK101.out⟩, ⟨by repeat (first | (with_reducible first | exact HB.out | apply below_alloc | apply pw_below_drewN | apply below_drew1 | refine below_set ?_ GE101.out | refine below_set ?_ GE104.out) | exact HB.out)⟩⟩
             ·rw [if_neg c29] at H
              exact absurd H (by simp)
            ·rw [if_neg c28] at H
             exact absurd H (by simp)
           ·rw [if_neg c26] at H
            have c26b0 : decide (0 < x43_2) = false := decide_eq_false c26
            clear c26
            have H' := Aside0.mk H
            clear H
            have p103 : 0 ≤ (x43_2 : Int) := of_decide_eq_true (by first | (with_reducible assumption) | assumption)
            have q103 : x43_2 < (l0_0.length : Int) := of_decide_eq_true (by first | (with_reducible assumption) | assumption)
            obtain ⟨ad103, A103_0, c103_0, A103_1, c103_1, e103, hx103_0, hx103_1, hl103_0, hi103_0, hl103_1, hi103_1⟩ := at_T49 HR0_0.out x43_2 p103 q103
            cases e103
            replace hx103_0 := (HB.out.cell (World.block_lt_of_cell? w _ hx103_0)).trans hx103_0
            replace hx103_1 := (HB.out.cell (World.block_lt_of_cell? w _ hx103_1)).trans hx103_1
            have HR103_0 := Aside0.mk hi103_0
            have HC103_0 := Aside0.mk hl103_0
            clear hi103_0 hl103_0
            have HR103_1 := Aside0.mk hi103_1
            have HC103_1 := Aside0.mk hl103_1
            clear hi103_1 hl103_1
            replace p103 := eq_true p103
            replace q103 := eq_true q103
            try go_wp2_with (first | ((with_reducible refine gate_dst (N := 5) rfl ?_); refine box_event ?hg (N := 5) ?hd (cs := #[.slice none 0 0, .slice none 0 0]) (t := 49) ?hr ?_; (case hd => rfl); (case hg => rfl); (case hr => first | (go_simp; done) | (go_simp; rfl)); intro gb104 hg w46 hbox hb; have n0_ := Aside0.mk (blk_below (g := gb101) (o := .cells #[.slice (some ad103) l0_0.length c0_0, .slice A0_1 l0_1.length c0_1, .int .i64 a0_2, .int .i64 a0_3, .int .i64 a0_4] 25 (0, 0)) (by (with_reducible repeat (first | refine blk_drewN ?_ _ | refine blk_drew ?_ | refine blk_alloc ?_ _)); exact BK101.out) hb); have n1_ := Aside0.mk (below_step (by repeat (first | (with_reducible first | exact HB.out | apply below_alloc | apply pw_below_drewN | apply below_drew1 | refine below_set ?_ GE101.out) | exact HB.out)) hb); have n2_ := Aside0.mk (hbox); have n3_ := Aside0.mk ((by rw [hg]; exact (below_size (by repeat (first | (with_reducible first | exact HB.out | apply below_alloc | apply pw_below_drewN | apply below_drew1 | refine below_set ?_ GE101.out) | exact HB.out))) : w.heap.size ≤ gb104)); have n4_ := Aside0.mk ((by rw [hg]; exact (below_size (by repeat (first | (with_reducible first | exact HB.out | apply below_alloc | apply pw_below_drewN | apply below_drew1 | refine below_set ?_ GE101.out) | exact HB.out))) : w.heap.size ≤ gb104)); have n5_ := Aside0.mk ((by rw [hg]; exact Nat.ne_of_lt (blk_lt (g := gb101) (o := .cells #[.slice (some ad103) l0_0.length c0_0, .slice A0_1 l0_1.length c0_1, .int .i64 a0_2, .int .i64 a0_3, .int .i64 a0_4] 25 (0, 0)) (by (with_reducible repeat (first | refine blk_drewN ?_ _ | refine blk_drew ?_ | refine blk_alloc ?_ _)); exact BK101.out)) : gb101 ≠ gb104)); have n6_ := Aside0.mk ((by rw [hg]; exact Nat.ne_of_gt (blk_lt (g := gb101) (o := .cells #[.slice (some ad103) l0_0.length c0_0, .slice A0_1 l0_1.length c0_1, .int .i64 a0_2, .int .i64 a0_3, .int .i64 a0_4] 25 (0, 0)) (by (with_reducible repeat (first | refine blk_drewN ?_ _ | refine blk_drew ?_ | refine blk_alloc ?_ _)); exact BK101.out)) : gb104 ≠ gb101)); clear BK101; clear HB; have BK101 := n0_; have HB := n1_; have BK104 := n2_; have GW104 := n3_; have GE104 := n4_; have NB101_104 := n5_; have NB104_101 := n6_; clear n0_ n1_ n2_ n3_ n4_ n5_ n6_; clear hb hbox hg; have hnb47 := NB104_101.out; have hnc47 := NB101_104.out; have hcz48_0 : w46.cell? ⟨gb104, 0, none⟩ = some (.slice none 0 0) := (blk_cell BK104.out 0).trans rfl; have hcz48_1 : w46.cell? ⟨gb104, 1, none⟩ = some (.slice none 0 0) := (blk_cell BK104.out 1).trans rfl; have hfz48_0 := blk_frozen BK104.out 0; have hfz48_1 := blk_frozen BK104.out 1; have hcz49_0 : w46.cell? ⟨gb101, 0, none⟩ = some (.slice (some ad103) l0_0.length c0_0) := (blk_cell BK101.out 0).trans rfl; have hcz49_1 : w46.cell? ⟨gb101, 1, none⟩ = some (.slice A0_1 l0_1.length c0_1) := (blk_cell BK101.out 1).trans rfl; have hcz49_2 : w46.cell? ⟨gb101, 2, none⟩ = some (.int .i64 a0_2) := (blk_cell BK101.out 2).trans rfl; have hcz49_3 : w46.cell? ⟨gb101, 3, none⟩ = some (.int .i64 a0_3) := (blk_cell BK101.out 3).trans rfl; have hcz49_4 : w46.cell? ⟨gb101, 4, none⟩ = some (.int .i64 a0_4) := (blk_cell BK101.out 4).trans rfl; have hfz49_0 := blk_frozen BK101.out 0; have hfz49_1 := blk_frozen BK101.out 1; have hfz49_2 := blk_frozen BK101.out 2; have hfz49_3 := blk_frozen BK101.out 3; have hfz49_4 := blk_frozen BK101.out 4) | ((with_reducible refine gate_callee (f := 36) rfl ?_); refine goesL_ (some 50) rfl rfl Try.func36 (by kernel_rfl) rfl #[.agg #[.slice (some ad103) l0_0.length c0_0, .slice A0_1 l0_1.length c0_1, .int .i64 a0_2, .int .i64 a0_3, .int .i64 a0_4], .agg #[.slice A103_0 ((rd_T49 l0_0 x43_2).f0).length c103_0, .slice A103_1 ((rd_T49 l0_0 x43_2).f1).length c103_1]] rfl (by (try simp only [List.map_toArray, List.map_cons, List.map_nil]); first | done | rfl | (simp only [List.length_drop, List.length_take]; rfl)) ?_; (with_reducible refine (colltable_ofEntry.calls _ _ l0_0 _ _ l0_1 a0_2 a0_3 a0_4 _ _ ((rd_T49 l0_0 x43_2).f0) _ _ ((rd_T49 l0_0 x43_2).f1) t105 _ ?side1 ?side2 ?side3 ?side4 ?side5 ?side6 ?side7 ?side8 A24.out).mono ?_); (case side1 => exact Kd.C_below HR0_0.out (by repeat (first | (with_reducible first | exact HB.out | apply below_alloc | apply pw_below_drewN | apply below_drew1 | refine below_set ?_ GE101.out | refine below_set ?_ GE104.out) | exact HB.out))); (case side2 => exact HC0_0.out); (case side3 => exact Kd.C_below HR0_1.out (by repeat (first | (with_reducible first | exact HB.out | apply below_alloc | apply pw_below_drewN | apply below_drew1 | refine below_set ?_ GE101.out | refine below_set ?_ GE104.out) | exact HB.out))); (case side4 => exact HC0_1.out); (case side5 => exact Kd.C_below HR103_0.out (by repeat (first | (with_reducible first | exact HB.out | apply below_alloc | apply pw_below_drewN | apply below_drew1 | refine below_set ?_ GE101.out | refine below_set ?_ GE104.out) | exact HB.out))); (case side6 => exact HC103_0.out); (case side7 => exact Kd.C_below HR103_1.out (by repeat (first | (with_reducible first | exact HB.out | apply below_alloc | apply pw_below_drewN | apply below_drew1 | refine below_set ?_ GE101.out | refine below_set ?_ GE104.out) | exact HB.out))); (case side8 => exact HC103_1.out); rintro e w50 ⟨rfl, hb⟩; refine ⟨_, rfl, ?_⟩; have n0_ := Aside0.mk (blk_below (g := gb101) (o := .cells #[.slice (some ad103) l0_0.length c0_0, .slice A0_1 l0_1.length c0_1, .int .i64 a0_2, .int .i64 a0_3, .int .i64 a0_4] 25 (0, 0)) (by (with_reducible repeat (first | refine blk_drewN ?_ _ | refine blk_drew ?_ | refine blk_alloc ?_ _)); refine blk_far ?_ NB101_104.out _; (with_reducible repeat (first | refine blk_drewN ?_ _ | refine blk_drew ?_ | refine blk_alloc ?_ _)); refine blk_far ?_ NB101_104.out _; (with_reducible repeat (first | refine blk_drewN ?_ _ | refine blk_drew ?_ | refine blk_alloc ?_ _)); exact BK101.out) hb); have n1_ := Aside0.mk (blk_below (g := gb104) (o := .cells #[.slice A103_0 ((rd_T49 l0_0 x43_2).f0).length c103_0, .slice A103_1 ((rd_T49 l0_0 x43_2).f1).length c103_1] 49 (0, 0)) (by (with_reducible repeat (first | refine blk_drewN ?_ _ | refine blk_drew ?_ | refine blk_alloc ?_ _)); refine blk_put (cs := #[.slice A103_0 ((rd_T49 l0_0 x43_2).f0).length c103_0, .slice none 0 0]) ?_ 1 _ rfl; (with_reducible repeat (first | refine blk_drewN ?_ _ | refine blk_drew ?_ | refine blk_alloc ?_ _)); refine blk_put (cs := #[.slice none 0 0, .slice none 0 0]) ?_ 0 _ rfl; (with_reducible repeat (first | refine blk_drewN ?_ _ | refine blk_drew ?_ | refine blk_alloc ?_ _)); exact BK104.out) hb); have n2_ := Aside0.mk (below_step (by repeat (first | (with_reducible first | exact HB.out | apply below_alloc | apply pw_below_drewN | apply below_drew1 | refine below_set ?_ GE101.out | refine below_set ?_ GE104.out) | exact HB.out)) hb); clear BK101; clear BK104; clear HB; have BK101 := n0_; have BK104 := n1_; have HB := n2_; clear n0_ n1_ n2_; (try clear hb); (try clear hb2); (try clear hk); (try clear hi)))
            have n0_ := Aside0.mk (blk_drew BK101.out)
            have n1_ := Aside0.mk (blk_drew BK104.out)
            have n2_ := Aside0.mk (below_drew1 HB.out)
            clear BK101
            clear BK104
            clear HB
            have BK101 := n0_
            have BK104 := n1_
            have HB := n2_
            clear n0_ n1_ n2_
            refine start_ (n := 15) (S := fun w' => True) (ds := []) #[false, false, false, false, false, false, false, false, false, false, false, false, false, false, false] (by kernel_rfl) rfl rfl trivial (fun hHeld => ?_); refine with_tabW colltable_Check.tab12 colltable_Check.bits12 (fun HT_ HW_ => ?_)
            generalize w50.drew = w51 at BK101 BK104 HB hHeld ⊢
            refine pure_ (i := 0) (N := some 54) (v := ?_) (a' := ?_) #[true, false, false, false, false, false, false, false, false, false, false, false, false, false, false] rfl rfl (any_of HT_.out (by kernel_rfl)) (fun _ _ _ h => h) (Or.inl ⟨by rfl, ?_⟩) ?_ ?_
            rotate_left
            ·intro w'
             go_simp
             with_reducible rfl
            rotate_left
            ·simp only [Act.put, List.setIfInBounds_toArray, List.set_cons_zero, List.set_cons_succ, i64_w, i32_w]
             rfl
            refine pure_ (i := 1) (N := some 55) (v := ?_) (a' := ?_) #[true, true, false, false, false, false, false, false, false, false, false, false, false, false, false] rfl rfl (any_of HT_.out (by kernel_rfl)) (fun _ _ _ h => h) (Or.inl ⟨by rfl, ?_⟩) ?_ ?_
            rotate_left
            ·intro w'
             go_simp
             with_reducible rfl
            rotate_left
            ·simp only [Act.put, List.setIfInBounds_toArray, List.set_cons_zero, List.set_cons_succ, i64_w, i32_w]
             rfl
            refine pure_ (i := 2) (N := some 56) (v := ?_) (a' := ?_) #[true, true, true, false, false, false, false, false, false, false, false, false, false, false, false] rfl rfl (any_of HT_.out (by kernel_rfl)) (fun _ _ _ h => h) (Or.inl ⟨by rfl, ?_⟩) ?_ ?_
            rotate_left
            ·intro w'
             go_simp
             with_reducible rfl
            rotate_left
            ·simp only [Act.put, List.setIfInBounds_toArray, List.set_cons_zero, List.set_cons_succ, i64_w, i32_w]
             rfl
            refine pure_ (i := 3) (N := some 57) (v := undef) (a' := ?_) #[true, true, true, true, false, false, false, false, false, false, false, false, false, false, false] rfl rfl (any_of HT_.out (by kernel_rfl)) (fun _ _ _ h => h) (Or.inr ⟨by rfl, rfl⟩) ?_ ?_
            rotate_left
            ·simp only [Act.put, List.setIfInBounds_toArray, List.set_cons_zero, List.set_cons_succ, i64_w, i32_w]
             rfl
            refine pure_ (i := 4) (N := some 58) (v := undef) (a' := ?_) #[true, true, true, true, true, false, false, false, false, false, false, false, false, false, false] rfl rfl (any_of HT_.out (by kernel_rfl)) (fun _ _ _ h => h) (Or.inr ⟨by rfl, rfl⟩) ?_ ?_
            rotate_left
            ·simp only [Act.put, List.setIfInBounds_toArray, List.set_cons_zero, List.set_cons_succ, i64_w, i32_w]
             rfl
            refine pure_ (i := 5) (N := some 59) (v := undef) (a' := ?_) #[true, true, true, true, true, true, false, false, false, false, false, false, false, false, false] rfl rfl (any_of HT_.out (by kernel_rfl)) (fun _ _ _ h => h) (Or.inr ⟨by rfl, rfl⟩) ?_ ?_
            rotate_left
            ·simp only [Act.put, List.setIfInBounds_toArray, List.set_cons_zero, List.set_cons_succ, i64_w, i32_w]
             rfl
            refine pure_ (i := 6) (N := some 60) (v := undef) (a' := ?_) #[true, true, true, true, true, true, true, false, false, false, false, false, false, false, false] rfl rfl (any_of HT_.out (by kernel_rfl)) (fun _ _ _ h => h) (Or.inr ⟨by rfl, rfl⟩) ?_ ?_
            rotate_left
            ·simp only [Act.put, List.setIfInBounds_toArray, List.set_cons_zero, List.set_cons_succ, i64_w, i32_w]
             rfl
            refine pure_ (i := 7) (N := some 61) (v := undef) (a' := ?_) #[true, true, true, true, true, true, true, true, false, false, false, false, false, false, false] rfl rfl (any_of HT_.out (by kernel_rfl)) (fun _ _ _ h => h) (Or.inr ⟨by rfl, rfl⟩) ?_ ?_
            rotate_left
            ·simp only [Act.put, List.setIfInBounds_toArray, List.set_cons_zero, List.set_cons_succ, i64_w, i32_w]
             rfl
            refine pure_ (i := 8) (N := some 62) (v := undef) (a' := ?_) #[true, true, true, true, true, true, true, true, true, false, false, false, false, false, false] rfl rfl (any_of HT_.out (by kernel_rfl)) (fun _ _ _ h => h) (Or.inr ⟨by rfl, rfl⟩) ?_ ?_
            rotate_left
            ·simp only [Act.put, List.setIfInBounds_toArray, List.set_cons_zero, List.set_cons_succ, i64_w, i32_w]
             rfl
            refine pure_ (i := 9) (N := some 63) (v := undef) (a' := ?_) #[true, true, true, true, true, true, true, true, true, true, false, false, false, false, false] rfl rfl (any_of HT_.out (by kernel_rfl)) (fun _ _ _ h => h) (Or.inr ⟨by rfl, rfl⟩) ?_ ?_
            rotate_left
            ·simp only [Act.put, List.setIfInBounds_toArray, List.set_cons_zero, List.set_cons_succ, i64_w, i32_w]
             rfl
            refine pure_ (i := 10) (N := some 64) (v := undef) (a' := ?_) #[true, true, true, true, true, true, true, true, true, true, true, false, false, false, false] rfl rfl (any_of HT_.out (by kernel_rfl)) (fun _ _ _ h => h) (Or.inr ⟨by rfl, rfl⟩) ?_ ?_
            rotate_left
            ·simp only [Act.put, List.setIfInBounds_toArray, List.set_cons_zero, List.set_cons_succ, i64_w, i32_w]
             rfl
            refine pure_ (i := 11) (N := some 65) (v := undef) (a' := ?_) #[true, true, true, true, true, true, true, true, true, true, true, true, false, false, false] rfl rfl (any_of HT_.out (by kernel_rfl)) (fun _ _ _ h => h) (Or.inr ⟨by rfl, rfl⟩) ?_ ?_
            rotate_left
            ·simp only [Act.put, List.setIfInBounds_toArray, List.set_cons_zero, List.set_cons_succ, i64_w, i32_w]
             rfl
            refine pure_ (i := 12) (N := some 66) (v := undef) (a' := ?_) #[true, true, true, true, true, true, true, true, true, true, true, true, true, false, false] rfl rfl (any_of HT_.out (by kernel_rfl)) (fun _ _ _ h => h) (Or.inr ⟨by rfl, rfl⟩) ?_ ?_
            rotate_left
            ·simp only [Act.put, List.setIfInBounds_toArray, List.set_cons_zero, List.set_cons_succ, i64_w, i32_w]
             rfl
            refine pure_ (i := 13) (N := some 67) (v := undef) (a' := ?_) #[true, true, true, true, true, true, true, true, true, true, true, true, true, true, false] rfl rfl (any_of HT_.out (by kernel_rfl)) (fun _ _ _ h => h) (Or.inr ⟨by rfl, rfl⟩) ?_ ?_
            rotate_left
            ·simp only [Act.put, List.setIfInBounds_toArray, List.set_cons_zero, List.set_cons_succ, i64_w, i32_w]
             rfl
            refine pure_ (i := 14) (N := some 68) (v := ?_) (a' := ?_) #[true, true, true, true, true, true, true, true, true, true, true, true, true, true, true] rfl rfl (any_of HT_.out (by kernel_rfl)) (fun _ _ _ h => h) (Or.inl ⟨by rfl, ?_⟩) ?_ ?_
            rotate_left
            ·intro w'
             go_simp
             with_reducible rfl
            rotate_left
            ·simp only [Act.put, List.setIfInBounds_toArray, List.set_cons_zero, List.set_cons_succ, i64_w, i32_w]
             rfl
            refine done_ (done_of HT_.out (by kernel_rfl)) ?_
            try go_wp2
            go_roundg k2
            case measure => have := HJ1.out; have := HK2.out; omega
            case rel => exact ⟨(wrap64 (x43_2 + 1)), (by first | rfl | (simp; done) | (simp [*]; done)), H', ⟨by have := HJ1.out; have := HK2.out; omega⟩, ⟨by (with_reducible repeat (first | refine blk_drewN ?_ _ | refine blk_drew ?_ | refine blk_alloc ?_ _)); exact BK101.out⟩, ⟨by repeat (first | (with_reducible first | exact HB.out | apply below_alloc | apply pw_below_drewN | apply below_drew1 | refine below_set ?_ GE101.out | refine below_set ?_ GE104.out) | exact HB.out)⟩⟩
          ·rw [if_neg c25] at H
           have c25b0 : (t105 == 0) = false := beq_eq_false_iff_ne.mpr c25
           have c25b1 : (t105 != 0) = true := bne_iff_ne.mpr c25
           obtain rfl := Option.some.inj H
           have p103 : 0 ≤ (x43_2 : Int) := of_decide_eq_true (by first | (with_reducible assumption) | assumption)
           have q103 : x43_2 < (l0_0.length : Int) := of_decide_eq_true (by first | (with_reducible assumption) | assumption)
           obtain ⟨ad103, A103_0, c103_0, A103_1, c103_1, e103, hx103_0, hx103_1, hl103_0, hi103_0, hl103_1, hi103_1⟩ := at_T49 HR0_0.out x43_2 p103 q103
           cases e103
           replace hx103_0 := (HB.out.cell (World.block_lt_of_cell? w _ hx103_0)).trans hx103_0
           replace hx103_1 := (HB.out.cell (World.block_lt_of_cell? w _ hx103_1)).trans hx103_1
           have HR103_0 := Aside0.mk hi103_0
           have HC103_0 := Aside0.mk hl103_0
           clear hi103_0 hl103_0
           have HR103_1 := Aside0.mk hi103_1
           have HC103_1 := Aside0.mk hl103_1
           clear hi103_1 hl103_1
           replace p103 := eq_true p103
           replace q103 := eq_true q103
           go_wp2_with (first | ((with_reducible refine gate_dst (N := 5) rfl ?_); refine box_event ?hg (N := 5) ?hd (cs := #[.slice none 0 0, .slice none 0 0]) (t := 49) ?hr ?_; (case hd => rfl); (case hg => rfl); (case hr => first | (go_simp; done) | (go_simp; rfl)); intro gb104 hg w52 hbox hb; have n0_ := Aside0.mk (blk_below (g := gb101) (o := .cells #[.slice (some ad103) l0_0.length c0_0, .slice A0_1 l0_1.length c0_1, .int .i64 a0_2, .int .i64 a0_3, .int .i64 a0_4] 25 (0, 0)) (by (with_reducible repeat (first | refine blk_drewN ?_ _ | refine blk_drew ?_ | refine blk_alloc ?_ _)); exact BK101.out) hb); have n1_ := Aside0.mk (below_step (by repeat (first | (with_reducible first | exact HB.out | apply below_alloc | apply pw_below_drewN | apply below_drew1 | refine below_set ?_ GE101.out) | exact HB.out)) hb); have n2_ := Aside0.mk (hbox); have n3_ := Aside0.mk ((by rw [hg]; exact (below_size (by repeat (first | (with_reducible first | exact HB.out | apply below_alloc | apply pw_below_drewN | apply below_drew1 | refine below_set ?_ GE101.out) | exact HB.out))) : w.heap.size ≤ gb104)); have n4_ := Aside0.mk ((by rw [hg]; exact (below_size (by repeat (first | (with_reducible first | exact HB.out | apply below_alloc | apply pw_below_drewN | apply below_drew1 | refine below_set ?_ GE101.out) | exact HB.out))) : w.heap.size ≤ gb104)); have n5_ := Aside0.mk ((by rw [hg]; exact Nat.ne_of_lt (blk_lt (g := gb101) (o := .cells #[.slice (some ad103) l0_0.length c0_0, .slice A0_1 l0_1.length c0_1, .int .i64 a0_2, .int .i64 a0_3, .int .i64 a0_4] 25 (0, 0)) (by (with_reducible repeat (first | refine blk_drewN ?_ _ | refine blk_drew ?_ | refine blk_alloc ?_ _)); exact BK101.out)) : gb101 ≠ gb104)); have n6_ := Aside0.mk ((by rw [hg]; exact Nat.ne_of_gt (blk_lt (g := gb101) (o := .cells #[.slice (some ad103) l0_0.length c0_0, .slice A0_1 l0_1.length c0_1, .int .i64 a0_2, .int .i64 a0_3, .int .i64 a0_4] 25 (0, 0)) (by (with_reducible repeat (first | refine blk_drewN ?_ _ | refine blk_drew ?_ | refine blk_alloc ?_ _)); exact BK101.out)) : gb104 ≠ gb101)); clear BK101; clear HB; have BK101 := n0_; have HB := n1_; have BK104 := n2_; have GW104 := n3_; have GE104 := n4_; have NB101_104 := n5_; have NB104_101 := n6_; clear n0_ n1_ n2_ n3_ n4_ n5_ n6_; clear hb hbox hg; have hnb53 := NB104_101.out; have hnc53 := NB101_104.out; have hcz54_0 : w52.cell? ⟨gb104, 0, none⟩ = some (.slice none 0 0) := (blk_cell BK104.out 0).trans rfl; have hcz54_1 : w52.cell? ⟨gb104, 1, none⟩ = some (.slice none 0 0) := (blk_cell BK104.out 1).trans rfl; have hfz54_0 := blk_frozen BK104.out 0; have hfz54_1 := blk_frozen BK104.out 1; have hcz55_0 : w52.cell? ⟨gb101, 0, none⟩ = some (.slice (some ad103) l0_0.length c0_0) := (blk_cell BK101.out 0).trans rfl; have hcz55_1 : w52.cell? ⟨gb101, 1, none⟩ = some (.slice A0_1 l0_1.length c0_1) := (blk_cell BK101.out 1).trans rfl; have hcz55_2 : w52.cell? ⟨gb101, 2, none⟩ = some (.int .i64 a0_2) := (blk_cell BK101.out 2).trans rfl; have hcz55_3 : w52.cell? ⟨gb101, 3, none⟩ = some (.int .i64 a0_3) := (blk_cell BK101.out 3).trans rfl; have hcz55_4 : w52.cell? ⟨gb101, 4, none⟩ = some (.int .i64 a0_4) := (blk_cell BK101.out 4).trans rfl; have hfz55_0 := blk_frozen BK101.out 0; have hfz55_1 := blk_frozen BK101.out 1; have hfz55_2 := blk_frozen BK101.out 2; have hfz55_3 := blk_frozen BK101.out 3; have hfz55_4 := blk_frozen BK101.out 4) | ((with_reducible refine gate_callee (f := 36) rfl ?_); refine goesL_ (some 50) rfl rfl Try.func36 (by kernel_rfl) rfl #[.agg #[.slice (some ad103) l0_0.length c0_0, .slice A0_1 l0_1.length c0_1, .int .i64 a0_2, .int .i64 a0_3, .int .i64 a0_4], .agg #[.slice A103_0 ((rd_T49 l0_0 x43_2).f0).length c103_0, .slice A103_1 ((rd_T49 l0_0 x43_2).f1).length c103_1]] rfl (by (try simp only [List.map_toArray, List.map_cons, List.map_nil]); first | done | rfl | (simp only [List.length_drop, List.length_take]; rfl)) ?_; (with_reducible refine (colltable_ofEntry.calls _ _ l0_0 _ _ l0_1 a0_2 a0_3 a0_4 _ _ ((rd_T49 l0_0 x43_2).f0) _ _ ((rd_T49 l0_0 x43_2).f1) t105 _ ?side1 ?side2 ?side3 ?side4 ?side5 ?side6 ?side7 ?side8 A24.out).mono ?_); (case side1 => exact Kd.C_below HR0_0.out (by repeat (first | (with_reducible first | exact HB.out | apply below_alloc | apply pw_below_drewN | apply below_drew1 | refine below_set ?_ GE101.out | refine below_set ?_ GE104.out) | exact HB.out))); (case side2 => exact HC0_0.out); (case side3 => exact Kd.C_below HR0_1.out (by repeat (first | (with_reducible first | exact HB.out | apply below_alloc | apply pw_below_drewN | apply below_drew1 | refine below_set ?_ GE101.out | refine below_set ?_ GE104.out) | exact HB.out))); (case side4 => exact HC0_1.out); (case side5 => exact Kd.C_below HR103_0.out (by repeat (first | (with_reducible first | exact HB.out | apply below_alloc | apply pw_below_drewN | apply below_drew1 | refine below_set ?_ GE101.out | refine below_set ?_ GE104.out) | exact HB.out))); (case side6 => exact HC103_0.out); (case side7 => exact Kd.C_below HR103_1.out (by repeat (first | (with_reducible first | exact HB.out | apply below_alloc | apply pw_below_drewN | apply below_drew1 | refine below_set ?_ GE101.out | refine below_set ?_ GE104.out) | exact HB.out))); (case side8 => exact HC103_1.out); rintro e w56 ⟨rfl, hb⟩; refine ⟨_, rfl, ?_⟩; have n0_ := Aside0.mk (blk_below (g := gb101) (o := .cells #[.slice (some ad103) l0_0.length c0_0, .slice A0_1 l0_1.length c0_1, .int .i64 a0_2, .int .i64 a0_3, .int .i64 a0_4] 25 (0, 0)) (by (with_reducible repeat (first | refine blk_drewN ?_ _ | refine blk_drew ?_ | refine blk_alloc ?_ _)); refine blk_far ?_ NB101_104.out _; (with_reducible repeat (first | refine blk_drewN ?_ _ | refine blk_drew ?_ | refine blk_alloc ?_ _)); refine blk_far ?_ NB101_104.out _; (with_reducible repeat (first | refine blk_drewN ?_ _ | refine blk_drew ?_ | refine blk_alloc ?_ _)); exact BK101.out) hb); have n1_ := Aside0.mk (blk_below (g := gb104) (o := .cells #[.slice A103_0 ((rd_T49 l0_0 x43_2).f0).length c103_0, .slice A103_1 ((rd_T49 l0_0 x43_2).f1).length c103_1] 49 (0, 0)) (by (with_reducible repeat (first | refine blk_drewN ?_ _ | refine blk_drew ?_ | refine blk_alloc ?_ _)); refine blk_put (cs := #[.slice A103_0 ((rd_T49 l0_0 x43_2).f0).length c103_0, .slice none 0 0]) ?_ 1 _ rfl; (with_reducible repeat (first | refine blk_drewN ?_ _ | refine blk_drew ?_ | refine blk_alloc ?_ _)); refine blk_put (cs := #[.slice none 0 0, .slice none 0 0]) ?_ 0 _ rfl; (with_reducible repeat (first | refine blk_drewN ?_ _ | refine blk_drew ?_ | refine blk_alloc ?_ _)); exact BK104.out) hb); have n2_ := Aside0.mk (below_step (by repeat (first | (with_reducible first | exact HB.out | apply below_alloc | apply pw_below_drewN | apply below_drew1 | refine below_set ?_ GE101.out | refine below_set ?_ GE104.out) | exact HB.out)) hb); clear BK101; clear BK104; clear HB; have BK101 := n0_; have BK104 := n1_; have HB := n2_; clear n0_ n1_ n2_; (try clear hb); (try clear hb2); (try clear hk); (try clear hi)))
           go_ret
           exact ⟨by first | rfl | (simp [errW_none, errW_some] <;> rfl) | (simp [*, errW_none, errW_some] <;> rfl), by repeat (first | (with_reducible first | exact HB.out | apply below_alloc | apply pw_below_drewN | apply below_drew1 | refine below_set ?_ GE101.out | refine below_set ?_ GE104.out) | exact HB.out)⟩
         ·rw [if_neg c23] at H
          exact absurd H (by simp)
        ·rw [if_neg c22] at H
         exact absurd H (by simp)
       ·rw [if_neg c21] at H
        have c21b0 : decide (x43_2 < (l0_0.length : Int)) = false := decide_eq_false c21
        clear c21
        obtain rfl := Option.some.inj H
        go_wp2
        go_ret
        exact ⟨by first | rfl | (simp [errW_none, errW_some] <;> rfl) | (simp [*, errW_none, errW_some] <;> rfl), by repeat (first | (with_reducible first | exact HB.out | apply below_alloc | apply pw_below_drewN | apply below_drew1 | refine below_set ?_ GE101.out) | exact HB.out)⟩
    ·rw [if_neg c17] at H
     have c17b0 : (t102 == 0) = false := beq_eq_false_iff_ne.mpr c17
     have c17b1 : (t102 != 0) = true := bne_iff_ne.mpr c17
     obtain rfl := Option.some.inj H
     have hcz57_0 : wc.cell? ⟨gb101, 0, none⟩ = some (.slice A0_0 l0_0.length c0_0) := (blk_cell BK101.out 0).trans rfl
     have hcz57_1 : wc.cell? ⟨gb101, 1, none⟩ = some (.slice A0_1 l0_1.length c0_1) := (blk_cell BK101.out 1).trans rfl
     have hcz57_2 : wc.cell? ⟨gb101, 2, none⟩ = some (.int .i64 a0_2) := (blk_cell BK101.out 2).trans rfl
     have hcz57_3 : wc.cell? ⟨gb101, 3, none⟩ = some (.int .i64 a0_3) := (blk_cell BK101.out 3).trans rfl
     have hcz57_4 : wc.cell? ⟨gb101, 4, none⟩ = some (.int .i64 a0_4) := (blk_cell BK101.out 4).trans rfl
     have hfz57_0 := blk_frozen BK101.out 0
     have hfz57_1 := blk_frozen BK101.out 1
     have hfz57_2 := blk_frozen BK101.out 2
     have hfz57_3 := blk_frozen BK101.out 3
     have hfz57_4 := blk_frozen BK101.out 4
     go_wp2_with (first | ((with_reducible refine gate_callee (f := 35) rfl ?_); refine goesL_ (some 36) rfl rfl Try.func35 (by kernel_rfl) rfl #[.agg #[.slice A0_0 l0_0.length c0_0, .slice A0_1 l0_1.length c0_1, .int .i64 a0_2, .int .i64 a0_3, .int .i64 a0_4]] rfl (by (try simp only [List.map_toArray, List.map_cons, List.map_nil]); first | done | rfl | (simp only [List.length_drop, List.length_take]; rfl)) ?_; (with_reducible refine (colltable_ofGroups.calls _ _ l0_0 _ _ l0_1 a0_2 a0_3 a0_4 t102 _ ?side1 ?side2 ?side3 ?side4 A16.out).mono ?_); (case side1 => repeat (first | exact (Kd.C_below HR0_0.out HB.out) | (with_reducible refine Kd.C_alloc ?_ _) | (with_reducible refine Kd.C_drewN ?_ _) | (with_reducible refine Kd.C_drew ?_))); (case side2 => exact HC0_0.out); (case side3 => repeat (first | exact (Kd.C_below HR0_1.out HB.out) | (with_reducible refine Kd.C_alloc ?_ _) | (with_reducible refine Kd.C_drewN ?_ _) | (with_reducible refine Kd.C_drew ?_))); (case side4 => exact HC0_1.out); rintro e w58 ⟨rfl, hb⟩; refine ⟨_, rfl, ?_⟩; have n0_ := Aside0.mk (blk_below (g := gb101) (o := .cells #[.slice A0_0 l0_0.length c0_0, .slice A0_1 l0_1.length c0_1, .int .i64 a0_2, .int .i64 a0_3, .int .i64 a0_4] 25 (0, 0)) (by (with_reducible repeat (first | refine blk_drewN ?_ _ | refine blk_drew ?_ | refine blk_alloc ?_ _)); exact BK101.out) hb); have n1_ := Aside0.mk (below_step (by repeat (first | (with_reducible first | exact HB.out | apply below_alloc | apply pw_below_drewN | apply below_drew1 | refine below_set ?_ GE101.out) | exact HB.out)) hb); clear BK101; clear HB; have BK101 := n0_; have HB := n1_; clear n0_ n1_; (try clear hb); (try clear hb2); (try clear hk); (try clear hi)))
     go_ret
     exact ⟨by first | rfl | (simp [errW_none, errW_some] <;> rfl) | (simp [*, errW_none, errW_some] <;> rfl), by repeat (first | (with_reducible first | exact HB.out | apply below_alloc | apply pw_below_drewN | apply below_drew1 | refine below_set ?_ GE101.out) | exact HB.out)⟩
end Go.Proofs.Ytfcpebjjcijgcaa.G
-- slices.Clone[[]unicodetext/api.Group,unicodetext/api.Group]: by hand
namespace Go.Proofs.Ytfcpebjjcijgcaa.G
open Go.RowKit Go.Proofs.YtfcpebjjcijgcaaW.PrintWords Go.Proofs.YtfcpebjjcijgcaaW.PrintLast Go.Proofs.YtfcpebjjcijgcaaW.PrintMore
attribute [local go_sem] max2_int min2_int max_two min_two max_three min_three max_four min_four   -- for this text's walks alone
set_option linter.unusedVariables false
set_option linter.unusedSimpArgs false
-- BY HAND: function 24 (api_Group_24)
def api_Group_24.f (l0 : List (S36)) : Option ((List (S36))) := if l0.length < 4398046511104 then some l0 else none
set_option maxHeartbeats 400000 in
theorem api_Group_24.calls (A0 : Option Addr) (c0 : Nat) (l0 : List (S36)) (r : List (S36)) (w : World) (hr0 : Kd.C k36 w A0 l0.length l0) (hc0 : l0.length ≤ c0) (h : api_Group_24.f l0 = some r) :
    Calls Try.prog 24 #[.slice A0 l0.length c0] w fun e w' => ∃ v0_ : Value, e = .returned (v0_) ∧ Kd.R k36 36 w' w.heap.size (fun _ => True) v0_ r ∧ Below w.heap.size w w' := by
  unfold api_Group_24.f at h
  split at h
  case isFalse => cases h
  rename_i hl
  obtain rfl := Option.some.inj h
  clear h
  have HR0 := Aside0.mk hr0
  have HL := Aside0.mk hl
  clear hr0 hl
  have q := fun (w : World) (a : Option Addr) (n c : Nat) => Lib.run_eql_slice_nil (P := Try.prog) w 23 36 a n c 0 0 Try.underlying23
  rcases A0 with _ | ad
  · have h0 : l0 = [] := by
      rcases Nat.eq_zero_or_pos l0.length with h0 | h0
      · exact List.eq_nil_of_length_eq_zero h0
      · obtain ⟨ad, h, _⟩ := HR0.out.2.2 h0
        cases h
    subst h0
    go_enter Try.func24, Try.ntmps24
    go_wp2
    go_ret
    exact ⟨_, rfl, Kd.R_nil _ _ _ _ _, Below.refl _ _⟩
  · go_enter Try.func24, Try.ntmps24
    go_wp2_with (first | ((with_reducible refine gate_dst (N := 5) rfl ?_); refine Kd.R_lit k36 _ 36 ?hg (N := 5) ?hd (xs := []) (inner := []) (ok := fun _ => True) (okp := fun _ => True) ?hr ?hp (fun _ hk => hk) trivial (Below.refl _ _) (Nat.le_refl _) (by simp) ?_; (case hd => rfl); (case hg => rfl); (case hr => first | (go_simp; done) | (go_simp; rfl)); (case hp => exact (Reps.none _ _)); intro v1 w1 ho1 hb1 hg_ hnew_; clear hg_ hnew_; have HO1 := Aside0.mk ho1; have HB1 := Aside0.mk hb1; clear ho1 hb1) | (at_builtin; refine Kd.R_append_rows k36 (w0 := w) (Rr := Kd.K k36 w1) w.heap.size rfl (.tmp 5) (.tmp 6) 23 36 (.agg #[(.string ⟨#[]⟩), (.int .i64 0), (.int .i64 0)]) 32 rfl Try.underlying23 info36 rfl (by decide) (by decide) v1 [] l0 (some ad) l0.length c0 (fun _ => True) (fun k => some k ≠ v1.ownBlock) rfl rfl (Kd.R_lower HO1.out (Nat.le_refl _)) (Kd.C_below HR0.out HB1.out) ?hKM (fun k hk => ⟨trivial, hk⟩) (fun _ _ => trivial) HB1.out HB1.out.size ?hl ?_; rotate_left 2; intro v2 w2 ho2 hb2 _ _; have HO2 := Aside0.mk ho2; have HB2 := Aside0.mk hb2; clear ho2 hb2))
    case hKM => intro x cs hx; rw [k36_open hx]; exact k36_mkM _ _ _ _
    case hl => simp; have := HL.out; omega
    go_ret
    exact ⟨_, rfl, by simpa using HO2.out, HB2.out⟩
end Go.Proofs.Ytfcpebjjcijgcaa.G
-- slices.stableCmpFunc[unicodetext/api.Group]: by hand
namespace Go.Proofs.Ytfcpebjjcijgcaa.G
open Go.RowKit Go.Proofs.YtfcpebjjcijgcaaW.PrintWords Go.Proofs.YtfcpebjjcijgcaaW.PrintLast Go.Proofs.YtfcpebjjcijgcaaW.PrintMore
attribute [local go_sem] max2_int min2_int max_two min_two max_three min_three max_four min_four   -- for this text's walks alone
set_option linter.unusedVariables false
set_option linter.unusedSimpArgs false
set_option maxHeartbeats 1000000 in
/-- Fewer than 20 elements: one run of the insertion sort. -/
theorem api_Group_38.small (v fv : Value) (n : Nat) (hn : n < 20) (w : World) (Q : World → Prop) (hc : Calls Try.prog 51 #[v, .int .i64 0, .int .i64 n, fv] w fun e w' => e = .returned (.tuple #[]) ∧ Q w') :
    Calls Try.prog 38 #[v, .int .i64 n, fv] w fun e w' => e = .returned (.tuple #[]) ∧ Q w' := by
  have HC := Aside0.mk hc
  clear hc
  have h1 : ¬ (20 : Int) ≤ (n : Int) := by omega
  have h2 : decide ((20 : Int) ≤ (n : Int)) = false := decide_eq_false h1
  have h3 : ¬ (20 : Int) < (n : Int) := by omega
  have h4 : decide ((20 : Int) < (n : Int)) = false := decide_eq_false h3
  go_enter Try.func38, Try.ntmps38
  go_wp2
  refine wp_loop_rounds 1 ?_
  rw [rounds_succ]
  go_wp2_with fail
  refine HC.out.mono ?_
  rintro e w' ⟨rfl, hq⟩
  have HQ := Aside0.mk hq
  clear hq
  go_wp2
  refine wp_loop_rounds 1 ?_
  rw [rounds_succ]
  go_wp2
  go_end0
  exact ⟨rfl, HQ.out⟩
end Go.Proofs.Ytfcpebjjcijgcaa.G
-- slices.SortStableFunc[[]unicodetext/api.Group,unicodetext/api.Group]: by hand
namespace Go.Proofs.Ytfcpebjjcijgcaa.G
open Go.RowKit Go.Proofs.YtfcpebjjcijgcaaW.PrintWords Go.Proofs.YtfcpebjjcijgcaaW.PrintLast Go.Proofs.YtfcpebjjcijgcaaW.PrintMore
attribute [local go_sem] max2_int min2_int max_two min_two max_three min_three max_four min_four   -- for this text's walks alone
set_option linter.unusedVariables false
set_option linter.unusedSimpArgs false
set_option maxHeartbeats 1000000 in
theorem api_Group_25.small (A0 : Option Addr) (n c : Nat) (fv : Value) (hn : n < 20) (w : World) (Q : World → Prop) (hc : Calls Try.prog 51 #[.slice A0 n c, .int .i64 0, .int .i64 n, fv] w fun e w' => e = .returned (.tuple #[]) ∧ Q w') :
    Calls Try.prog 25 #[.slice A0 n c, fv] w fun e w' => e = .returned (.tuple #[]) ∧ Q w' := by
  have HC := Aside0.mk (api_Group_38.small (.slice A0 n c) fv n hn w Q hc)
  clear hc
  go_enter Try.func25, Try.ntmps25
  go_wp2_with fail
  refine HC.out.mono ?_
  rintro e w' ⟨rfl, hq⟩
  have HQ := Aside0.mk hq
  clear hq
  go_wp2
  go_end0
  exact ⟨rfl, HQ.out⟩
end Go.Proofs.Ytfcpebjjcijgcaa.G
-- slices.insertionSortCmpFunc[unicodetext/api.Group]: by hand
namespace Go.Proofs.Ytfcpebjjcijgcaa.G
open Go.RowKit Go.Proofs.YtfcpebjjcijgcaaW.PrintWords Go.Proofs.YtfcpebjjcijgcaaW.PrintLast Go.Proofs.YtfcpebjjcijgcaaW.PrintMore
attribute [local go_sem] max2_int min2_int max_two min_two max_three min_three max_four min_four   -- for this text's walks alone
set_option linter.unusedVariables false
set_option linter.unusedSimpArgs false
def api_Group_51.ren : Go.Shelf.Ren := ⟨fun | 20 => 51 | n => n, fun | 24 => 36 | 22 => 23 | 3 => 3 | 25 => 57 | 4 => 4 | 0 => 0 | n => n, fun | n => n⟩
theorem api_Group_51.lay : Go.Proofs.SlLaysF0.n20 Try.prog api_Group_51.ren := {
  mixed := by kernel_rfl
  f20 := ⟨Try.f51.name, by decide, Try.func51.trans (congrArg some (by kernel_rfl))⟩
  t0 := Try.underlying0
  a0 := Try.isAgg0
  z0 := Try.sizeOf0
  v0 := Try.zeroValue0
  t3 := Try.underlying3
  a3 := Try.isAgg3
  z3 := Try.sizeOf3
  v3 := Try.zeroValue3
  t4 := Try.underlying4
  a4 := Try.isAgg4
  z4 := Try.sizeOf4
  v4 := Try.zeroValue4
  t22 := Try.underlying23
  a22 := Try.isAgg23
  z22 := Try.sizeOf23
  v22 := Try.zeroValue23
  t25 := Try.underlying57
  a25 := Try.isAgg57
  z25 := Try.sizeOf57
  v25 := Try.zeroValue57 }
set_option maxHeartbeats 1000000 in
/-- At no element nothing turns. -/
theorem api_Group_51.none (p : Option Addr) (cap : Nat) (fv : Value) (w : World) : Calls Try.prog 51 #[.slice p 0 cap, .int .i64 0, .int .i64 0, fv] w fun e w' => e = .returned (.tuple #[]) ∧ w' = w := by
  go_enter Try.func51, Try.ntmps51
  go_wp2
  refine wp_loop_rounds 1 ?_
  rw [rounds_succ]
  go_wp2
  go_end0
  exact ⟨rfl, rfl⟩
end Go.Proofs.Ytfcpebjjcijgcaa.G
-- by hand: lemmas
namespace Go.Proofs.Ytfcpebjjcijgcaa.G
open Go.RowKit Go.Proofs.YtfcpebjjcijgcaaW.PrintWords Go.Proofs.YtfcpebjjcijgcaaW.PrintLast Go.Proofs.YtfcpebjjcijgcaaW.PrintMore
attribute [local go_sem] max2_int min2_int max_two min_two max_three min_three max_four min_four   -- for this text's walks alone
set_option linter.unusedVariables false
set_option linter.unusedSimpArgs false
/-- Into a sorted list from its end on (the list is told from its end). -/
def insRev {α : Type} (lt : α → α → Bool) (x : α) : List α → List α
  | [] => [x]
  | y :: l => if lt x y then y :: insRev lt x l else x :: y :: l
def insL {α : Type} (lt : α → α → Bool) (x : α) (acc : List α) : List α := (insRev lt x acc.reverse).reverse
theorem insL_snoc {α : Type} (lt : α → α → Bool) (x y : α) (p : List α) : insL lt x (p ++ [y]) = if lt x y then insL lt x p ++ [y] else p ++ [y] ++ [x] := by
  unfold insL
  rw [List.reverse_append]
  simp only [List.reverse_cons, List.reverse_nil, List.nil_append, List.cons_append, insRev]
  split
  · simp
  · simp
theorem insRev_length {α : Type} (lt : α → α → Bool) (x : α) : ∀ l : List α, (insRev lt x l).length = l.length + 1
  | [] => rfl
  | y :: l => by
    unfold insRev
    split
    · simp [insRev_length lt x l]
    · simp
theorem flatMap_same {α β : Type} {l : List α} {f g : α → List β} (h : ∀ v, v ∈ l → f v = g v) : l.flatMap f = l.flatMap g := by
  induction l with
  | nil => rfl
  | cons a l ih => rw [List.flatMap_cons, List.flatMap_cons, h a List.mem_cons_self, ih (fun v hv => h v (List.mem_cons_of_mem _ hv))]
theorem get_mid {α : Type} [Inhabited α] {d : Array α} {p : List α} {x : α} {r : List α} (h : d.toList = p ++ x :: r) : d[p.length]! = x := by
  have hl : p.length < d.size := by
    rw [← Array.length_toList, h]
    simp
  rw [getElem!_pos d _ hl, ← Array.getElem_toList]
  simp [h]
theorem insInner_list {α : Type} [Inhabited α] (lt : α → α → Bool) : ∀ (j : Nat) (d : Array α) (p : List α) (x : α) (r : List α), p.length = j → d.toList = p ++ x :: r → (Sort.insInner lt 0 j d).toList = insL lt x p ++ r
  | 0, d, p, x, r, hp, hd => by
    obtain rfl := List.eq_nil_of_length_eq_zero hp
    rw [show Sort.insInner lt 0 0 d = d from rfl, hd]
    rfl
  | j + 1, d, p, x, r, hp, hd => by
    obtain ⟨p', y, rfl⟩ : ∃ p' y, p = p' ++ [y] := ⟨p.dropLast, p.getLast (by intro h; simp [h] at hp), by rw [List.dropLast_concat_getLast]⟩
    have hp' : p'.length = j := by simpa using hp
    have hx : d[j + 1]! = x := by
      have := get_mid hd
      rwa [hp] at this
    have hd2 : d.toList = p' ++ y :: (x :: r) := by rw [hd]; simp
    have hy : d[j]! = y := by
      have := get_mid hd2
      rwa [hp'] at this
    unfold Sort.insInner
    rw [hx, hy, insL_snoc]
    by_cases hl : lt x y = true
    · rw [if_pos (by simp [hl]), if_pos hl]
      have hs : (Sort.swp d (j + 1) j).toList = p' ++ x :: (y :: r) := by
        unfold Sort.swp
        rw [hx, hy]
        simp only [Array.toList_setIfInBounds, hd2]
        rw [show j + 1 = (p' ++ [y]).length by simp [hp'], show p' ++ y :: x :: r = (p' ++ [y]) ++ x :: r by simp, List.set_append_right _ _ (Nat.le_refl _)]
        simp only [Nat.sub_self, List.set_cons_zero]
        rw [show (p' ++ [y]) ++ y :: r = p' ++ y :: (y :: r) by simp, ← hp', List.set_append_right _ _ (Nat.le_refl _)]
        simp
      rw [insInner_list lt j _ p' x (y :: r) hp' hs]
      simp
    · rw [if_neg (by simp [hl]), if_neg hl, hd]
      simp
theorem insOuter_list {α : Type} [Inhabited α] (lt : α → α → Bool) : ∀ (u : List α) (i b : Nat) (d : Array α) (s : List α), s.length = i → b = i + u.length → d.toList = s ++ u → (Sort.insOuter lt 0 b i d).toList = u.foldl (fun acc x => insL lt x acc) s
  | [], i, b, d, s, hs, hb, hd => by
    rw [Proofs.insOuter_stop _ _ _ _ _ (by simp at hb; omega), hd]
    simp
  | x :: u, i, b, d, s, hs, hb, hd => by
    rw [Proofs.insOuter_go _ _ _ _ _ (by simp at hb; omega)]
    have h1 := insInner_list lt i d s x u hs hd
    have hl : (insL lt x s).length = s.length + 1 := by
      unfold insL
      rw [List.length_reverse, insRev_length, List.length_reverse]
    rw [insOuter_list lt u (i + 1) b _ (insL lt x s) (by omega) (by simp at hb; omega) h1]
    rfl
theorem insertionSort_list {α : Type} [Inhabited α] (lt : α → α → Bool) (d : Array α) : (Sort.insertionSort lt d 0 d.size).toList = d.toList.foldl (fun acc x => insL lt x acc) [] := by
  unfold Sort.insertionSort
  cases h : d.toList with
  | nil =>
    have : d.size = 0 := by rw [← Array.length_toList, h]; rfl
    rw [Proofs.insOuter_stop _ _ _ _ _ (by omega), h]
    rfl
  | cons x u =>
    rw [insOuter_list lt u 1 d.size d [x] rfl (by rw [← Array.length_toList, h]; simp; omega) (by rw [h]; rfl)]
    rfl
theorem insRev_split {α : Type} (lt : α → α → Bool) (x : α) (A : List α) (hA : ∀ a, a ∈ A → lt x a = false) : ∀ B : List α, (∀ b, b ∈ B → lt x b = true) → insRev lt x (B ++ A) = B ++ x :: A
  | [], _ => by
    cases A with
    | nil => rfl
    | cons a A => simp [insRev, hA a List.mem_cons_self]
  | b :: B, hB => by
    rw [List.cons_append, insRev, if_pos (hB b List.mem_cons_self), insRev_split lt x A hA B (fun c hc => hB c (List.mem_cons_of_mem _ hc))]
    rfl
theorem insL_split {α : Type} (lt : α → α → Bool) (x : α) (A B : List α) (hA : ∀ a, a ∈ A → lt x a = false) (hB : ∀ b, b ∈ B → lt x b = true) : insL lt x (A ++ B) = A ++ x :: B := by
  unfold insL
  rw [List.reverse_append, insRev_split lt x A.reverse (fun a ha => hA a (List.mem_reverse.1 ha)) B.reverse (fun b hb => hB b (List.mem_reverse.1 hb))]
  simp
/-- By their keys, equals in their order. -/
def bucket {α : Type} (key : α → Nat) (N : Nat) (l : List α) : List α := (List.range N).flatMap fun v => l.filter fun x => key x == v
theorem bucket_snoc {α : Type} (key : α → Nat) (N : Nat) (l : List α) (x : α) (hx : key x < N) : insL (fun x y => decide (key x < key y)) x (bucket key N l) = bucket key N (l ++ [x]) := by
  obtain ⟨m, rfl⟩ : ∃ m, N = key x + 1 + m := ⟨N - (key x + 1), by omega⟩
  have hs : ∀ l : List α, bucket key (key x + 1 + m) l = (List.range (key x + 1)).flatMap (fun v => l.filter fun y => key y == v) ++ (List.range m).flatMap (fun v => l.filter fun y => key y == key x + 1 + v) := by
    intro l
    unfold bucket
    rw [List.range_add, List.flatMap_append, List.flatMap_map]
  rw [hs, hs, insL_split]
  · have h1 : (List.range (key x + 1)).flatMap (fun v => (l ++ [x]).filter fun y => key y == v) = (List.range (key x + 1)).flatMap (fun v => l.filter fun y => key y == v) ++ [x] := by
      rw [List.range_succ, List.flatMap_append, List.flatMap_append]
      simp only [List.flatMap_cons, List.flatMap_nil, List.append_nil]
      rw [List.append_assoc]
      congr 1
      · apply flatMap_same
        intro v hv
        have := List.mem_range.1 hv
        rw [List.filter_append]
        simp
        omega
      · rw [List.filter_append]
        simp
    have h2 : (List.range m).flatMap (fun v => (l ++ [x]).filter fun y => key y == key x + 1 + v) = (List.range m).flatMap (fun v => l.filter fun y => key y == key x + 1 + v) := by
      apply flatMap_same
      intro v _
      rw [List.filter_append]
      simp
      omega
    rw [h1, h2]
    simp
  · intro a ha
    obtain ⟨v, hv, ha⟩ := List.mem_flatMap.1 ha
    have h3 := List.mem_range.1 hv
    have h4 := (List.mem_filter.1 ha).2
    simp at h4
    exact decide_eq_false (by omega)
  · intro b hb
    obtain ⟨v, hv, hb⟩ := List.mem_flatMap.1 hb
    have h4 := (List.mem_filter.1 hb).2
    simp at h4
    exact decide_eq_true (by omega)
theorem foldl_bucket {α : Type} (key : α → Nat) (N : Nat) (l : List α) (h : ∀ x, x ∈ l → key x < N) : l.foldl (fun acc x => insL (fun x y => decide (key x < key y)) x acc) [] = bucket key N l := by
  have gen : ∀ (u s : List α), (∀ x, x ∈ u → key x < N) → u.foldl (fun acc x => insL (fun x y => decide (key x < key y)) x acc) (bucket key N s) = bucket key N (s ++ u) := by
    intro u
    induction u with
    | nil => intro s _; simp
    | cons x u ih =>
      intro s hu
      rw [List.foldl_cons, bucket_snoc key N s x (hu x List.mem_cons_self), ih (s ++ [x]) (fun y hy => hu y (List.mem_cons_of_mem _ hy))]
      simp
  have h0 : bucket key N ([] : List α) = [] := by simp [bucket]
  have := gen l [] h
  rwa [h0, List.nil_append] at this
theorem ins_length {α : Type} : ∀ (u s : List α) (lt : α → α → Bool), (u.foldl (fun acc x => insL lt x acc) s).length = s.length + u.length
  | [], s, lt => rfl
  | x :: u, s, lt => by
    rw [List.foldl_cons, ins_length u]
    unfold insL
    rw [List.length_reverse, insRev_length, List.length_reverse, List.length_cons]
    omega
theorem bucket_length {α : Type} (key : α → Nat) (N : Nat) (l : List α) (h : ∀ x, x ∈ l → key x < N) : (bucket key N l).length = l.length := by
  rw [← foldl_bucket key N l h, ins_length]
  simp
theorem bucket_map {α β : Type} (f : β → α) (key : α → Nat) (N : Nat) (l : List β) : (bucket (fun x => key (f x)) N l).map f = bucket key N (l.map f) := by
  unfold bucket
  rw [List.map_flatMap]
  apply flatMap_same
  intro v _
  rw [List.filter_map]
  rfl
end Go.Proofs.Ytfcpebjjcijgcaa.G
-- by hand: lemmas
namespace Go.Proofs.Ytfcpebjjcijgcaa.G
open Go.RowKit Go.Proofs.YtfcpebjjcijgcaaW.PrintWords Go.Proofs.YtfcpebjjcijgcaaW.PrintLast Go.Proofs.YtfcpebjjcijgcaaW.PrintMore
attribute [local go_sem] max2_int min2_int max_two min_two max_three min_three max_four min_four   -- for this text's walks alone
set_option linter.unusedVariables false
set_option linter.unusedSimpArgs false
/-- A map from the groups' names. -/
noncomputable def mapOf (l : List S36) (v : ByteArray → Value) : Lit → Option Value := fun k => open Classical in if h : ∃ s, s ∈ nms l ∧ sk s = k then some (v h.choose) else none
theorem mapOf_sk (l : List S36) (v : ByteArray → Value) (s : ByteArray) : mapOf l v (sk s) = if memB s (nms l) = true then some (v s) else none := by
  unfold mapOf
  by_cases h : s ∈ nms l
  · have h1 : ∃ t, t ∈ nms l ∧ sk t = sk s := ⟨s, h, rfl⟩
    rw [dif_pos h1, if_pos (memB_iff.2 h), sk_inj.1 h1.choose_spec.2]
  · have h1 : ¬ ∃ t, t ∈ nms l ∧ sk t = sk s := by
      rintro ⟨t, ht, e⟩
      rw [sk_inj.1 e] at ht
      exact h ht
    rw [dif_neg h1, if_neg (fun e => h (memB_iff.1 e))]
theorem mapOf_other (l : List S36) (v : ByteArray → Value) (k : Lit) (hk : ∀ s, sk s ≠ k) : mapOf l v k = none := by
  unfold mapOf
  rw [dif_neg]
  rintro ⟨s, _, e⟩
  exact hk s e
theorem mapOf_nil (v : ByteArray → Value) : mapOf [] v = fun _ => none := by
  funext k
  unfold mapOf
  rw [dif_neg]
  rintro ⟨s, hs, _⟩
  simp [nms] at hs
theorem mapOf_ext {l l' : List S36} {v v' : ByteArray → Value} {k0 : ByteArray} {u : Value} (h : ∀ s, (if s = k0 then some u else if memB s (nms l) = true then some (v s) else none) = if memB s (nms l') = true then some (v' s) else none) : upd (mapOf l v) (sk k0) u = mapOf l' v' := by
  funext k
  by_cases hk : ∃ s, sk s = k
  · obtain ⟨s, rfl⟩ := hk
    rw [mapOf_sk, ← h s]
    by_cases e : s = k0
    · subst e
      rw [upd_same, if_pos rfl]
    · rw [upd_other _ _ (fun z => e (sk_inj.1 z)), if_neg e, mapOf_sk]
  · have hk' : ∀ s, sk s ≠ k := fun s e => hk ⟨s, e⟩
    rw [upd_other _ _ (fun z => hk' _ z.symm), mapOf_other _ _ _ hk', mapOf_other _ _ _ hk']
theorem memB_snoc (s : ByteArray) (l : List S36) (g : S36) : memB s (nms (l ++ [g])) = (memB s (nms l) || decide (g.f0 = s)) := by
  rw [nms_snoc]
  simp [memB]
theorem mapOf_snoc (l : List S36) (v : ByteArray → Value) (g : S36) : upd (mapOf l v) (sk g.f0) (v g.f0) = mapOf (l ++ [g]) v := by
  refine mapOf_ext fun s => ?_
  rw [memB_snoc]
  by_cases e : s = g.f0
  · subst e
    simp
  · have : decide (g.f0 = s) = false := decide_eq_false (fun z => e z.symm)
    rw [if_neg e, this, Bool.or_false]
theorem mapOf_upd (l : List S36) (v v' : ByteArray → Value) (k0 : ByteArray) (u : Value) (hm : memB k0 (nms l) = true) (h0 : v' k0 = u) (h : ∀ s, s ≠ k0 → v' s = v s) : upd (mapOf l v) (sk k0) u = mapOf l v' := by
  refine mapOf_ext fun s => ?_
  by_cases e : s = k0
  · subst e
    rw [if_pos rfl, if_pos hm, h0]
  · rw [if_neg e, h s e]
/-- The place of a name, or the number of names. -/
def idxN (names : List ByteArray) (s : ByteArray) : Nat := names.findIdx fun t => decide (t = s)
theorem idxN_le (names : List ByteArray) (s : ByteArray) : idxN names s ≤ names.length := List.findIdx_le_length
theorem idxN_not {names : List ByteArray} {s : ByteArray} (h : memB s names = false) : idxN names s = names.length := by
  unfold idxN
  rw [List.findIdx_eq_length]
  intro t ht
  exact decide_eq_false (fun e => memB_false.1 h (e ▸ ht))
theorem idxN_lt {names : List ByteArray} {s : ByteArray} (h : memB s names = true) : idxN names s < names.length := by
  unfold idxN
  exact List.findIdx_lt_length_of_exists ⟨s, memB_iff.1 h, decide_eq_true rfl⟩
/-- The groups by the places of their names. -/
def sortG (names : List ByteArray) (l : List S36) : List S36 := bucket (fun g => idxN names g.f0) (names.length + 1) l
/-- Numbered anew, from a place on. -/
def renum : Int → List S36 → List S36
  | _, [] => []
  | p, g :: l => ⟨g.f0, p, wrap64 (wrap64 (p + g.f2) - g.f1)⟩ :: renum (wrap64 (wrap64 (wrap64 (p + g.f2) - g.f1) + 1)) l
def ordP (l : List S36) (names : List ByteArray) : List S36 × Int :=
  if names.any (fun s => !memB s (nms l)) then ([], 6) else if !decide names.Nodup then ([], 5) else (renum (rd_T36 l 0).f1 (sortG names l), 0)
def namesFit (names : List ByteArray) : Bool := decide (names.length ≤ 1099511627776) && names.all fun s => decide (s.size ≤ 9223372036854775807)
theorem namesFit_len {names : List ByteArray} (h : namesFit names = true) : names.length ≤ 1099511627776 := by
  simp only [namesFit, Bool.and_eq_true, decide_eq_true_eq] at h
  exact h.1
theorem namesFit_size {names : List ByteArray} (h : namesFit names = true) {s : ByteArray} (hs : s ∈ names) : s.size ≤ 9223372036854775807 := by
  simp only [namesFit, Bool.and_eq_true, List.all_eq_true, decide_eq_true_eq] at h
  exact h.2 s hs
/-- What the map holds when i names have been put. -/
def valN (names : List ByteArray) (i : Nat) (s : ByteArray) : Int := if memB s (names.take i) = true then (idxN names s : Int) else (names.length : Int)
theorem valN_zero (names : List ByteArray) (s : ByteArray) : valN names 0 s = (names.length : Int) := by simp [valN, memB]
theorem valN_all (names : List ByteArray) (s : ByteArray) : valN names names.length s = (idxN names s : Int) := by
  unfold valN
  rw [List.take_length]
  split
  · rfl
  · rename_i h
    rw [Bool.not_eq_true] at h
    rw [idxN_not h]
theorem valN_lt {names : List ByteArray} {i : Nat} {s : ByteArray} : decide (valN names i s < (names.length : Int)) = memB s (names.take i) := by
  unfold valN
  by_cases h : memB s (names.take i) = true
  · rw [if_pos h, h]
    have h2 : memB s names = true := memB_iff.2 (List.mem_of_mem_take (memB_iff.1 h))
    have := idxN_lt h2
    exact decide_eq_true (by omega)
  · rw [if_neg h]
    rw [Bool.not_eq_true] at h
    rw [h]
    exact decide_eq_false (by omega)
theorem memB_one (s : ByteArray) (l : List ByteArray) (t : ByteArray) : memB s (l ++ [t]) = (memB s l || decide (t = s)) := by simp [memB]
theorem take_name {names : List ByteArray} {i : Nat} (hi : i < names.length) : names.take (i + 1) = names.take i ++ [names[i]] := by
  rw [List.take_add_one, List.getElem?_eq_getElem hi]
  rfl
theorem valN_step {names : List ByteArray} {i : Nat} (hi : i < names.length) (hn : memB names[i] (names.take i) = false) : valN names (i + 1) names[i] = (i : Int) ∧ ∀ s, s ≠ names[i] → valN names (i + 1) s = valN names i s := by
  constructor
  · unfold valN
    rw [take_name hi, if_pos (by rw [memB_one, decide_eq_true rfl, Bool.or_true])]
    have : idxN names names[i] = i := by
      unfold idxN
      rw [List.findIdx_eq hi]
      refine ⟨decide_eq_true rfl, fun j hj => decide_eq_false fun e => ?_⟩
      refine memB_false.1 hn ?_
      rw [← e]
      have h2 : j < (names.take i).length := by rw [List.length_take]; omega
      have := List.getElem_mem h2
      rwa [List.getElem_take] at this
    rw [this]
  · intro s hs
    unfold valN
    have : memB s (names.take (i + 1)) = memB s (names.take i) := by
      rw [take_name hi, memB_one, decide_eq_false (fun e : names[i] = s => hs e.symm), Bool.or_false]
    rw [this]
theorem sortG_length (names : List ByteArray) (l : List S36) : (sortG names l).length = l.length := bucket_length _ _ _ fun _ _ => Nat.lt_succ_of_le (idxN_le _ _)
end Go.Proofs.Ytfcpebjjcijgcaa.G
-- by hand: lemmas
namespace Go.Proofs.Ytfcpebjjcijgcaa.G
open Go.RowKit Go.Proofs.YtfcpebjjcijgcaaW.PrintWords Go.Proofs.YtfcpebjjcijgcaaW.PrintLast Go.Proofs.YtfcpebjjcijgcaaW.PrintMore
attribute [local go_sem] max2_int min2_int max_two min_two max_three min_three max_four min_four   -- for this text's walks alone
set_option linter.unusedVariables false
set_option linter.unusedSimpArgs false
/-- A row of the call's own, as the sort's contracts tell it: the elements by their places. -/
theorem Kd.sort_holds {α : Type} {d : Kd α} {enc : α → List Value} {k : Nat} (hk : ∀ x, (enc x).length = k) (hsz : d.sz = k) (hM : ∀ w base ok x cs, d.M w base ok x cs → cs = enc x) (z : α) {e : Nat} {w : World} {base : Nat} {ok : Nat → Prop} {g n c : Nat} {l : List α}
    (h : d.R e w base ok (.slice (some ⟨g, 0, none⟩) n c) l) : g < w.heap.size ∧ n = l.length ∧ Sort.HoldsK (fun i : Nat => enc (l.getD i z)) k w g 0 (Array.range n) := by
  obtain ⟨h0, inner, ho, hr⟩ := h
  obtain ⟨hl, hv⟩ := ho
  rcases hv with ⟨hv, _⟩ | ⟨g', cap, cur, hv, hb, hh, hnc, hcm, hcs, htk⟩
  · cases hv
  injection hv with hv hn hc
  injection hv with hv
  injection hv with hv
  subst hv
  subst hn
  refine ⟨(Array.getElem?_eq_some_iff.1 hh).1, rfl, ?_⟩
  intro t ht
  have ht' : t < l.length * k := by simpa using ht
  have hk0 : 0 < k := by rcases Nat.eq_zero_or_pos k with h | h; · subst h; simp at ht'
                         · exact h
  rw [Sort.get_flatK _ _ _ _ (by simpa using ht')]
  have hq2 : t / k < l.length := Nat.div_lt_of_lt_mul (by rw [Nat.mul_comm]; exact ht')
  have hrep := hM _ _ _ _ _ (hr.2 (t / k) _ (List.getElem?_eq_getElem hq2))
  rw [hsz] at hrep
  have hx : (Array.range l.length)[t / k]! = t / k := by
    rw [getElem!_pos (Array.range l.length) (t / k) (by simpa using hq2)]
    simp
  rw [hx]
  show w.cell? ⟨g, 0 + t, none⟩ = some (enc (l.getD (t / k) z))[t % k]! ∧ w.frozen? ⟨g, 0 + t, none⟩ = false
  have hgd : l.getD (t / k) z = l[t / k] := by rw [List.getD_eq_getElem?_getD, List.getElem?_eq_getElem hq2]; rfl
  rw [hgd, ← hrep]
  have hmod : t % k < k := Nat.mod_lt _ hk0
  have hdm : t / k * k + t % k = t := by rw [Nat.mul_comm]; exact Nat.div_add_mod t k
  have hti : t < inner.length := by rw [hl, hsz]; exact ht'
  obtain ⟨u, hu⟩ : ∃ u, inner[t]? = some u := ⟨_, List.getElem?_eq_getElem hti⟩
  have hcell : cur[t]? = some u := by
    rw [← htk, List.getElem?_take] at hu
    split at hu
    · rw [← Array.getElem?_toList]; exact hu
    · cases hu
  have hget : ((inner.drop (t / k * k)).take k)[t % k]! = u := by
    have h2 : ((inner.drop (t / k * k)).take k)[t % k]? = some u := by
      rw [List.getElem?_take, if_pos hmod, List.getElem?_drop, hdm]
      exact hu
    rw [List.getElem!_eq_getElem?_getD, h2]
    rfl
  rw [hget]
  constructor
  · simp [World.cell?, hh, hcell]
  · simp [World.frozen?, hh]
theorem Kd.sort_other {α : Type} [Inhabited α] {enc : α → List Value} {k : Nat} {w : World} {g off m : Nat} {dk : Array α} {os : Array Obj} {b : Nat} (hb : b ≠ g) (hlt : b < w.heap.size) : (Go.Proofs.sortWorldK enc k w g off m dk os).heap[b]? = w.heap[b]? := by
  unfold Go.Proofs.sortWorldK Go.Sort.grow Sort.putRowK Sort.putRow Sort.mapBlock
  show ((Sort.ahead w m).heap.modify g _ ++ os)[b]? = _
  rw [Array.getElem?_append_left (by simpa using hlt), Array.getElem?_modify, if_neg (fun e => hb e.symm)]
  rfl
theorem Kd.sort_grown {α : Type} [Inhabited α] {enc : α → List Value} {k : Nat} (w : World) (g off m : Nat) (dk : Array α) (os : Array Obj) : w.grownBy (Go.Proofs.sortWorldK enc k w g off m dk os) (some g) :=
  ⟨rfl, rfl, rfl, by unfold Go.Proofs.sortWorldK Go.Sort.grow Sort.putRowK Sort.putRow Sort.mapBlock; simp [Sort.ahead], fun b hb hne => Kd.sort_other (fun e => hne (by rw [e])) hb⟩
theorem Kd.sort_done {α : Type} {d : Kd α} {enc : α → List Value} {k : Nat} (hk : ∀ x, (enc x).length = k) (hk0 : 0 < k) (hsz : d.sz = k) (hM : ∀ w base ok x, d.M w base ok x (enc x)) (z : α) {e : Nat} {w : World} {base : Nat} {ok : Nat → Prop} {g n c : Nat} {l : List α}
    (h : d.R e w base ok (.slice (some ⟨g, 0, none⟩) n c) l) (m : Nat) (d' : Array Nat) (hd : d'.size = l.length) (os : Array Obj) :
    d.R e (Go.Proofs.sortWorldK (fun i : Nat => enc (l.getD i z)) k w g 0 m d' os) base ok (.slice (some ⟨g, 0, none⟩) n c) (d'.toList.map fun i => l.getD i z) := by
  obtain ⟨h0, inner, ho, hr⟩ := h
  obtain ⟨hl, hv⟩ := ho
  rcases hv with ⟨hv, _⟩ | ⟨g', cap, cur, hv, hb, hh, hnc, hcm, hcs, htk⟩
  · cases hv
  injection hv with hv hn hc
  injection hv with hv
  injection hv with hv
  subst hv
  subst hn
  subst hc
  have hFs : (Sort.flatK (fun i : Nat => enc (l.getD i z)) k d').size = l.length * k := by simp [hd]
  refine ⟨h0, (Sort.flatK (fun i : Nat => enc (l.getD i z)) k d').toList, ⟨?_, .inr ⟨g, c, Sort.putCells id 0 (Sort.flatK (fun i : Nat => enc (l.getD i z)) k d') cur, by simp [hd], hb, ?_, ?_, hcm, ?_, ?_⟩⟩, ?_, ?_⟩
  · rw [Array.length_toList, hFs, hsz]; simp [hd]
  · unfold Go.Proofs.sortWorldK Go.Sort.grow Sort.putRowK Sort.putRow Sort.mapBlock
    show ((Sort.ahead w m).heap.modify g _ ++ os)[g]? = _
    have hlt := (Array.getElem?_eq_some_iff.1 hh).1
    rw [Array.getElem?_append_left (by simpa [Sort.ahead] using hlt), Array.getElem?_modify, if_pos rfl]
    show (w.heap[g]?).map _ = _
    rw [hh]
    rfl
  · simpa [hd] using hnc
  · simp [Sort.putCells, hcs]
  · apply List.ext_getElem?
    intro t
    rw [List.getElem?_take]
    have hlm : (d'.toList.map fun i => l.getD i z).length * d.sz = l.length * k := by simp [hd, hsz]
    rw [hlm]
    by_cases ht : t < l.length * k
    · rw [if_pos ht]
      have hcz : t < cur.size := by
        rw [hcs, hsz]
        exact Nat.lt_of_lt_of_le ht (Nat.mul_le_mul_right _ hnc)
      rw [Array.getElem?_toList, Array.getElem?_toList]
      unfold Sort.putCells
      rw [Array.getElem?_mapIdx, Array.getElem?_eq_getElem hcz, Option.map_some, if_pos ⟨Nat.zero_le _, by rw [hFs]; omega⟩, Nat.sub_zero, getElem!_pos _ t (by rw [hFs]; exact ht), Array.getElem?_eq_getElem (by rw [hFs]; exact ht)]
      rfl
    · rw [if_neg ht, List.getElem?_eq_none (by rw [Array.length_toList, hFs]; omega)]
  · rw [Array.length_toList, hFs, hsz]; simp [hd]
  · intro j p hj
    have hjl : j < d'.size := by
      have := (List.getElem?_eq_some_iff.1 hj).1
      simpa using this
    have hp : p = l.getD d'[j]! z := by
      rw [List.getElem?_map, Array.getElem?_toList, Array.getElem?_eq_getElem hjl] at hj
      rw [getElem!_pos d' j hjl]
      simpa using hj.symm
    have e2 : (((Sort.flatK (fun i : Nat => enc (l.getD i z)) k d').toList.drop (j * d.sz)).take d.sz) = enc p := by
      rw [hsz]
      apply List.ext_getElem?
      intro r
      rw [List.getElem?_take, List.getElem?_drop]
      by_cases hr2 : r < k
      · have hlt : j * k + r < d'.size * k := by
          have := Nat.mul_le_mul_right k (show j + 1 ≤ d'.size from hjl)
          rw [Nat.add_mul, Nat.one_mul] at this
          omega
        have hdiv : (j * k + r) / k = j := by
          rw [Nat.mul_comm, Nat.mul_add_div hk0, Nat.div_eq_of_lt hr2]
          rfl
        have hmod : (j * k + r) % k = r := by
          rw [Nat.mul_comm, Nat.mul_add_mod, Nat.mod_eq_of_lt hr2]
        rw [if_pos hr2, Array.getElem?_toList, Array.getElem?_eq_getElem (by rw [Sort.size_flatK]; exact hlt)]
        have h3 := Sort.get_flatK (fun i : Nat => enc (l.getD i z)) k d' _ hlt
        rw [getElem!_pos _ _ (by rw [Sort.size_flatK]; exact hlt), hdiv, hmod] at h3
        rw [h3, hp, List.getElem?_eq_getElem (by rw [hk]; exact hr2), getElem!_pos _ r (by rw [hk]; exact hr2)]
      · rw [if_neg hr2, List.getElem?_eq_none (by rw [hk]; omega)]
    rw [e2]
    exact hM _ _ _ _
theorem Kd.R_at {α : Type} {d : Kd α} {e : Nat} {w : World} {base : Nat} {ok : Nat → Prop} {v : Value} {l : List α} (h : d.R e w base ok v l) (hl : 0 < l.length) : ∃ g c, v = .slice (some ⟨g, 0, none⟩) l.length c ∧ base ≤ g := by
  obtain ⟨h0, inner, ⟨_, hv⟩, _⟩ := h
  rcases hv with ⟨_, hn⟩ | ⟨g, cap, cur, hv, hb, _⟩
  · omega
  · exact ⟨g, cap, hv, hb⟩
theorem bucket_congr {α : Type} {key key' : α → Nat} (N : Nat) {l : List α} (h : ∀ x, x ∈ l → key x = key' x) : bucket key N l = bucket key' N l := by
  unfold bucket
  apply flatMap_same
  intro v _
  apply List.filter_congr
  intro x hx
  rw [h x hx]
theorem range_getD {α : Type} (l : List α) (z : α) : (List.range l.length).map (fun i => l.getD i z) = l := by
  apply List.ext_getElem?
  intro i
  rw [List.getElem?_map]
  rcases Nat.lt_or_ge i l.length with h | h
  · rw [List.getElem?_range h, List.getElem?_eq_getElem h, Option.map_some, List.getD_eq_getElem?_getD, List.getElem?_eq_getElem h]
    rfl
  · rw [List.getElem?_eq_none (by simpa using h), List.getElem?_eq_none h]
    rfl
/-- The cells of a row of the call's own. -/
theorem Kd.R_cells {α : Type} {d : Kd α} {enc : α → List Value} {k : Nat} (hsz : d.sz = k) (hK : ∀ w x cs, d.K w x cs → cs = enc x) {e : Nat} {w : World} {base : Nat} {ok : Nat → Prop} {g n c : Nat} {l : List α} (h : d.R e w base ok (.slice (some ⟨g, 0, none⟩) n c) l) {i : Nat} {x : α} (hi : l[i]? = some x) :
    (∀ j u, (enc x)[j]? = some u → w.cell? ⟨g, i * k + j, none⟩ = some u) ∧ ∀ o, w.frozen? ⟨g, o, none⟩ = false := by
  constructor
  · obtain ⟨A, c', he, _, hC⟩ := Kd.R_reads h
    injection he with hA hn hc
    subst hA
    have hil := (List.getElem?_eq_some_iff.1 hi).1
    obtain ⟨ad, e2, hcell⟩ := hC.2.2 (by omega)
    injection e2 with e2
    subst e2
    obtain ⟨cs, h1, h2, h3⟩ := hcell i x hi
    intro j u hu
    rw [hK _ _ _ h2] at h3
    have := h3 j u hu
    rw [hsz] at this
    rwa [add_plain] at this
  · intro o
    obtain ⟨inner, ho⟩ := Kd.R_own h
    obtain ⟨cells, hc⟩ := own_typed ho g rfl
    exact blk_frozen hc o
end Go.Proofs.Ytfcpebjjcijgcaa.G
-- unicodetext/groups.Order: by hand
namespace Go.Proofs.Ytfcpebjjcijgcaa.G
open Go.RowKit Go.Proofs.YtfcpebjjcijgcaaW.PrintWords Go.Proofs.YtfcpebjjcijgcaaW.PrintLast Go.Proofs.YtfcpebjjcijgcaaW.PrintMore
attribute [local go_sem] max2_int min2_int max_two min_two max_three min_three max_four min_four   -- for this text's walks alone
set_option linter.unusedVariables false
set_option linter.unusedSimpArgs false
-- BY HAND: function 12 (groups_Order)
theorem zero_int (w : World) : (zeroValue 3).run Try.prog w = .ok (.int .i64 0) w := by kernel_rfl
/-- What a group's cells are. -/
def encG (g : S36) : List Value := [.string g.f0, .int .i64 g.f1, .int .i64 g.f2]
set_option maxHeartbeats 1000000 in
/-- The comparison: what the map holds of the two names. -/
theorem order_cmp (W : World) (gK gM n : Nat) (f : Lit → Option Value) (x y : S36) (a b : Int) (hx : x.f0.size ≤ maxLen) (hy : y.f0.size ≤ maxLen) (hc : W.cell? ⟨gK, 0, none⟩ = some (.map (some gM))) (hm : MapV Try.prog 9 W gM n f)
    (ha : (f (sk x.f0)).getD (.int .i64 0) = .int .i64 a) (hb : (f (sk y.f0)).getD (.int .i64 0) = .int .i64 b) :
    Calls Try.prog 26 #[.agg (encG x).toArray, .agg (encG y).toArray, .pointer (some ⟨gK, 0, none⟩)] W fun e w' => e = .returned (.int .i64 (wrap64 (a - b))) ∧ w' = (W.alloc (.cells (encG x).toArray 36)).alloc (.cells (encG y).toArray 36) := by
  unfold encG
  have hkx := Aside0.mk (keyOf_sk (P := Try.prog) Try.underlying9 hx)
  have hky := Aside0.mk (keyOf_sk (P := Try.prog) Try.underlying9 hy)
  have HA := Aside0.mk ha
  have HB := Aside0.mk hb
  have hc2 : ((W.alloc (.cells #[.string x.f0, .int .i64 x.f1, .int .i64 x.f2] 36)).alloc (.cells #[.string y.f0, .int .i64 y.f1, .int .i64 y.f2] 36)).cell? ⟨gK, 0, none⟩ = some (.map (some gM)) := pw_cell_below (below_alloc (below_alloc (Below.refl _ _) _) _) hc
  have HM := Aside0.mk ((hm.alloc (.cells #[.string x.f0, .int .i64 x.f1, .int .i64 x.f2] 36)).alloc (.cells #[.string y.f0, .int .i64 y.f1, .int .i64 y.f2] 36))
  have tok : True := trivial
  clear ha hb hx hy hc hm
  show Calls Try.prog 26 #[.agg #[.string x.f0, .int .i64 x.f1, .int .i64 x.f2], .agg #[.string y.f0, .int .i64 y.f1, .int .i64 y.f2], .pointer (some ⟨gK, 0, none⟩)] W _
  go_enter Try.func26, Try.ntmps26
  go_wp2_with (first | ((with_reducible refine gate_dst (N := 9) rfl ?_); refine wpl_look rfl _ _ 53 rfl 3 strK Try.underlying53 (zero_int _) rfl HM.out _ (sk x.f0) rfl hkx.out _ HA.out ?_) | ((with_reducible refine gate_dst (N := 13) rfl ?_); refine wpl_look rfl _ _ 53 rfl 3 strK Try.underlying53 (zero_int _) rfl HM.out _ (sk y.f0) rfl hky.out _ HB.out ?_))
  go_ret
  exact ⟨rfl, rfl⟩
/-- A name's key, if the groups have it. -/
def keyI (names : List ByteArray) (l : List S36) (i : Nat) : Nat := if memB (l.getD i z36).f0 (nms l) = true then idxN names (l.getD i z36).f0 else 0
theorem getD_size {l : List S36} (hf : fits l = true) (i : Nat) : (l.getD i z36).f0.size ≤ 9223372036854775807 := by
  rw [List.getD_eq_getElem?_getD]
  rcases Nat.lt_or_ge i l.length with h | h
  · rw [List.getElem?_eq_getElem h]
    exact fits_size hf (List.getElem_mem h)
  · rw [List.getElem?_eq_none h]
    exact Nat.zero_le _
theorem k_enc {w : World} {base : Nat} {ok : Nat → Prop} {x : S36} {cs : List Value} (h : k36.M w base ok x cs) : cs = encG x := k36_openM h
set_option maxHeartbeats 1000000 in
theorem order_sort (names : List ByteArray) (l : List S36) (hn : names.length ≤ 1099511627776) (hf : fits l = true) (hl : l.length < 20) (W : World) (gM gK n base : Nat) (v0 : Value) (hR : Kd.R k36 36 W base (fun _ => True) v0 l)
    (hk : W.heap[gK]? = some (.cells #[.map (some gM)] 53 (0, 0))) (hm : MapV Try.prog 9 W gM n (mapOf l (fun s => .int .i64 (idxN names s)))) :
    Calls Try.prog 25 #[v0, .func (.func 26) #[] #[.pointer (some ⟨gK, 0, none⟩)]] W fun e w' => e = .returned (.tuple #[]) ∧ Kd.R k36 36 w' base (fun _ => True) v0 (sortG names l) ∧ W.grownBy w' v0.ownBlock := by
  rcases Nat.eq_zero_or_pos l.length with h0 | h0
  · obtain rfl := List.eq_nil_of_length_eq_zero h0
    obtain ⟨A, c, rfl, _⟩ := Kd.R_reads hR
    refine (api_Group_25.small A 0 c _ (by omega) W (fun w' => w' = W) (api_Group_51.none A c _ W)).mono ?_
    rintro e w' ⟨rfl, rfl⟩
    exact ⟨rfl, by have : sortG names [] = [] := by simp [sortG, bucket]
                   rw [this]; exact hR, World.grownBy.refl _ _⟩
  · obtain ⟨g, c, rfl, hbg⟩ := Kd.R_at hR h0
    obtain ⟨hlt, _, hH⟩ := Kd.sort_holds (d := k36) (enc := encG) (k := 3) (fun _ => rfl) rfl (fun _ _ _ _ _ h => k_enc h) z36 hR
    have hne1 : gK ≠ g := fun e => Kd.R_ne hR hk (by decide) (by rw [e]; rfl)
    have hne2 : gM ≠ g := by
      obtain ⟨inner, ho⟩ := Kd.R_own hR
      obtain ⟨cells, hc⟩ := own_typed ho g rfl
      exact hm.ne_cells hc
    refine (api_Group_25.small (some ⟨g, 0, none⟩) l.length c _ hl W (fun w' => ∃ m os, w' = Go.Proofs.sortWorldK (fun i : Nat => encG (l.getD i z36)) 3 W g 0 m (Sort.insertionSort (Go.Proofs.ltOf fun i j => wrap64 ((keyI names l i : Int) - (keyI names l j : Int))) (Array.range l.length) 0 l.length) os) ?_).mono ?_
    · have hcmp : Go.Proofs.CmpLays Try.prog 26 #[.pointer (some ⟨gK, 0, none⟩)] (fun i : Nat => encG (l.getD i z36)) 3 (fun i j => wrap64 ((keyI names l i : Int) - (keyI names l j : Int))) g 0 (Array.range l.length).size W := by
        intro m os dk _ x y
        have hkk : (Go.Proofs.sortWorldK (fun i : Nat => encG (l.getD i z36)) 3 W g 0 m dk os).cell? ⟨gK, 0, none⟩ = some (.map (some gM)) := (blk_cell ((Kd.sort_other hne1 (blk_lt hk)).trans hk) 0).trans rfl
        have hmm := hm.move (Kd.sort_other (enc := fun i : Nat => encG (l.getD i z36)) (k := 3) (off := 0) (m := m) (dk := dk) (os := os) hne2 hm.lt)
        have hv : ∀ i : Nat, (mapOf l (fun s => .int .i64 (idxN names s)) (sk (l.getD i z36).f0)).getD (.int .i64 0) = .int .i64 (keyI names l i) := by
          intro i
          rw [mapOf_sk]
          unfold keyI
          split <;> rfl
        refine (order_cmp _ gK gM n _ (l.getD x z36) (l.getD y z36) (keyI names l x) (keyI names l y) (Nat.le_trans (getD_size hf x) (by unfold maxLen; omega)) (Nat.le_trans (getD_size hf y) (by unfold maxLen; omega)) hkk hmm (hv x) (hv y)).mono ?_
        rintro e w' ⟨rfl, rfl⟩
        refine ⟨rfl, 0, #[.cells (encG (l.getD x z36)).toArray 36 (0, 0), .cells (encG (l.getD y z36)).toArray 36 (0, 0)], ?_⟩
        rw [Sort.alloc_eq_grow, Sort.alloc_eq_grow, Sort.grow_grow]
        rfl
      have hins := Go.Proofs.AnyQ.insertionSortCmpFunc api_Group_51.lay 3 Try.isAgg36 Try.sizeOf36 (fun i : Nat => encG (l.getD i z36)) (fun _ => rfl) (fun i v hv => by simp [encG] at hv; rcases hv with rfl | rfl | rfl <;> rfl) (fun i j => wrap64 ((keyI names l i : Int) - (keyI names l j : Int))) 26 #[.pointer (some ⟨gK, 0, none⟩)] g 0 c 0 l.length (Array.range l.length) W (enters_of Try.func26 (by kernel_rfl) rfl) hcmp hH hlt (Nat.zero_le _) (by simp) (by simp; omega)
      rw [Array.size_range] at hins
      exact hins
    · rintro e w' ⟨rfl, m, os, rfl⟩
      have hkb : ∀ i, keyI names l i ≤ names.length := fun i => by
        unfold keyI
        split
        · exact idxN_le _ _
        · omega
      have hlo : (Go.Proofs.ltOf fun i j => wrap64 ((keyI names l i : Int) - (keyI names l j : Int))) = fun i j => decide (keyI names l i < keyI names l j) := by
        funext i j
        have h1 := hkb i
        have h2 := hkb j
        show decide (wrap64 ((keyI names l i : Int) - (keyI names l j : Int)) < 0) = decide (keyI names l i < keyI names l j)
        rw [show wrap64 ((keyI names l i : Int) - (keyI names l j : Int)) = (keyI names l i : Int) - (keyI names l j : Int) by unfold wrap64; omega, Bool.eq_iff_iff]
        simp
        omega
      have hsl : (Sort.insertionSort (Go.Proofs.ltOf fun i j => wrap64 ((keyI names l i : Int) - (keyI names l j : Int))) (Array.range l.length) 0 l.length).toList = bucket (keyI names l) (names.length + 1) (List.range l.length) := by
        have := insertionSort_list (Go.Proofs.ltOf fun i j => wrap64 ((keyI names l i : Int) - (keyI names l j : Int))) (Array.range l.length)
        rw [Array.size_range] at this
        rw [this, hlo, Array.toList_range, foldl_bucket (keyI names l) (names.length + 1) _ (fun x _ => Nat.lt_succ_of_le (hkb x))]
      have hfin : ((Sort.insertionSort (Go.Proofs.ltOf fun i j => wrap64 ((keyI names l i : Int) - (keyI names l j : Int))) (Array.range l.length) 0 l.length).toList.map fun i => l.getD i z36) = sortG names l := by
        rw [hsl, bucket_congr (key' := fun i => idxN names (l.getD i z36).f0) (names.length + 1) (fun x hx => ?_), bucket_map (fun i => l.getD i z36) (fun g => idxN names g.f0), range_getD]
        · rfl
        · have hx2 := List.mem_range.1 hx
          unfold keyI
          rw [if_pos]
          rw [memB_iff]
          unfold nms
          refine List.mem_map.2 ⟨_, ?_, rfl⟩
          rw [List.getD_eq_getElem?_getD, List.getElem?_eq_getElem hx2]
          exact List.getElem_mem _
      have hsz : (Sort.insertionSort (Go.Proofs.ltOf fun i j => wrap64 ((keyI names l i : Int) - (keyI names l j : Int))) (Array.range l.length) 0 l.length).size = l.length := by
        have h1 := congrArg List.length hsl
        rw [Array.length_toList] at h1
        rw [h1, ← foldl_bucket (keyI names l) (names.length + 1) _ (fun x _ => Nat.lt_succ_of_le (hkb x))]
        have : ∀ (u s : List Nat) (lt : Nat → Nat → Bool), (u.foldl (fun acc x => insL lt x acc) s).length = s.length + u.length := by
          intro u
          induction u with
          | nil => intro s lt; rfl
          | cons x u ih =>
            intro s lt
            rw [List.foldl_cons, ih]
            unfold insL
            rw [List.length_reverse, insRev_length, List.length_reverse, List.length_cons]
            omega
        rw [this]
        simp
      refine ⟨rfl, ?_, Kd.sort_grown W g 0 m _ os⟩
      have hd := Kd.sort_done (d := k36) (enc := encG) (k := 3) (fun _ => rfl) (by decide) rfl (fun _ _ _ x => k36_mkM _ _ _ x) z36 hR m (Sort.insertionSort (Go.Proofs.ltOf fun i j => wrap64 ((keyI names l i : Int) - (keyI names l j : Int))) (Array.range l.length) 0 l.length) hsz os
      rw [hfin] at hd
      exact hd
def groups_Order.f (k : Nat) (l0_0 : List (S49)) (l0_1 : List (S36)) (a0_2 : Int) (a0_3 : Int) (a0_4 : Int) (l1 : List ByteArray) : Option ((List (S36)) × Int) := (colltable_Check.f k l0_0 l0_1 a0_2 a0_3 a0_4).bind fun e => if e = 0 then (if fits l0_1 = true ∧ l0_1.length < 20 ∧ namesFit l1 = true then some (ordP l0_1 l1) else none) else some ([], e)
set_option maxHeartbeats 1000000 in
theorem groups_Order.calls (k : Nat) (A0_0 : Option Addr) (c0_0 : Nat) (l0_0 : List (S49)) (A0_1 : Option Addr) (c0_1 : Nat) (l0_1 : List (S36)) (a0_2 : Int) (a0_3 : Int) (a0_4 : Int) (A1 : Option Addr) (c1 : Nat) (l1 : List ByteArray) (r1 : List (S36)) (r2 : Int) (w : World) (hr0_0 : Kd.C k49 w A0_0 l0_0.length l0_0) (hc0_0 : l0_0.length ≤ c0_0) (hr0_1 : Kd.C k36 w A0_1 l0_1.length l0_1) (hc0_1 : l0_1.length ≤ c0_1) (hr1 : Kd.C Kd.string w A1 l1.length l1) (hc1 : l1.length ≤ c1) (h : groups_Order.f k l0_0 l0_1 a0_2 a0_3 a0_4 l1 = some (r1, r2)) :
  Calls Try.prog 12 #[.agg #[.slice A0_0 l0_0.length c0_0, .slice A0_1 l0_1.length c0_1, .int .i64 a0_2, .int .i64 a0_3, .int .i64 a0_4], .slice A1 l1.length c1] w fun e w' => ∃ v0_ : Value, e = .returned (.tuple #[v0_, .int .i64 r2]) ∧ Kd.R k36 36 w' w.heap.size (fun _ => True) v0_ r1 ∧ Below w.heap.size w w' := by
 unfold groups_Order.f at h
 obtain ⟨e0, hE, h⟩ := Option.bind_eq_some_iff.mp h
 have HE := Aside0.mk hE
 have H := Aside0.mk h
 have HR0 := Aside0.mk hr0_0
 have HC0 := Aside0.mk hc0_0
 have HR1 := Aside0.mk hr0_1
 have HC1 := Aside0.mk hc0_1
 have HRN := Aside0.mk hr1
 have hmm := @run_makeMap Try.prog
 clear hE h hr0_0 hc0_0 hr0_1 hc0_1 hr1 hc1
 go_enter Try.func12, Try.ntmps12
 go_wp2_with fail
 have hb0 : Below w.heap.size w (w.alloc (.cells #[.slice A0_0 l0_0.length c0_0, .slice A0_1 l0_1.length c0_1, .int .i64 a0_2, .int .i64 a0_3, .int .i64 a0_4] 25)) := below_alloc (Below.refl _ _) _
 have hk0 := blk_new w (.cells #[.slice A0_0 l0_0.length c0_0, .slice A0_1 l0_1.length c0_1, .int .i64 a0_2, .int .i64 a0_3, .int .i64 a0_4] 25)
 refine (colltable_Check.calls k _ _ l0_0 _ _ l0_1 a0_2 a0_3 a0_4 e0 _ (Kd.C_below HR0.out hb0) HC0.out (Kd.C_below HR1.out hb0) HC1.out HE.out).mono ?_
 rintro e w1 ⟨rfl, hbc⟩
 have HB := Aside0.mk (below_step hb0 hbc)
 have HBK := Aside0.mk (blk_below hk0 hbc)
 clear hb0 hk0 hbc
 by_cases he : e0 = 0
 ·have H2 := Aside0.mk (by have h := H.out; rw [if_pos he] at h; exact h)
  clear H
  subst he
  obtain ⟨hcond, H3⟩ : (fits l0_1 = true ∧ l0_1.length < 20 ∧ namesFit l1 = true) ∧ ordP l0_1 l1 = (r1, r2) := by
   have h := H2.out
   split at h
   ·rename_i hc
    exact ⟨hc, Option.some.inj h⟩
   ·cases h
  have HF := Aside0.mk hcond.1
  have HL := Aside0.mk hcond.2.1
  have HNF := Aside0.mk hcond.2.2
  have HRES := Aside0.mk H3
  have hln := fits_len HF.out
  have hnn := namesFit_len HNF.out
  have hw1 : w.heap.size < w1.heap.size := blk_lt HBK.out
  clear H2 H3 hcond
  have hca : ((w1.alloc (.map #[] 0)).alloc (.cells #[.map (some w1.heap.size)] 53)).cell? ⟨w.heap.size, 1, none⟩ = some (.slice A0_1 l0_1.length c0_1) := (blk_cell (blk_alloc (blk_alloc HBK.out _) _) 1).trans rfl
  go_wp2
  -- the map's first round: each name at the number of names
  go_loopg [29] l0_1.length (fun g v29 w' => ∃ x : Nat, v29 = .int .i64 x ∧ Aside0 (g = l0_1.length - x ∧ x ≤ l0_1.length) ∧ Aside0 (MapV Try.prog 9 w' w1.heap.size x (mapOf (l0_1.take x) (fun _ => .int .i64 l1.length))) ∧ Aside0 (w'.heap[w1.heap.size + 1]? = some (.cells #[.map (some w1.heap.size)] 53 (0, 0))) ∧ Aside0 (w'.heap[w.heap.size]? = some (.cells #[.slice A0_0 l0_0.length c0_0, .slice A0_1 l0_1.length c0_1, .int .i64 a0_2, .int .i64 a0_3, .int .i64 a0_4] 25 (0, 0))) ∧ Aside0 (Below w.heap.size w w'))
  case atStart =>
   refine ⟨0, rfl, ⟨by simp, by omega⟩, ⟨?_⟩, ⟨?_⟩, ⟨blk_alloc (blk_alloc HBK.out _) _⟩, ⟨below_alloc (below_alloc HB.out _) _⟩⟩
   ·rw [List.take_zero, mapOf_nil]
    exact (MapV.made w1 Try.prog 9).alloc _
   ·have := blk_new (w1.alloc (.map #[] 0)) (.cells #[.map (some w1.heap.size)] 53)
    simpa using this
  clear hca HB HBK
  case round =>
   obtain ⟨x, rfl, HG, HM, HVK, HBK, HB⟩ := hrel
   by_cases hlt : x < l0_1.length
   ·have hltz : (x : Int) < (l0_1.length : Int) := by omega
    have p0 : 0 ≤ (x : Int) := by omega
    obtain ⟨ad, e, hx0, hx1, hx2⟩ := at_T36 HR1.out (x : Int) p0 hltz
    cases e
    replace hx0 := pw_cell_below HB.out hx0
    replace hx1 := pw_cell_below HB.out hx1
    replace hx2 := pw_cell_below HB.out hx2
    have hs := fits_size HF.out (rd_mem p0 hltz)
    have htk := take_rd p0 hltz
    rw [show ((x : Int) + 1).toNat = x + 1 by omega, Int.toNat_natCast] at htk
    have HTK := Aside0.mk htk
    obtain ⟨gx, hgx⟩ : ∃ gx, rd_T36 l0_1 (x : Int) = gx := ⟨_, rfl⟩
    rw [hgx] at hx0 hx1 hx2 hs HTK
    rw [Int.toNat_natCast] at hx0 hx1 hx2
    clear hgx htk
    have hkey := Aside0.mk (keyOf_sk (P := Try.prog) Try.underlying9 (s := gx.f0) (by unfold maxLen; omega))
    have hxm : x < maxLen := by unfold maxLen; omega
    have hcK : (wr.alloc (Obj.cells #[Value.string gx.f0, Value.int IntKind.i64 gx.f1, Value.int IntKind.i64 gx.f2] 36)).cell? ⟨w1.heap.size + 1, 0, none⟩ = some (.map (some w1.heap.size)) := (blk_cell (blk_alloc HVK.out _) 0).trans rfl
    have HM' := Aside0.mk (HM.out.alloc (Obj.cells #[Value.string gx.f0, Value.int IntKind.i64 gx.f1, Value.int IntKind.i64 gx.f2] 36))
    have HVK' := Aside0.mk (blk_alloc HVK.out (Obj.cells #[Value.string gx.f0, Value.int IntKind.i64 gx.f1, Value.int IntKind.i64 gx.f2] 36))
    have HBK' := Aside0.mk (blk_alloc HBK.out (Obj.cells #[Value.string gx.f0, Value.int IntKind.i64 gx.f1, Value.int IntKind.i64 gx.f2] 36))
    have HB' := Aside0.mk (below_alloc HB.out (Obj.cells #[Value.string gx.f0, Value.int IntKind.i64 gx.f1, Value.int IntKind.i64 gx.f2] 36))
    clear hs
    go_wp2_with (at_mapUpdate; refine wpl_put rfl _ _ _ 53 rfl 3 strK Try.underlying53 rfl HM'.out hxm _ _ (sk gx.f0) rfl rfl hkey.out ?_; intro w3 hm3 hg3; have HM3 := Aside0.mk hm3; have HG3 := Aside0.mk hg3; clear hm3 hg3)
    go_roundg (l0_1.length - (x + 1))
    case measure => have := HG.out; omega
    case rel =>
     refine ⟨x + 1, by go_num, ⟨rfl, by omega⟩, ⟨?_⟩, ⟨(HG3.out.block _ (blk_lt HVK'.out) (by simp)).trans HVK'.out⟩, ⟨(HG3.out.block _ (blk_lt HBK'.out) (fun e => by injection e with e; omega)).trans HBK'.out⟩, ⟨HB'.out.grown HG3.out (Nat.le_of_lt (blk_lt HBK'.out)) (fun j hj => by injection hj with hj; omega)⟩⟩
     rw [HTK.out, ← mapOf_snoc]
     exact HM3.out
   ·have hxe : x = l0_1.length := by have := HG.out; omega
    subst hxe
    rw [List.take_length] at HM
    have hv0 : (fun _ : ByteArray => Value.int .i64 (l1.length : Int)) = fun s => Value.int .i64 (valN l1 0 s) := by funext s; rw [valN_zero]
    rw [hv0] at HM
    clear hv0 hlt HG
    go_wp2
    -- is each name there?
    go_loopg [41] l1.length (fun g v41 w' => ∃ x : Nat, v41 = .int .i64 x ∧ Aside0 (g = l1.length - x ∧ x ≤ l1.length ∧ ∀ s, s ∈ l1.take x → memB s (nms l0_1) = true) ∧ Aside0 (MapV Try.prog 9 w' w1.heap.size l0_1.length (mapOf l0_1 (fun s => .int .i64 (valN l1 0 s)))) ∧ Aside0 (w'.heap[w1.heap.size + 1]? = some (.cells #[.map (some w1.heap.size)] 53 (0, 0))) ∧ Aside0 (w'.heap[w.heap.size]? = some (.cells #[.slice A0_0 l0_0.length c0_0, .slice A0_1 l0_1.length c0_1, .int .i64 a0_2, .int .i64 a0_3, .int .i64 a0_4] 25 (0, 0))) ∧ Aside0 (Below w.heap.size w w'))
    case atStart => exact ⟨0, rfl, ⟨by simp, by omega, fun s hs => by simp at hs⟩, HM, HVK, HBK, HB⟩
    clear HM HVK HBK HB
    case round =>
     obtain ⟨x, rfl, HG, HM, HVK, HBK, HB⟩ := hrel
     have hcK : wr.cell? ⟨w1.heap.size + 1, 0, none⟩ = some (.map (some w1.heap.size)) := (blk_cell HVK.out 0).trans rfl
     by_cases hlt : x < l1.length
     ·have hltz : (x : Int) < (l1.length : Int) := by omega
      have p0 : 0 ≤ (x : Int) := by omega
      obtain ⟨ad, e, hx0⟩ := Kd.at_string HRN.out (x : Int) p0 hltz
      cases e
      replace hx0 := pw_cell_below HB.out hx0
      have hnx : rdOf ByteArray.empty l1 (x : Int) = l1[x] := by
       unfold rdOf
       rw [Int.toNat_natCast, List.getD_eq_getElem?_getD, List.getElem?_eq_getElem hlt]
       rfl
      rw [hnx, Int.toNat_natCast] at hx0
      have hs := namesFit_size HNF.out (List.getElem_mem hlt)
      have HTN := Aside0.mk (take_name hlt)
      have HMEM := Aside0.mk (List.getElem_mem hlt)
      obtain ⟨nm, hnm⟩ : ∃ nm, l1[x] = nm := ⟨_, rfl⟩
      rw [hnm] at hx0 hs HTN HMEM
      clear hnx hnm
      have hkey := Aside0.mk (keyOf_sk (P := Try.prog) Try.underlying9 (s := nm) (by unfold maxLen; omega))
      obtain ⟨b, hb⟩ : ∃ b, memB nm (nms l0_1) = b := ⟨_, rfl⟩
      have hmo := mapOf_sk l0_1 (fun s => .int .i64 (valN l1 0 s)) nm
      rw [hb, valN_zero] at hmo
      have HMO := Aside0.mk hmo
      have HBN := Aside0.mk hb
      clear hb hmo hs
      cases b with
      | false =>
       have HO1 := Aside0.mk (show (mapOf l0_1 (fun s => .int .i64 (valN l1 0 s)) (sk nm)).getD (.int .i64 0) = .int .i64 0 by rw [HMO.out]; rfl)
       have HO2 := Aside0.mk (show (mapOf l0_1 (fun s => .int .i64 (valN l1 0 s)) (sk nm)).isSome = false by rw [HMO.out]; rfl)
       go_wp2_with (at_lookup; refine wpl_look_ok rfl _ _ 53 rfl 3 strK Try.underlying53 (zero_int _) rfl HM.out _ (sk nm) rfl hkey.out _ _ HO1.out HO2.out ?_)
       go_ret2
       obtain ⟨rfl, rfl⟩ : [] = r1 ∧ (6 : Int) = r2 := by
        have h := HRES.out
        unfold ordP at h
        rw [if_pos (List.any_eq_true.2 ⟨nm, HMEM.out, by rw [HBN.out]; rfl⟩)] at h
        exact ⟨congrArg Prod.fst h, congrArg Prod.snd h⟩
       exact ⟨_, rfl, Kd.R_nil _ _ _ _ _, HB.out⟩
      | true =>
       have HO1 := Aside0.mk (show (mapOf l0_1 (fun s => .int .i64 (valN l1 0 s)) (sk nm)).getD (.int .i64 0) = .int .i64 l1.length by rw [HMO.out]; rfl)
       have HO2 := Aside0.mk (show (mapOf l0_1 (fun s => .int .i64 (valN l1 0 s)) (sk nm)).isSome = true by rw [HMO.out]; rfl)
       go_wp2_with (at_lookup; refine wpl_look_ok rfl _ _ 53 rfl 3 strK Try.underlying53 (zero_int _) rfl HM.out _ (sk nm) rfl hkey.out _ _ HO1.out HO2.out ?_)
       go_roundg (l1.length - (x + 1))
       case measure => have := HG.out; omega
       case rel =>
        refine ⟨x + 1, by go_num, ⟨rfl, by omega, fun s hs => ?_⟩, HM, HVK, HBK, HB⟩
        rw [HTN.out] at hs
        rcases List.mem_append.1 hs with hs | hs
        ·exact HG.out.2.2 s hs
        ·rw [List.mem_singleton.1 hs]; exact HBN.out
     ·have hall : ∀ s, s ∈ l1 → memB s (nms l0_1) = true := fun s hs => HG.out.2.2 s (by rw [List.take_of_length_le (by omega)]; exact hs)
      have HALL := Aside0.mk hall
      have HNA : Aside0 (l1.any (fun s => !memB s (nms l0_1)) = false) := ⟨List.any_eq_false.2 fun s hs => by rw [hall s hs]; simp⟩
      clear hall HG
      go_wp2
      -- does a name stand twice?
      go_loopg [56] l1.length (fun g v56 w' => ∃ x : Nat, v56 = .int .i64 x ∧ Aside0 (g = l1.length - x ∧ x ≤ l1.length ∧ (l1.take x).Nodup) ∧ Aside0 (MapV Try.prog 9 w' w1.heap.size (l0_1.length + x) (mapOf l0_1 (fun s => .int .i64 (valN l1 x s)))) ∧ Aside0 (w'.heap[w1.heap.size + 1]? = some (.cells #[.map (some w1.heap.size)] 53 (0, 0))) ∧ Aside0 (w'.heap[w.heap.size]? = some (.cells #[.slice A0_0 l0_0.length c0_0, .slice A0_1 l0_1.length c0_1, .int .i64 a0_2, .int .i64 a0_3, .int .i64 a0_4] 25 (0, 0))) ∧ Aside0 (Below w.heap.size w w'))
      case atStart => exact ⟨0, rfl, ⟨by simp, by omega, by simp⟩, HM, HVK, HBK, HB⟩
      clear HM HVK HBK HB hcK hlt
      case round =>
       obtain ⟨x, rfl, HG, HM, HVK, HBK, HB⟩ := hrel
       have hcK : wr.cell? ⟨w1.heap.size + 1, 0, none⟩ = some (.map (some w1.heap.size)) := (blk_cell HVK.out 0).trans rfl
       by_cases hlt : x < l1.length
       ·have hltz : (x : Int) < (l1.length : Int) := by omega
        have p0 : 0 ≤ (x : Int) := by omega
        obtain ⟨ad, e, hx0⟩ := Kd.at_string HRN.out (x : Int) p0 hltz
        cases e
        replace hx0 := pw_cell_below HB.out hx0
        have hnx : rdOf ByteArray.empty l1 (x : Int) = l1[x] := by
         unfold rdOf
         rw [Int.toNat_natCast, List.getD_eq_getElem?_getD, List.getElem?_eq_getElem hlt]
         rfl
        rw [hnx, Int.toNat_natCast] at hx0
        have hs := namesFit_size HNF.out (List.getElem_mem hlt)
        have HTN := Aside0.mk (take_name hlt)
        have HMEM := Aside0.mk (List.getElem_mem hlt)
        have hst := fun h => valN_step hlt h
        obtain ⟨nm, hnm⟩ : ∃ nm, l1[x] = nm := ⟨_, rfl⟩
        rw [hnm] at hx0 hs HTN HMEM hst
        have HST := Aside0.mk hst
        clear hnx hnm hst
        have hkey := Aside0.mk (keyOf_sk (P := Try.prog) Try.underlying9 (s := nm) (by unfold maxLen; omega))
        have hmem := HALL.out nm HMEM.out
        have hmo := mapOf_sk l0_1 (fun s => .int .i64 (valN l1 x s)) nm
        rw [if_pos hmem] at hmo
        have hdc := valN_lt (names := l1) (i := x) (s := nm)
        obtain ⟨b, hb⟩ : ∃ b, memB nm (l1.take x) = b := ⟨_, rfl⟩
        rw [hb] at hdc
        obtain ⟨q, hq⟩ : ∃ q, valN l1 x nm = q := ⟨_, rfl⟩
        rw [hq] at hdc hmo
        have HO1 := Aside0.mk (show (mapOf l0_1 (fun s => .int .i64 (valN l1 x s)) (sk nm)).getD (.int .i64 0) = .int .i64 q by rw [hmo]; rfl)
        have HBN := Aside0.mk hb
        have HMM := Aside0.mk hmem
        have hxm : l0_1.length + x < maxLen := by unfold maxLen; omega
        clear hb hmo hs hmem hq
        cases b with
        | true =>
         go_wp2_with (at_lookup; refine wpl_look rfl _ _ 53 rfl 3 strK Try.underlying53 (zero_int _) rfl HM.out _ (sk nm) rfl hkey.out _ HO1.out ?_)
         go_ret2
         obtain ⟨rfl, rfl⟩ : [] = r1 ∧ (5 : Int) = r2 := by
          have h := HRES.out
          unfold ordP at h
          have hnd : ¬ l1.Nodup := fun hn => by
           have h2 : (l1.take (x + 1)).Nodup := hn.sublist (List.take_sublist _ _)
           rw [HTN.out, List.nodup_append] at h2
           exact h2.2.2 nm (memB_iff.1 HBN.out) nm (by simp) rfl
          rw [HNA.out, if_neg (by simp), if_pos (by simp [hnd])] at h
          exact ⟨congrArg Prod.fst h, congrArg Prod.snd h⟩
         exact ⟨_, rfl, Kd.R_nil _ _ _ _ _, HB.out⟩
        | false =>
         go_wp2_with (first | (at_lookup; refine wpl_look rfl _ _ 53 rfl 3 strK Try.underlying53 (zero_int _) rfl HM.out _ (sk nm) rfl hkey.out _ HO1.out ?_) | (at_mapUpdate; refine wpl_put rfl _ _ _ 53 rfl 3 strK Try.underlying53 rfl HM.out hxm _ _ (sk nm) rfl rfl hkey.out ?_; intro w3 hm3 hg3; have HM3 := Aside0.mk hm3; have HG3 := Aside0.mk hg3; clear hm3 hg3))
         go_roundg (l1.length - (x + 1))
         case measure => have := HG.out; omega
         case rel =>
          refine ⟨x + 1, by go_num, ⟨rfl, by omega, ?_⟩, ⟨?_⟩, ⟨(HG3.out.block _ (blk_lt HVK.out) (by simp)).trans HVK.out⟩, ⟨(HG3.out.block _ (blk_lt HBK.out) (fun e => by injection e with e; omega)).trans HBK.out⟩, ⟨HB.out.grown HG3.out (Nat.le_of_lt (blk_lt HBK.out)) (fun j hj => by injection hj with hj; omega)⟩⟩
          ·rw [HTN.out, List.nodup_append]
           refine ⟨HG.out.2.2, by simp, fun a ha b hb => ?_⟩
           rw [List.mem_singleton.1 hb]
           rintro rfl
           exact memB_false.1 HBN.out ha
          ·obtain ⟨h1, h2⟩ := HST.out HBN.out
           have h3 := mapOf_upd l0_1 (fun s => .int .i64 (valN l1 x s)) (fun s => .int .i64 (valN l1 (x + 1) s)) nm (.int .i64 (x : Int)) HMM.out (by rw [h1]) (fun s hs => by rw [h2 s hs])
           rw [← h3]
           exact HM3.out
       ·have hxe : x = l1.length := by have := HG.out; omega
        subst hxe
        have hvx : (fun s : ByteArray => Value.int .i64 (valN l1 l1.length s)) = fun s => Value.int .i64 (idxN l1 s) := by funext s; rw [valN_all]
        rw [hvx] at HM
        have hnd := HG.out.2.2
        rw [List.take_length] at hnd
        have HFIN : Aside0 (renum (rd_T36 l0_1 0).f1 (sortG l1 l0_1) = r1 ∧ (0 : Int) = r2) := ⟨by
         have h := HRES.out
         unfold ordP at h
         rw [HNA.out, if_neg (by simp), if_neg (by simp [hnd])] at h
         exact ⟨congrArg Prod.fst h, congrArg Prod.snd h⟩⟩
        have hca : wr.cell? ⟨w.heap.size, 1, none⟩ = some (.slice A0_1 l0_1.length c0_1) := (blk_cell HBK.out 1).trans rfl
        clear hvx hnd HG hlt hcK
        go_wp2_with fail
        refine (api_Group_24.calls A0_1 c0_1 l0_1 l0_1 _ (Kd.C_below HR1.out HB.out) HC1.out (by unfold api_Group_24.f; rw [if_pos (by have := HL.out; omega)])).mono ?_
        rintro e w2 ⟨v0, rfl, hR, hb2⟩
        have HR2 := Aside0.mk (Kd.R_lower hR HB.out.size)
        have HM2 := Aside0.mk (HM.out.below hb2)
        have HVK2 := Aside0.mk (blk_below HVK.out hb2)
        have HBK2 := Aside0.mk (blk_below HBK.out hb2)
        have HB2 := Aside0.mk (below_step HB.out hb2)
        clear hR hb2 HM HVK HBK HB hca
        go_wp2_with fail
        refine (order_sort l1 l0_1 hnn HF.out HL.out w2 w1.heap.size (w1.heap.size + 1) _ w.heap.size v0 HR2.out HVK2.out HM2.out).mono ?_
        rintro e w3 ⟨rfl, hR3, hg3⟩
        have HR3 := Aside0.mk hR3
        have HBK3 : Aside0 (w3.heap[w.heap.size]? = some (.cells #[.slice A0_0 l0_0.length c0_0, .slice A0_1 l0_1.length c0_1, .int .i64 a0_2, .int .i64 a0_3, .int .i64 a0_4] 25 (0, 0))) := ⟨(hg3.block _ (blk_lt HBK2.out) (Kd.R_ne HR2.out HBK2.out (by decide))).trans HBK2.out⟩
        have HB3 := Aside0.mk (HB2.out.grown hg3 HB2.out.size (Kd.R_base HR2.out))
        clear hR3 hg3 HR2 HM2 HVK2 HBK2 HB2
        have hsl := sortG_length l1 l0_1
        obtain ⟨S, hS⟩ : ∃ S, sortG l1 l0_1 = S := ⟨_, rfl⟩
        rw [hS] at HR3 HFIN hsl
        clear hS
        by_cases hz : l0_1.length = 0
        ·obtain ⟨A, c, rfl, _⟩ := Kd.R_reads HR3.out
         obtain rfl : S = [] := List.eq_nil_of_length_eq_zero (by omega)
         clear hsl hz
         go_wp2
         go_ret2
         obtain ⟨rfl, rfl⟩ := HFIN.out
         exact ⟨_, rfl, Kd.R_nil _ _ _ _ _, HB3.out⟩
        ·obtain ⟨gr, c, rfl, hgr⟩ := Kd.R_at HR3.out (by omega)
         have hnz : (S.length == 0) = false := beq_eq_false_iff_ne.2 (by omega)
         have hnz2 : ((S.length : Int) == 0) = false := beq_eq_false_iff_ne.2 (by omega)
         have hp0 : (0 : Int) < (l0_1.length : Int) := by omega
         have hp1 : 0 < l0_1.length := by omega
         obtain ⟨ad0, e, hz0, hz1, hz2⟩ := at_T36 HR1.out 0 (by omega) hp0
         cases e
         replace hz1 := pw_cell_below HB3.out hz1
         have hca : w3.cell? ⟨w.heap.size, 1, none⟩ = some (.slice (some ad0) l0_1.length c0_1) := (blk_cell HBK3.out 1).trans rfl
         have HSL := Aside0.mk hsl
         obtain ⟨a0, ha0⟩ : ∃ a0, (rd_T36 l0_1 0).f1 = a0 := ⟨_, rfl⟩
         rw [ha0] at hz1 HFIN
         rw [show ad0.add ((0 : Int).toNat * 3) = ad0 by unfold Addr.add; simp] at hz1
         clear hz hz0 hz2 hsl ha0
         go_wp2
         go_loopg [17, 87] S.length (fun g v17 v87 w' => ∃ (x : Nat) (p : Int) (dn : List S36), v17 = .int .i64 p ∧ v87 = .int .i64 x ∧ Aside0 (g = S.length - x ∧ x ≤ S.length ∧ dn.length = x ∧ renum a0 S = dn ++ renum p (S.drop x)) ∧ Aside0 (Kd.R k36 36 w' w.heap.size (fun _ => True) (.slice (some ⟨gr, 0, none⟩) S.length c) (dn ++ S.drop x)) ∧ Aside0 (Below w.heap.size w w'))
         case atStart => exact ⟨0, a0, [], rfl, rfl, ⟨by simp, by omega, rfl, rfl⟩, HR3, HB3⟩
         clear HR3 HB3 HBK3 hz1 hca
         case round =>
          obtain ⟨x, p, dn, rfl, rfl, HG, HR, HB⟩ := hrel
          have hxb : S.length < 20 := by have := HL.out; have := HSL.out; omega
          by_cases hlt : x < S.length
          ·have hltz : (x : Int) < (S.length : Int) := by omega
           have p0 : 0 ≤ (x : Int) := by omega
           have hcl : (dn ++ S.drop x).length = S.length := by rw [List.length_append, List.length_drop]; have := HG.out; omega
           have hgx : (dn ++ S.drop x)[x]? = some S[x] := by
            rw [List.getElem?_append_right (by have := HG.out; omega), List.getElem?_drop]
            rw [show x + (x - dn.length) = x by have := HG.out; omega, List.getElem?_eq_getElem hlt]
           obtain ⟨gx, hgx2⟩ : ∃ gx, S[x] = gx := ⟨_, rfl⟩
           rw [hgx2] at hgx
           have HSX := Aside0.mk hgx2
           obtain ⟨hcs, hfz⟩ := Kd.R_cells (d := k36) (enc := encG) (k := 3) rfl (fun _ _ _ h => k36_open h) HR.out hgx
           have HCS := Aside0.mk hcs
           have HGX := Aside0.mk hgx
           have hy0 : wr.cell? ⟨gr, x * 3, none⟩ = some (.string gx.f0) := hcs 0 _ rfl
           have hy1 : wr.cell? ⟨gr, x * 3 + 1, none⟩ = some (.int .i64 gx.f1) := hcs 1 _ rfl
           have hy2 : wr.cell? ⟨gr, x * 3 + 2, none⟩ = some (.int .i64 gx.f2) := hcs 2 _ rfl
           clear hcs hfz hgx hgx2
           go_wp2
           have HR5 := Aside0.mk (Kd.R_below HR.out (below_alloc (Below.refl _ _) (.cells #[.string gx.f0, .int .i64 gx.f1, .int .i64 gx.f2] 36)))
           have HB5 := Aside0.mk (below_alloc HB.out (.cells #[.string gx.f0, .int .i64 gx.f1, .int .i64 gx.f2] 36))
           have hcp := blk_new wr (.cells #[.string gx.f0, .int .i64 gx.f1, .int .i64 gx.f2] 36)
           generalize wr.alloc (.cells #[.string gx.f0, .int .i64 gx.f1, .int .i64 gx.f2] 36) = w5 at HR5 HB5 hcp ⊢
           obtain ⟨hcs, hfz⟩ := Kd.R_cells (d := k36) (enc := encG) (k := 3) rfl (fun _ _ _ h => k36_open h) HR5.out HGX.out
           have hd1 : w5.cell? ⟨wr.heap.size, 1, none⟩ = some (.int .i64 gx.f1) := (blk_cell hcp 1).trans rfl
           have hd2 : w5.cell? ⟨wr.heap.size, 2, none⟩ = some (.int .i64 gx.f2) := (blk_cell hcp 2).trans rfl
           have hz1 : w5.cell? ⟨gr, x * 3 + 1, none⟩ = some (.int .i64 gx.f1) := hcs 1 _ rfl
           have hz2 : w5.cell? ⟨gr, x * 3 + 2, none⟩ = some (.int .i64 gx.f2) := hcs 2 _ rfl
           have hf1 := hfz (x * 3 + 1)
           have hf2 := hfz (x * 3 + 2)
           have hne : wr.heap.size ≠ gr := fun e => by
            obtain ⟨inner, ho⟩ := Kd.R_own HR.out
            have := own_lt ho gr rfl
            omega
           have hne2 : gr ≠ wr.heap.size := fun e => hne e.symm
           clear hcs hfz hcp hy0 hy1 hy2
           go_region
           obtain ⟨q, hq⟩ : ∃ q, wrap64 (wrap64 (p + gx.f2) - gx.f1) = q := ⟨_, rfl⟩
           rw [hq]
           have hseg := Kd.R_seg (d := k36) (i := (x : Int)) (c := encG gx) (seg := [.int .i64 p, .int .i64 q]) (j := 1) (x' := (⟨gx.f0, p, q⟩ : S36)) (okp := fun k => k ≠ gr) HR5.out p0 hltz rfl (fun j u hu => by rw [Int.toNat_natCast]; exact (Kd.R_cells (d := k36) (enc := encG) (k := 3) rfl (fun _ _ _ h => k36_open h) HR5.out HGX.out).1 j u hu) (by show 1 + 2 ≤ 3; omega) (k36_mkM _ _ _ (⟨gx.f0, p, q⟩ : S36)) (fun k hk => ⟨trivial, hk⟩)
           rw [Int.toNat_natCast] at hseg
           obtain ⟨hr6, hg6⟩ := hseg
           have hr6' : Kd.R k36 36 ((w5.setCell ⟨gr, x * 3 + 1, none⟩ (.int .i64 p)).setCell ⟨gr, x * 3 + 2, none⟩ (.int .i64 q)).drew w.heap.size (fun _ => True) (.slice (some ⟨gr, 0, none⟩) S.length c) ((dn ++ S.drop x).set x ⟨gx.f0, p, q⟩) := hr6
           have hb6 : Below w.heap.size w ((w5.setCell ⟨gr, x * 3 + 1, none⟩ (.int .i64 p)).setCell ⟨gr, x * 3 + 2, none⟩ (.int .i64 q)).drew := below_drew (HB5.out.grown hg6 HB5.out.size (fun j hj => by injection hj with hj; omega))
           clear hr6 hg6 hd1 hd2 hz1 hz2 hf1 hf2
           generalize ((w5.setCell ⟨gr, x * 3 + 1, none⟩ (.int .i64 p)).setCell ⟨gr, x * 3 + 2, none⟩ (.int .i64 q)).drew = w6 at hr6' hb6 ⊢
           have hset : (dn ++ S.drop x).set x ⟨gx.f0, p, q⟩ = (dn ++ [⟨gx.f0, p, q⟩]) ++ S.drop (x + 1) := by
            rw [List.drop_eq_getElem_cons hlt, List.set_append_right _ _ (by have := HG.out; omega), show x - dn.length = 0 by have := HG.out; omega, List.set_cons_zero]
            simp
           have HRN : Aside0 (renum a0 S = (dn ++ [⟨gx.f0, p, q⟩]) ++ renum (wrap64 (q + 1)) (S.drop (x + 1))) := ⟨by
            rw [HG.out.2.2.2, List.drop_eq_getElem_cons hlt, HSX.out]
            simp only [renum, hq]
            simp⟩
           rw [hset] at hr6'
           have HR6 := Aside0.mk hr6'
           have HB6 := Aside0.mk hb6
           have hgy : ((dn ++ [(⟨gx.f0, p, q⟩ : S36)]) ++ S.drop (x + 1))[x]? = some ⟨gx.f0, p, q⟩ := by
            rw [List.getElem?_append_left (by simp; have := HG.out; omega), List.getElem?_append_right (by have := HG.out; omega), show x - dn.length = 0 by have := HG.out; omega]
            rfl
           have hcq : w6.cell? ⟨gr, x * 3 + 2, none⟩ = some (.int .i64 q) := (Kd.R_cells (d := k36) (enc := encG) (k := 3) rfl (fun _ _ _ h => k36_open h) HR6.out hgy).1 2 _ rfl
           clear hq hset hr6' hb6 hgy
           go_wp2
           go_roundg (S.length - (x + 1))
           case measure => have := HG.out; omega
           case rel => exact ⟨x + 1, wrap64 (q + 1), dn ++ [⟨gx.f0, p, q⟩], rfl, by go_num, ⟨rfl, by omega, by simp; have := HG.out; omega, HRN.out⟩, HR6, HB6⟩
          ·have hxe : x = S.length := by have := HG.out; omega
           have HD : Aside0 (dn ++ S.drop x = renum a0 S) := ⟨by rw [HG.out.2.2.2, hxe, List.drop_length]; simp [renum]⟩
           clear hxe
           go_wp2
           go_ret2
           obtain ⟨rfl, rfl⟩ := HFIN.out
           exact ⟨_, rfl, by have h := HR.out; rw [HD.out] at h; exact h, HB.out⟩
 ·have H2 := Aside0.mk (by have h := H.out; rw [if_neg he] at h; exact h)
  have he2 : (e0 != 0) = true := bne_iff_ne.2 he
  clear H
  go_wp2
  go_ret2
  obtain ⟨rfl, rfl⟩ : [] = r1 ∧ e0 = r2 := by
   have h := Option.some.inj H2.out
   exact ⟨congrArg Prod.fst h, congrArg Prod.snd h⟩
  exact ⟨_, rfl, Kd.R_nil _ _ _ _ _, HB.out⟩
end Go.Proofs.Ytfcpebjjcijgcaa.G
-- '==' of structs: printed by gprint.py
namespace Go.Proofs.Ytfcpebjjcijgcaa.G
open Go.RowKit Go.Proofs.YtfcpebjjcijgcaaW.PrintWords Go.Proofs.YtfcpebjjcijgcaaW.PrintLast Go.Proofs.YtfcpebjjcijgcaaW.PrintMore
attribute [local go_sem] max2_int min2_int max_two min_two max_three min_three max_four min_four   -- for this text's walks alone
set_option linter.unusedVariables false
set_option linter.unusedSimpArgs false
theorem eqA36 (d : Nat) (w : World) (x0 y0 : ByteArray) (x1 y1 : Int) (x2 y2 : Int) :
    (Op.equalIn (d + 2) 36 (.agg #[.string x0, .int .i64 x1, .int .i64 x2]) (.agg #[.string y0, .int .i64 y1, .int .i64 y2])).run Try.prog w = .ok (x0.toList == y0.toList && (x1 == y1 && (x2 == y2))) w := by
  refine eqA_of Try.underlying36 (by kernel_rfl) ?_
  refine eqf_cons (by rfl) (by go_simp; rfl) (by go_simp; rfl) (by go_simp) ?_
  refine eqf_cons (by rfl) (by go_simp; rfl) (by go_simp; rfl) (by go_simp) ?_
  exact eqf_last (by rfl) (by go_simp; rfl) (by go_simp; rfl) (by go_simp)
end Go.Proofs.Ytfcpebjjcijgcaa.G
-- unicodetext/unicodetextref47.SameGroups: printed by gprint.py
namespace Go.Proofs.Ytfcpebjjcijgcaa.G
open Go.RowKit Go.Proofs.YtfcpebjjcijgcaaW.PrintWords Go.Proofs.YtfcpebjjcijgcaaW.PrintLast Go.Proofs.YtfcpebjjcijgcaaW.PrintMore
attribute [local go_sem] max2_int min2_int max_two min_two max_three min_three max_four min_four   -- for this text's walks alone
set_option linter.unusedVariables false
set_option linter.unusedSimpArgs false
attribute [local go_sem high] eqA36
/-! ### unicodetextref47_SameGroups: function 14 -/
def unicodetextref47_SameGroups.l0 : Nat → List (S36) → List (S36) → Int → Option (Bool)
  | 0, _, _, _ => none
  | k + 1, x0, x1, x5 => if x5 < (x0.length : Int) then (if 0 ≤ x5 then (if x5 < (x1.length : Int) then (if (!((((rd_T36 x0 x5).f0).toList) == (((rd_T36 x1 x5).f0).toList)) || (!(((rd_T36 x0 x5).f1) == ((rd_T36 x1 x5).f1)) || (!(((rd_T36 x0 x5).f2) == ((rd_T36 x1 x5).f2))))) = true then (some false) else (unicodetextref47_SameGroups.l0 k x0 x1 (wrap64 (x5 + 1)))) else (none)) else (none)) else (some true)
def unicodetextref47_SameGroups.f (k : Nat) (l0 : List (S36)) (l1 : List (S36)) : Option (Bool) := if (l0.length : Int) = (l1.length : Int) then (unicodetextref47_SameGroups.l0 k l0 l1 0) else (some false)
set_option maxHeartbeats 8000000 in
set_option maxRecDepth 100000 in
theorem unicodetextref47_SameGroups.calls (k : Nat) (A0 : Option Addr) (c0 : Nat) (l0 : List (S36)) (A1 : Option Addr) (c1 : Nat) (l1 : List (S36)) (r : Bool) (w : World) (hr0 : Kd.C k36 w A0 l0.length l0) (hc0 : l0.length ≤ c0) (hr1 : Kd.C k36 w A1 l1.length l1) (hc1 : l1.length ≤ c1) (h : unicodetextref47_SameGroups.f k l0 l1 = some r) :
    Calls Try.prog 14 #[.slice A0 l0.length c0, .slice A1 l1.length c1] w fun e w' => e = .returned (.bool r) ∧ Drawn0 w w' := by
  have hu36 := Try.underlying36
  have HR0 := Aside0.mk hr0
  have HC0 := Aside0.mk hc0
  clear hr0 hc0
  have HR1 := Aside0.mk hr1
  have HC1 := Aside0.mk hc1
  clear hr1 hc1
  have H : (if (l0.length : Int) = (l1.length : Int) then (unicodetextref47_SameGroups.l0 k l0 l1 0) else (some false)) = some r := h
  clear h
  by_cases c3 : (l0.length : Int) = (l1.length : Int)
  · rw [if_pos c3] at H
    have c3b0 : ((l0.length : Int) == (l1.length : Int)) = true := beq_iff_eq.mpr c3
    have c3b1 : ((l0.length : Int) != (l1.length : Int)) = false := bne_eq_false_iff_eq.mpr c3
    have c3b2 : (l0.length == l1.length) = true := by first | simpa using c3 | (simp at c3 ⊢; omega)
    clear c3
    have H' := Aside0.mk H
    clear H
    go_enter Try.func14, Try.ntmps14
    go_wp2
    repeat (go_quiet (fail); try go_wp2)
    go_loopg [5] k (fun kq v5 w' => ∃ (x5_1 : Int), v5 = .int .i64 x5_1 ∧ Aside0 (unicodetextref47_SameGroups.l0 kq l0 l1 x5_1 = some r) ∧ Aside0 (kq ≤ k) ∧ Drawn0 w w')
    case atStart => exact ⟨(0), (by first | rfl | (simp; done) | (simp [*]; done)), H', ⟨Nat.le_refl _⟩, by repeat (first | exact Drawn0.refl _ | apply Drawn0.step)⟩
    case round =>
      clear H'
      try clear c1
      try clear p2
      try clear c3
      try clear c3b0
      try clear c3b1
      try clear c3b2
      obtain ⟨x5_1, rfl, HA, HK1, ⟨m1, rfl⟩⟩ := hrel
      cases gk with
      | zero => exact absurd HA.out (by simp [unicodetextref47_SameGroups.l0])
      | succ k1 =>
        have H := HA.out
        clear HA
        simp only [unicodetextref47_SameGroups.l0] at H
        by_cases c4 : x5_1 < (l0.length : Int)
        · rw [if_pos c4] at H
          have c4b0 : decide (x5_1 < (l0.length : Int)) = true := decide_eq_true c4
          clear c4
          by_cases c5 : 0 ≤ x5_1
          · rw [if_pos c5] at H
            have c5b0 : decide (0 ≤ x5_1) = true := decide_eq_true c5
            clear c5
            by_cases c6 : x5_1 < (l1.length : Int)
            · rw [if_pos c6] at H
              have c6b0 : decide (x5_1 < (l1.length : Int)) = true := decide_eq_true c6
              clear c6
              by_cases c7 : (!((((rd_T36 l0 x5_1).f0).toList) == (((rd_T36 l1 x5_1).f0).toList)) || (!(((rd_T36 l0 x5_1).f1) == ((rd_T36 l1 x5_1).f1)) || (!(((rd_T36 l0 x5_1).f2) == ((rd_T36 l1 x5_1).f2))))) = true
              · rw [if_pos c7] at H
                have c7b0 : (!((((rd_T36 l0 x5_1).f0).toList) == (((rd_T36 l1 x5_1).f0).toList)) || (!(((rd_T36 l0 x5_1).f1) == ((rd_T36 l1 x5_1).f1)) || (!(((rd_T36 l0 x5_1).f2) == ((rd_T36 l1 x5_1).f2))))) = true := c7
                clear c7
                obtain rfl := Option.some.inj H
                have p101 : 0 ≤ (x5_1 : Int) := of_decide_eq_true (by first | (with_reducible assumption) | assumption)
                have q101 : x5_1 < (l0.length : Int) := of_decide_eq_true (by first | (with_reducible assumption) | assumption)
                obtain ⟨ad101, e101, hx101_0, hx101_1, hx101_2⟩ := at_T36 HR0.out x5_1 p101 q101
                cases e101
                replace p101 := eq_true p101
                replace q101 := eq_true q101
                have p102 : 0 ≤ (x5_1 : Int) := of_decide_eq_true (by first | (with_reducible assumption) | assumption)
                have q102 : x5_1 < (l1.length : Int) := of_decide_eq_true (by first | (with_reducible assumption) | assumption)
                obtain ⟨ad102, e102, hx102_0, hx102_1, hx102_2⟩ := at_T36 HR1.out x5_1 p102 q102
                cases e102
                replace p102 := eq_true p102
                replace q102 := eq_true q102
                go_wp2
                repeat (go_quiet (fail); try go_wp2)
                go_ret
                exact ⟨by first | rfl | (simp; done) | (simp [*]; done), by repeat (first | exact Drawn0.refl _ | apply Drawn0.step)⟩
              · rw [if_neg c7] at H
                have c7b0 : (!((((rd_T36 l0 x5_1).f0).toList) == (((rd_T36 l1 x5_1).f0).toList)) || (!(((rd_T36 l0 x5_1).f1) == ((rd_T36 l1 x5_1).f1)) || (!(((rd_T36 l0 x5_1).f2) == ((rd_T36 l1 x5_1).f2))))) = false := by simpa using c7
                clear c7
                have H' := Aside0.mk H
                clear H
                have p101 : 0 ≤ (x5_1 : Int) := of_decide_eq_true (by first | (with_reducible assumption) | assumption)
                have q101 : x5_1 < (l0.length : Int) := of_decide_eq_true (by first | (with_reducible assumption) | assumption)
                obtain ⟨ad101, e101, hx101_0, hx101_1, hx101_2⟩ := at_T36 HR0.out x5_1 p101 q101
                cases e101
                replace p101 := eq_true p101
                replace q101 := eq_true q101
                have p102 : 0 ≤ (x5_1 : Int) := of_decide_eq_true (by first | (with_reducible assumption) | assumption)
                have q102 : x5_1 < (l1.length : Int) := of_decide_eq_true (by first | (with_reducible assumption) | assumption)
                obtain ⟨ad102, e102, hx102_0, hx102_1, hx102_2⟩ := at_T36 HR1.out x5_1 p102 q102
                cases e102
                replace p102 := eq_true p102
                replace q102 := eq_true q102
                go_wp2
                repeat (go_quiet (fail); try go_wp2)
                go_roundg k1
                case measure => have := HK1.out; omega
                case rel => exact ⟨(wrap64 (x5_1 + 1)), (by first | rfl | (simp; done) | (simp [*]; done)), H', ⟨by have := HK1.out; omega⟩, by repeat (first | exact Drawn0.refl _ | apply Drawn0.step)⟩
            · rw [if_neg c6] at H
              exact absurd H (by simp)
          · rw [if_neg c5] at H
            exact absurd H (by simp)
        · rw [if_neg c4] at H
          have c4b0 : decide (x5_1 < (l0.length : Int)) = false := decide_eq_false c4
          clear c4
          obtain rfl := Option.some.inj H
          go_wp2
          repeat (go_quiet (fail); try go_wp2)
          go_ret
          exact ⟨by first | rfl | (simp; done) | (simp [*]; done), by repeat (first | exact Drawn0.refl _ | apply Drawn0.step)⟩
  · rw [if_neg c3] at H
    have c3b0 : ((l0.length : Int) == (l1.length : Int)) = false := beq_eq_false_iff_ne.mpr c3
    have c3b1 : ((l0.length : Int) != (l1.length : Int)) = true := bne_iff_ne.mpr c3
    have c3b2 : (l0.length == l1.length) = false := by first | simpa using c3 | (simp at c3 ⊢; omega)
    obtain rfl := Option.some.inj H
    go_enter Try.func14, Try.ntmps14
    go_wp2
    repeat (go_quiet (fail); try go_wp2)
    go_ret
    exact ⟨by first | rfl | (simp; done) | (simp [*]; done), by repeat (first | exact Drawn0.refl _ | apply Drawn0.step)⟩
end Go.Proofs.Ytfcpebjjcijgcaa.G
-- unicodetext/groups.mover: by hand
namespace Go.Proofs.Ytfcpebjjcijgcaa.G
open Go.RowKit Go.Proofs.YtfcpebjjcijgcaaW.PrintWords Go.Proofs.YtfcpebjjcijgcaaW.PrintLast Go.Proofs.YtfcpebjjcijgcaaW.PrintMore
attribute [local go_sem] max2_int min2_int max_two min_two max_three min_three max_four min_four   -- for this text's walks alone
set_option linter.unusedVariables false
set_option linter.unusedSimpArgs false
/-- Where a group of that name begins (the last of that name). -/
def loL (l : List S36) (s : ByteArray) : Int := l.foldl (fun acc g => if g.f0 = s then g.f1 else acc) 0
theorem loL_snoc (l : List S36) (g : S36) (s : ByteArray) : loL (l ++ [g]) s = if g.f0 = s then g.f1 else loL l s := by simp [loL]
def lov (l : List S36) (s : ByteArray) : Value := .int .i64 (loL l s)
theorem mapOf_lo (l : List S36) (g : S36) : upd (mapOf l (lov l)) (sk g.f0) (.int .i64 g.f1) = mapOf (l ++ [g]) (lov (l ++ [g])) := by
  refine mapOf_ext fun s => ?_
  rw [memB_snoc]
  unfold lov
  rw [loL_snoc]
  by_cases e : s = g.f0
  · subst e
    simp
  · have h : decide (g.f0 = s) = false := decide_eq_false (fun z => e z.symm)
    rw [if_neg e, h, Bool.or_false, if_neg (show ¬ g.f0 = s from fun z => e z.symm)]
/-- The weight in its new place. -/
def moveP (old fresh : List S36) (x : Int) : Int :=
  match old.find? fun g => decide (g.f1 ≤ x) && decide (x ≤ g.f2) with
  | some g => wrap64 (wrap64 (x - g.f1) + if memB g.f0 (nms fresh) = true then loL fresh g.f0 else 0)
  | none => x
/-- What a mover leans on. -/
structure MoverAt (W : World) (gO gK gM : Nat) (A0 : Option Addr) (c0 : Nat) (old fresh : List S36) : Prop where
  o : W.heap[gO]? = some (.cells #[.slice A0 old.length c0] 23 (0, 0))
  k : W.heap[gK]? = some (.cells #[.map (some gM)] 53 (0, 0))
  m : MapV Try.prog 9 W gM fresh.length (mapOf fresh (lov fresh))
  c : Kd.C k36 W A0 old.length old
theorem MoverAt.below {W w1 : World} {gO gK gM : Nat} {A0 : Option Addr} {c0 : Nat} {old fresh : List S36} (h : MoverAt W gO gK gM A0 c0 old fresh) (hb : Below W.heap.size W w1) : MoverAt w1 gO gK gM A0 c0 old fresh :=
  ⟨blk_below h.o hb, blk_below h.k hb, h.m.below hb, Kd.C_below h.c hb⟩
set_option maxHeartbeats 1000000 in
theorem mover1_calls (W : World) (gO gK gM : Nat) (A0 : Option Addr) (c0 : Nat) (old fresh : List S36) (hf : fits old = true) (x : Int) (h : MoverAt W gO gK gM A0 c0 old fresh) :
    Calls Try.prog 42 #[.int .i64 x, .pointer (some ⟨gO, 0, none⟩), .pointer (some ⟨gK, 0, none⟩)] W fun e w' => e = .returned (.int .i64 (moveP old fresh x)) ∧ Below W.heap.size W w' := by
  have H := Aside0.mk h
  have HF := Aside0.mk hf
  have hln := fits_len hf
  have hc0 : W.cell? ⟨gO, 0, none⟩ = some (.slice A0 old.length c0) := (blk_cell h.o 0).trans rfl
  clear h hf
  go_enter Try.func42, Try.ntmps42
  go_wp2
  go_loopg [9] old.length (fun g v9 w' => ∃ i : Nat, v9 = .int .i64 i ∧ Aside0 (g = old.length - i ∧ i ≤ old.length ∧ ∀ g, g ∈ old.take i → (decide (g.f1 ≤ x) && decide (x ≤ g.f2)) = false) ∧ Aside0 (Below W.heap.size W w'))
  case atStart => exact ⟨0, rfl, ⟨by simp, by omega, fun g hg => by simp at hg⟩, ⟨Below.refl _ _⟩⟩
  clear hc0
  case round =>
    obtain ⟨i, rfl, HG, HB⟩ := hrel
    by_cases hlt : i < old.length
    · have hltz : (i : Int) < (old.length : Int) := by omega
      have p0 : 0 ≤ (i : Int) := by omega
      obtain ⟨ad, e, hx0, hx1, hx2⟩ := at_T36 H.out.c (i : Int) p0 hltz
      cases e
      replace hx0 := pw_cell_below HB.out hx0
      replace hx1 := pw_cell_below HB.out hx1
      replace hx2 := pw_cell_below HB.out hx2
      have hs := fits_size HF.out (rd_mem p0 hltz)
      have htk := take_rd p0 hltz
      have hgt := rd_get p0 hltz
      rw [show ((i : Int) + 1).toNat = i + 1 by omega, Int.toNat_natCast] at htk
      rw [Int.toNat_natCast] at hx0 hx1 hx2 hgt
      obtain ⟨gx, hgx⟩ : ∃ gx, rd_T36 old (i : Int) = gx := ⟨_, rfl⟩
      rw [hgx] at hx0 hx1 hx2 hs htk hgt
      have HTK := Aside0.mk htk
      have HGT := Aside0.mk hgt
      clear hgx htk hgt
      have hfind : (decide (gx.f1 ≤ x) && decide (x ≤ gx.f2)) = true → old.find? (fun g => decide (g.f1 ≤ x) && decide (x ≤ g.f2)) = some gx := fun hp => by
        rw [List.find?_eq_some_iff_getElem]
        obtain ⟨hi2, he⟩ := List.getElem?_eq_some_iff.1 HGT.out
        refine ⟨hp, i, hi2, he, fun j hj => ?_⟩
        have := HG.out.2.2 old[j] (by
          have h2 : j < (old.take i).length := by rw [List.length_take]; omega
          have := List.getElem_mem h2
          rwa [List.getElem_take] at this)
        rw [this]
        rfl
      have HFD := Aside0.mk hfind
      clear hfind
      have hkey := Aside0.mk (keyOf_sk (P := Try.prog) Try.underlying9 (s := gx.f0) (by unfold maxLen; omega))
      by_cases h1 : gx.f1 ≤ x
      · have h1' : decide (gx.f1 ≤ x) = true := decide_eq_true h1
        by_cases h2 : x ≤ gx.f2
        · have h2' : decide (x ≤ gx.f2) = true := decide_eq_true h2
          have hcK : (wr.alloc (Obj.cells #[Value.string gx.f0, Value.int IntKind.i64 gx.f1, Value.int IntKind.i64 gx.f2] 36)).cell? ⟨gK, 0, none⟩ = some (.map (some gM)) := (blk_cell (blk_alloc (blk_below H.out.k HB.out) _) 0).trans rfl
          have HM := Aside0.mk ((H.out.m.below HB.out).alloc (Obj.cells #[Value.string gx.f0, Value.int IntKind.i64 gx.f1, Value.int IntKind.i64 gx.f2] 36))
          obtain ⟨q, hq⟩ : ∃ q, (if memB gx.f0 (nms fresh) = true then loL fresh gx.f0 else 0) = q := ⟨_, rfl⟩
          have HV := Aside0.mk (show (mapOf fresh (lov fresh) (sk gx.f0)).getD (.int .i64 0) = .int .i64 q by
            rw [mapOf_sk, ← hq]
            unfold lov
            split <;> rfl)
          have HRES := Aside0.mk (show moveP old fresh x = wrap64 (wrap64 (x - gx.f1) + q) by
            unfold moveP
            rw [HFD.out (by rw [h1', h2']; rfl)]
            show wrap64 _ = _
            rw [hq])
          clear hq hs
          go_wp2_with (at_lookup; refine wpl_look rfl _ _ 53 rfl 3 strK Try.underlying53 (zero_int _) rfl HM.out _ (sk gx.f0) rfl hkey.out _ HV.out ?_)
          go_ret
          exact ⟨by rw [HRES.out]; rfl, below_alloc HB.out _⟩
        · have h2' : decide (x ≤ gx.f2) = false := decide_eq_false h2
          go_wp2
          go_roundg (old.length - (i + 1))
          case measure => have := HG.out; omega
          case rel =>
            refine ⟨i + 1, by go_num, ⟨rfl, by omega, fun g hg => ?_⟩, ⟨below_alloc HB.out _⟩⟩
            rw [HTK.out] at hg
            rcases List.mem_append.1 hg with hg | hg
            · exact HG.out.2.2 g hg
            · rw [List.mem_singleton.1 hg, h2', Bool.and_false]
      · have h1' : decide (gx.f1 ≤ x) = false := decide_eq_false h1
        go_wp2
        go_roundg (old.length - (i + 1))
        case measure => have := HG.out; omega
        case rel =>
          refine ⟨i + 1, by go_num, ⟨rfl, by omega, fun g hg => ?_⟩, ⟨below_alloc HB.out _⟩⟩
          rw [HTK.out] at hg
          rcases List.mem_append.1 hg with hg | hg
          · exact HG.out.2.2 g hg
          · rw [List.mem_singleton.1 hg, h1', Bool.false_and]
    · have HRES := Aside0.mk (show moveP old fresh x = x by
        unfold moveP
        rw [List.find?_eq_none.2 (fun g hg => by
          rw [HG.out.2.2 g (by rw [List.take_of_length_le (by have := HG.out; omega)]; exact hg)]
          simp)])
      go_wp2
      go_ret
      exact ⟨by rw [HRES.out]; rfl, HB.out⟩
set_option maxHeartbeats 1000000 in
theorem mover_calls (A0 : Option Addr) (c0 : Nat) (old : List S36) (A1 : Option Addr) (c1 : Nat) (fresh : List S36) (w : World) (hr0 : Kd.C k36 w A0 old.length old) (hr1 : Kd.C k36 w A1 fresh.length fresh) (hf : fits fresh = true) :
    Calls Try.prog 30 #[.slice A0 old.length c0, .slice A1 fresh.length c1] w fun e w' => ∃ gO gK gM : Nat, e = .returned (.func (.func 42) #[] #[.pointer (some ⟨gO, 0, none⟩), .pointer (some ⟨gK, 0, none⟩)]) ∧ MoverAt w' gO gK gM A0 c0 old fresh ∧ w.heap.size ≤ gO ∧ w.heap.size ≤ gK ∧ w.heap.size ≤ gM ∧ Below w.heap.size w w' := by
  have HR0 := Aside0.mk hr0
  have HR1 := Aside0.mk hr1
  have HF := Aside0.mk hf
  have hln := fits_len hf
  have hmm := @run_makeMap Try.prog
  clear hr0 hr1 hf
  go_enter Try.func30, Try.ntmps30
  go_wp2
  go_loopg [11] fresh.length (fun g v11 w' => ∃ x : Nat, v11 = .int .i64 x ∧ Aside0 (g = fresh.length - x ∧ x ≤ fresh.length) ∧ Aside0 (MapV Try.prog 9 w' (w.heap.size + 1) x (mapOf (fresh.take x) (lov (fresh.take x)))) ∧ Aside0 (w'.heap[w.heap.size + 2]? = some (.cells #[.map (some (w.heap.size + 1))] 53 (0, 0))) ∧ Aside0 (w'.heap[w.heap.size]? = some (.cells #[.slice A0 old.length c0] 23 (0, 0))) ∧ Aside0 (Below w.heap.size w w'))
  case atStart =>
    refine ⟨0, rfl, ⟨by simp, by omega⟩, ⟨?_⟩, ⟨?_⟩, ⟨blk_alloc (blk_alloc (blk_new w _) _) _⟩, ⟨below_alloc (below_alloc (below_alloc (Below.refl _ _) _) _) _⟩⟩
    · rw [List.take_zero, mapOf_nil]
      have := (MapV.made (w.alloc (.cells #[.slice A0 old.length c0] 23)) Try.prog 9).alloc (.cells #[.map (some (w.heap.size + 1))] 53)
      simpa using this
    · have := blk_new ((w.alloc (.cells #[.slice A0 old.length c0] 23)).alloc (.map #[] 0)) (.cells #[.map (some (w.heap.size + 1))] 53)
      simpa using this
  case round =>
    obtain ⟨x, rfl, HG, HM, HVK, HBK, HB⟩ := hrel
    by_cases hlt : x < fresh.length
    · have hltz : (x : Int) < (fresh.length : Int) := by omega
      have p0 : 0 ≤ (x : Int) := by omega
      obtain ⟨ad, e, hx0, hx1, hx2⟩ := at_T36 HR1.out (x : Int) p0 hltz
      cases e
      replace hx0 := pw_cell_below HB.out hx0
      replace hx1 := pw_cell_below HB.out hx1
      replace hx2 := pw_cell_below HB.out hx2
      have hs := fits_size HF.out (rd_mem p0 hltz)
      have htk := take_rd p0 hltz
      rw [show ((x : Int) + 1).toNat = x + 1 by omega, Int.toNat_natCast] at htk
      have HTK := Aside0.mk htk
      obtain ⟨gx, hgx⟩ : ∃ gx, rd_T36 fresh (x : Int) = gx := ⟨_, rfl⟩
      rw [hgx] at hx0 hx1 hx2 hs HTK
      rw [Int.toNat_natCast] at hx0 hx1 hx2
      clear hgx htk
      have hkey := Aside0.mk (keyOf_sk (P := Try.prog) Try.underlying9 (s := gx.f0) (by unfold maxLen; omega))
      have hxm : x < maxLen := by unfold maxLen; omega
      have hcK : (wr.alloc (Obj.cells #[Value.string gx.f0, Value.int IntKind.i64 gx.f1, Value.int IntKind.i64 gx.f2] 36)).cell? ⟨w.heap.size + 2, 0, none⟩ = some (.map (some (w.heap.size + 1))) := (blk_cell (blk_alloc HVK.out _) 0).trans rfl
      have HM' := Aside0.mk (HM.out.alloc (Obj.cells #[Value.string gx.f0, Value.int IntKind.i64 gx.f1, Value.int IntKind.i64 gx.f2] 36))
      have HVK' := Aside0.mk (blk_alloc HVK.out (Obj.cells #[Value.string gx.f0, Value.int IntKind.i64 gx.f1, Value.int IntKind.i64 gx.f2] 36))
      have HBK' := Aside0.mk (blk_alloc HBK.out (Obj.cells #[Value.string gx.f0, Value.int IntKind.i64 gx.f1, Value.int IntKind.i64 gx.f2] 36))
      have HB' := Aside0.mk (below_alloc HB.out (Obj.cells #[Value.string gx.f0, Value.int IntKind.i64 gx.f1, Value.int IntKind.i64 gx.f2] 36))
      clear hs
      go_wp2_with (at_mapUpdate; refine wpl_put rfl _ _ _ 53 rfl 3 strK Try.underlying53 rfl HM'.out hxm _ _ (sk gx.f0) rfl rfl hkey.out ?_; intro w3 hm3 hg3; have HM3 := Aside0.mk hm3; have HG3 := Aside0.mk hg3; clear hm3 hg3)
      go_roundg (fresh.length - (x + 1))
      case measure => have := HG.out; omega
      case rel =>
        refine ⟨x + 1, by go_num, ⟨rfl, by omega⟩, ⟨?_⟩, ⟨(HG3.out.block _ (blk_lt HVK'.out) (by simp)).trans HVK'.out⟩, ⟨(HG3.out.block _ (blk_lt HBK'.out) (fun e => by injection e with e; omega)).trans HBK'.out⟩, ⟨HB'.out.grown HG3.out (Nat.le_of_lt (blk_lt HBK'.out)) (fun j hj => by injection hj with hj; omega)⟩⟩
        rw [HTK.out, ← mapOf_lo]
        exact HM3.out
    · have hxe : x = fresh.length := by have := HG.out; omega
      subst hxe
      rw [List.take_length] at HM
      clear hlt
      go_wp2
      go_ret
      exact ⟨_, _, _, rfl, ⟨HBK.out, HVK.out, HM.out, Kd.C_below HR0.out HB.out⟩, by omega, by omega, by omega, HB.out⟩
end Go.Proofs.Ytfcpebjjcijgcaa.G
-- unicodetext/groups.Move: by hand
namespace Go.Proofs.Ytfcpebjjcijgcaa.G
open Go.RowKit Go.Proofs.YtfcpebjjcijgcaaW.PrintWords Go.Proofs.YtfcpebjjcijgcaaW.PrintLast Go.Proofs.YtfcpebjjcijgcaaW.PrintMore
attribute [local go_sem] max2_int min2_int max_two min_two max_three min_three max_four min_four   -- for this text's walks alone
set_option linter.unusedVariables false
set_option linter.unusedSimpArgs false
-- BY HAND: function 15 (groups_Move)
def groups_Move.f (k : Nat) (l0_0 : List (S49)) (l0_1 : List (S36)) (a0_2 : Int) (a0_3 : Int) (a0_4 : Int) (l1 : List ByteArray) (a2 : Int) : Option (Int) := (groups_Order.f k l0_0 l0_1 a0_2 a0_3 a0_4 l1).bind fun b => if b.2 = 0 then (if fits l0_1 = true ∧ fits b.1 = true then some (moveP l0_1 b.1 a2) else none) else some a2
set_option maxHeartbeats 1000000 in
theorem groups_Move.calls (k : Nat) (A0_0 : Option Addr) (c0_0 : Nat) (l0_0 : List (S49)) (A0_1 : Option Addr) (c0_1 : Nat) (l0_1 : List (S36)) (a0_2 : Int) (a0_3 : Int) (a0_4 : Int) (A1 : Option Addr) (c1 : Nat) (l1 : List ByteArray) (a2 : Int) (r : Int) (w : World) (hr0_0 : Kd.C k49 w A0_0 l0_0.length l0_0) (hc0_0 : l0_0.length ≤ c0_0) (hr0_1 : Kd.C k36 w A0_1 l0_1.length l0_1) (hc0_1 : l0_1.length ≤ c0_1) (hr1 : Kd.C Kd.string w A1 l1.length l1) (hc1 : l1.length ≤ c1) (h : groups_Move.f k l0_0 l0_1 a0_2 a0_3 a0_4 l1 a2 = some r) :
    Calls Try.prog 15 #[.agg #[.slice A0_0 l0_0.length c0_0, .slice A0_1 l0_1.length c0_1, .int .i64 a0_2, .int .i64 a0_3, .int .i64 a0_4], .slice A1 l1.length c1, .int .i64 a2] w fun e w' => e = .returned (.int .i64 r) ∧ Below w.heap.size w w' := by
  unfold groups_Move.f at h
  obtain ⟨⟨lo, eo⟩, hE, h⟩ := Option.bind_eq_some_iff.mp h
  have HE := Aside0.mk hE
  have H := Aside0.mk h
  have HR0 := Aside0.mk hr0_0
  have HC0 := Aside0.mk hc0_0
  have HR1 := Aside0.mk hr0_1
  have HC1 := Aside0.mk hc0_1
  have HRN := Aside0.mk hr1
  have HCN := Aside0.mk hc1
  clear hE h hr0_0 hc0_0 hr0_1 hc0_1 hr1 hc1
  go_enter Try.func15, Try.ntmps15
  go_wp2_with fail
  have hb0 : Below w.heap.size w (w.alloc (.cells #[.slice A0_0 l0_0.length c0_0, .slice A0_1 l0_1.length c0_1, .int .i64 a0_2, .int .i64 a0_3, .int .i64 a0_4] 25)) := below_alloc (Below.refl _ _) _
  have hk0 := blk_new w (.cells #[.slice A0_0 l0_0.length c0_0, .slice A0_1 l0_1.length c0_1, .int .i64 a0_2, .int .i64 a0_3, .int .i64 a0_4] 25)
  refine (groups_Order.calls k _ _ l0_0 _ _ l0_1 a0_2 a0_3 a0_4 _ _ l1 lo eo _ (Kd.C_below HR0.out hb0) HC0.out (Kd.C_below HR1.out hb0) HC1.out (Kd.C_below HRN.out hb0) HCN.out HE.out).mono ?_
  rintro e w1 ⟨v0, rfl, hR, hbc⟩
  have HB := Aside0.mk (below_step hb0 hbc)
  have HBK := Aside0.mk (blk_below hk0 hbc)
  obtain ⟨A, c, rfl, _, hC⟩ := Kd.R_reads hR
  have HC := Aside0.mk hC
  clear hb0 hk0 hbc hR hC
  by_cases he : eo = 0
  · subst he
    obtain ⟨hcond, hres⟩ : (fits l0_1 = true ∧ fits lo = true) ∧ moveP l0_1 lo a2 = r := by
      have h := H.out
      rw [if_pos rfl] at h
      split at h
      · rename_i hc
        exact ⟨hc, Option.some.inj h⟩
      · cases h
    have HF := Aside0.mk hcond
    have HRES := Aside0.mk hres
    have hca : w1.cell? ⟨w.heap.size, 1, none⟩ = some (.slice A0_1 l0_1.length c0_1) := (blk_cell HBK.out 1).trans rfl
    clear H hcond hres
    go_wp2_with fail
    refine (mover_calls A0_1 c0_1 l0_1 A c lo _ (Kd.C_below HR1.out HB.out) HC.out HF.out.2).mono ?_
    rintro e w2 ⟨gO, gK, gM, rfl, hmv, _, _, _, hb2⟩
    have HMV := Aside0.mk hmv
    have HB2 := Aside0.mk (below_step HB.out hb2)
    have HM1 := Aside0.mk (fun (x : Int) => mover1_calls w2 gO gK gM A0_1 c0_1 l0_1 lo HF.out.1 x HMV.out)
    have heg := enters_of Try.func42 (by kernel_rfl) rfl
    clear hmv hb2 hca
    go_wp2_with fail
    refine (HM1.out _).mono ?_
    rintro e w3 ⟨rfl, hb3⟩
    have HB3 := Aside0.mk (below_step HB2.out hb3)
    clear hb3
    go_wp2
    go_ret
    exact ⟨by rw [HRES.out]; rfl, HB3.out⟩
  · have hres : a2 = r := by
      have h := H.out
      rw [if_neg he] at h
      exact Option.some.inj h
    have he2 : (eo != 0) = true := bne_iff_ne.2 he
    have HRES := Aside0.mk hres
    clear H he hres
    go_wp2
    go_ret
    exact ⟨by rw [← HRES.out]; rfl, HB.out⟩
end Go.Proofs.Ytfcpebjjcijgcaa.G
-- unicodetext/unicodetextlaw47.alive: by hand
namespace Go.Proofs.Ytfcpebjjcijgcaa.G
open Go.RowKit Go.Proofs.YtfcpebjjcijgcaaW.PrintWords Go.Proofs.YtfcpebjjcijgcaaW.PrintLast Go.Proofs.YtfcpebjjcijgcaaW.PrintMore
attribute [local go_sem] max2_int min2_int max_two min_two max_three min_three max_four min_four   -- for this text's walks alone
set_option linter.unusedVariables false
set_option linter.unusedSimpArgs false
-- BY HAND: function 11 (unicodetextlaw47_alive)
/-- The example's groups, their new order, the name. -/
def aliveG : List S36 := [⟨⟨#[97]⟩, 1, 9⟩, ⟨⟨#[98]⟩, 10, 29⟩]
def aliveR : List S36 := [⟨⟨#[98]⟩, 1, 20⟩, ⟨⟨#[97]⟩, 21, 29⟩]
def aliveN : List ByteArray := [⟨#[98]⟩]
/-- The example is answered as the document says. -/
structure AliveAt (k : Nat) (lo : List S36) : Prop where
  o : groups_Order.f k [] aliveG 100 1 1 aliveN = some (lo, 0)
  s : unicodetextref47_SameGroups.f k lo aliveR = some true
  m0 : groups_Move.f k [] aliveG 100 1 1 aliveN 12 = some 3
  m1 : groups_Move.f k [] aliveG 100 1 1 aliveN 9 = some 29
  m2 : groups_Move.f k [] aliveG 100 1 1 aliveN 30 = some 30
def unicodetextlaw47_alive.f (k : Nat)  : Option (Bool) := (groups_Order.f k [] aliveG 100 1 1 aliveN).bind fun b => if b.2 = 0 then (unicodetextref47_SameGroups.f k b.1 aliveR).bind fun t => if t = true then (groups_Move.f k [] aliveG 100 1 1 aliveN 12).bind fun x => if x = 3 then (groups_Move.f k [] aliveG 100 1 1 aliveN 9).bind fun y => if y = 29 then (groups_Move.f k [] aliveG 100 1 1 aliveN 30).bind fun z => if z = 30 then some true else none else none else none else none else none
theorem alive_at {k : Nat} {r : Bool} (h : unicodetextlaw47_alive.f k = some r) : r = true ∧ ∃ lo, AliveAt k lo := by
  unfold unicodetextlaw47_alive.f at h
  obtain ⟨⟨lo, e⟩, h1, h⟩ := Option.bind_eq_some_iff.mp h
  split at h
  case isFalse => cases h
  rename_i h2
  obtain ⟨t, h3, h⟩ := Option.bind_eq_some_iff.mp h
  split at h
  case isFalse => cases h
  rename_i h4
  obtain ⟨x, h5, h⟩ := Option.bind_eq_some_iff.mp h
  split at h
  case isFalse => cases h
  rename_i h6
  obtain ⟨y, h7, h⟩ := Option.bind_eq_some_iff.mp h
  split at h
  case isFalse => cases h
  rename_i h8
  obtain ⟨z, h9, h⟩ := Option.bind_eq_some_iff.mp h
  split at h
  case isFalse => cases h
  rename_i h10
  have hr := (Option.some.inj h).symm
  subst h4 h6 h8 h10
  have h2 : e = 0 := h2
  subst h2
  exact ⟨hr, lo, ⟨h1, h3, h5, h7, h9⟩⟩
theorem aliveN_C {w : World} {g : Nat} (h : w.heap[g]? = some (.cells #[.string ⟨#[98]⟩] 9 (0, 0))) : Kd.string.C w (some ⟨g, 0, none⟩) 1 aliveN := by
  refine ⟨rfl, by omega, fun _ => ⟨_, rfl, fun j p hp => ?_⟩⟩
  cases j with
  | zero =>
    obtain rfl := Option.some.inj hp
    refine ⟨[.string ⟨#[98]⟩], rfl, rfl, fun i u hu => ?_⟩
    cases i with
    | zero =>
      obtain rfl := Option.some.inj hu
      exact (blk_cell h 0).trans rfl
    | succ i => simp at hu
  | succ j => simp [aliveN] at hp
set_option maxHeartbeats 1000000 in
theorem unicodetextlaw47_alive.calls (k : Nat)  (r : Bool) (w : World) (h : unicodetextlaw47_alive.f k  = some r) :
    Calls Try.prog 11 #[] w fun e w' => e = .returned (.bool r) ∧ Below w.heap.size w w' := by
  obtain ⟨rfl, lo, hA⟩ := alive_at h
  have HA := Aside0.mk hA
  clear hA h
  go_enter Try.func11, Try.ntmps11
  go_wp2_with ((with_reducible refine gate_dst (N := 6) rfl ?_); refine Kd.R_lit k36 _ 36 ?hg (N := 6) ?hd (xs := aliveG) (inner := [.string (⟨#[97]⟩ : ByteArray), .int .i64 1, .int .i64 9, .string (⟨#[98]⟩ : ByteArray), .int .i64 10, .int .i64 29]) (ok := fun _ => True) (okp := fun _ => True) ?hr ?hp (fun _ hk => hk) trivial (Below.refl _ _) (Nat.le_refl _) (by decide) ?_; (case hd => rfl); (case hg => rfl); (case hr => first | (go_simp; done) | (go_simp; rfl)); (case hp => exact (Reps.c3 (show Kd.M k36 _ _ _ (⟨(⟨#[97]⟩ : ByteArray), 1, 9⟩ : S36) [.string (⟨#[97]⟩ : ByteArray), .int .i64 1, .int .i64 9] from (k36_mkM _ _ _ (⟨(⟨#[97]⟩ : ByteArray), 1, 9⟩ : S36) )) (Reps.c3 (show Kd.M k36 _ _ _ (⟨(⟨#[98]⟩ : ByteArray), 10, 29⟩ : S36) [.string (⟨#[98]⟩ : ByteArray), .int .i64 10, .int .i64 29] from (k36_mkM _ _ _ (⟨(⟨#[98]⟩ : ByteArray), 10, 29⟩ : S36) )) (Reps.none _ _)))); intro v1 w1 ho1 hb1 hg_ hnew_; clear hg_ hnew_; obtain ⟨A1, c1, e1, hl1, hC1⟩ := Kd.R_reads ho1; have HC1 := Aside0.mk hC1; have HL1 := Aside0.mk hl1; have HB1 := Aside0.mk hb1; subst e1; clear hC1 hl1 hb1 ho1)
  have hb2 : Below w.heap.size w ((w1.alloc (.cells #[.slice none 0 0, .slice A1 aliveG.length c1, .int .i64 100, .int .i64 1, .int .i64 1] 25)).alloc (.cells #[.string ⟨#[98]⟩] 9)) := below_alloc (below_alloc HB1.out _) _
  have hC2 := Kd.C_below HC1.out (below_alloc (below_alloc (Below.refl w1.heap.size w1) (.cells #[.slice none 0 0, .slice A1 aliveG.length c1, .int .i64 100, .int .i64 1, .int .i64 1] 25)) (.cells #[.string ⟨#[98]⟩] 9))
  have hK2 := blk_alloc (blk_new w1 (.cells #[.slice none 0 0, .slice A1 aliveG.length c1, .int .i64 100, .int .i64 1, .int .i64 1] 25)) (.cells #[.string ⟨#[98]⟩] 9)
  have hN2 := blk_new (w1.alloc (.cells #[.slice none 0 0, .slice A1 aliveG.length c1, .int .i64 100, .int .i64 1, .int .i64 1] 25)) (.cells #[.string ⟨#[98]⟩] 9)
  rw [show (w1.alloc (.cells #[.slice none 0 0, .slice A1 aliveG.length c1, .int .i64 100, .int .i64 1, .int .i64 1] 25)).heap.size = w1.heap.size + 1 by simp] at hN2
  generalize hW : ((w1.alloc (.cells #[.slice none 0 0, .slice A1 aliveG.length c1, .int .i64 100, .int .i64 1, .int .i64 1] 25)).alloc (.cells #[.string ⟨#[98]⟩] 9)) = w2 at hb2 hC2 hK2 hN2 ⊢
  clear hW
  have hNC := aliveN_C hN2
  refine (groups_Order.calls k _ _ [] _ _ aliveG 100 1 1 _ _ aliveN lo 0 w2 (Kd.C_nil _ _) (Nat.le_refl _) hC2 HL1.out hNC (Nat.le_refl _) HA.out.o).mono ?_
  rintro e w3 ⟨v3, rfl, hR3, hb3⟩
  obtain ⟨A3, c3, rfl, hl3, hC3⟩ := Kd.R_reads hR3
  have HB3 := Aside0.mk (below_step hb2 hb3)
  have HC3 := Aside0.mk hC3
  have HL3 := Aside0.mk hl3
  have HK3 := Aside0.mk (blk_below hK2 hb3)
  have HG3 := Aside0.mk (Kd.C_below hC2 hb3)
  clear hb2 hC2 hK2 hN2 hNC hR3 hb3 hC3 hl3 HB1 HC1
  go_wp2_with ((with_reducible refine gate_dst (N := 20) rfl ?_); (try (refine gate_guard (by rfl) ?_; dsimp only)); refine Kd.R_lit k36 _ 36 ?hg (N := 20) ?hd (xs := aliveR) (inner := [.string (⟨#[98]⟩ : ByteArray), .int .i64 1, .int .i64 20, .string (⟨#[97]⟩ : ByteArray), .int .i64 21, .int .i64 29]) (ok := fun _ => True) (okp := fun _ => True) ?hr ?hp (fun _ hk => hk) trivial (Below.refl _ _) (Nat.le_refl _) (by decide) ?_; (case hd => rfl); (case hg => rfl); (case hr => first | (go_simp; done) | (go_simp; rfl)); (case hp => exact (Reps.c3 (show Kd.M k36 _ _ _ (⟨(⟨#[98]⟩ : ByteArray), 1, 20⟩ : S36) [.string (⟨#[98]⟩ : ByteArray), .int .i64 1, .int .i64 20] from (k36_mkM _ _ _ (⟨(⟨#[98]⟩ : ByteArray), 1, 20⟩ : S36) )) (Reps.c3 (show Kd.M k36 _ _ _ (⟨(⟨#[97]⟩ : ByteArray), 21, 29⟩ : S36) [.string (⟨#[97]⟩ : ByteArray), .int .i64 21, .int .i64 29] from (k36_mkM _ _ _ (⟨(⟨#[97]⟩ : ByteArray), 21, 29⟩ : S36) )) (Reps.none _ _)))); intro v4 w4 ho4 hb4 hg_ hnew_; clear hg_ hnew_; obtain ⟨A4, c4, e4, hl4, hC4⟩ := Kd.R_reads ho4; subst e4)
  refine (unicodetextref47_SameGroups.calls k _ _ lo _ _ aliveR true w4 (Kd.C_below HC3.out hb4) HL3.out hC4 hl4 HA.out.s).mono ?_
  rintro e w' ⟨rfl, ⟨nd, rfl⟩⟩
  have hx4 : Below w3.heap.size w3 (w4.drewN nd) := pw_below_drewN hb4 nd
  have hB5 : Below w.heap.size w (w4.drewN nd) := below_step HB3.out hx4
  have hK5 := blk_below HK3.out hx4
  have hG5 := Kd.C_below HG3.out hx4
  generalize w4.drewN nd = w5 at hB5 hK5 hG5 ⊢
  clear ho4 hb4 hl4 hC4 hx4
  have HB5 := Aside0.mk hB5
  have HK5 := Aside0.mk hK5
  have HG5 := Aside0.mk hG5
  have hz0 : w5.cell? ⟨w1.heap.size, 0, none⟩ = some (.slice none 0 0) := (blk_cell hK5 0).trans rfl
  have hz1 : w5.cell? ⟨w1.heap.size, 1, none⟩ = some (.slice A1 aliveG.length c1) := (blk_cell hK5 1).trans rfl
  have hz2 : w5.cell? ⟨w1.heap.size, 2, none⟩ = some (.int .i64 100) := (blk_cell hK5 2).trans rfl
  have hz3 : w5.cell? ⟨w1.heap.size, 3, none⟩ = some (.int .i64 1) := (blk_cell hK5 3).trans rfl
  have hz4 : w5.cell? ⟨w1.heap.size, 4, none⟩ = some (.int .i64 1) := (blk_cell hK5 4).trans rfl
  clear hB5 hK5 hG5
  go_wp2_with fail
  clear hz0 hz1 hz2 hz3 hz4
  have hb6 : Below w5.heap.size w5 (w5.alloc (.cells #[.string ⟨#[98]⟩] 9)) := below_alloc (Below.refl _ _) _
  have hN6 := blk_new w5 (.cells #[.string ⟨#[98]⟩] 9)
  refine (groups_Move.calls k _ _ [] _ _ aliveG 100 1 1 _ _ aliveN 12 3 _ (Kd.C_nil _ _) (Nat.le_refl _) (Kd.C_below HG5.out hb6) HL1.out (aliveN_C hN6) (Nat.le_refl _) HA.out.m0).mono ?_
  rintro e w6 ⟨rfl, hbb⟩
  have hbx := below_step hb6 hbb
  have hB6 := below_step HB5.out hbx
  have hK6 := blk_below HK5.out hbx
  have hG6 := Kd.C_below HG5.out hbx
  clear hb6 hN6 hbb hbx
  have HB6 := Aside0.mk hB6
  have HK6 := Aside0.mk hK6
  have HG6 := Aside0.mk hG6
  have hz0 : w6.cell? ⟨w1.heap.size, 0, none⟩ = some (.slice none 0 0) := (blk_cell hK6 0).trans rfl
  have hz1 : w6.cell? ⟨w1.heap.size, 1, none⟩ = some (.slice A1 aliveG.length c1) := (blk_cell hK6 1).trans rfl
  have hz2 : w6.cell? ⟨w1.heap.size, 2, none⟩ = some (.int .i64 100) := (blk_cell hK6 2).trans rfl
  have hz3 : w6.cell? ⟨w1.heap.size, 3, none⟩ = some (.int .i64 1) := (blk_cell hK6 3).trans rfl
  have hz4 : w6.cell? ⟨w1.heap.size, 4, none⟩ = some (.int .i64 1) := (blk_cell hK6 4).trans rfl
  clear hB6 hK6 hG6
  go_wp2_with fail
  clear hz0 hz1 hz2 hz3 hz4
  have hb7 : Below w6.heap.size w6 (w6.alloc (.cells #[.string ⟨#[98]⟩] 9)) := below_alloc (Below.refl _ _) _
  have hN7 := blk_new w6 (.cells #[.string ⟨#[98]⟩] 9)
  refine (groups_Move.calls k _ _ [] _ _ aliveG 100 1 1 _ _ aliveN 9 29 _ (Kd.C_nil _ _) (Nat.le_refl _) (Kd.C_below HG6.out hb7) HL1.out (aliveN_C hN7) (Nat.le_refl _) HA.out.m1).mono ?_
  rintro e w7 ⟨rfl, hbb⟩
  have hbx := below_step hb7 hbb
  have hB7 := below_step HB6.out hbx
  have hK7 := blk_below HK6.out hbx
  have hG7 := Kd.C_below HG6.out hbx
  clear hb7 hN7 hbb hbx
  have HB7 := Aside0.mk hB7
  have HK7 := Aside0.mk hK7
  have HG7 := Aside0.mk hG7
  have hz0 : w7.cell? ⟨w1.heap.size, 0, none⟩ = some (.slice none 0 0) := (blk_cell hK7 0).trans rfl
  have hz1 : w7.cell? ⟨w1.heap.size, 1, none⟩ = some (.slice A1 aliveG.length c1) := (blk_cell hK7 1).trans rfl
  have hz2 : w7.cell? ⟨w1.heap.size, 2, none⟩ = some (.int .i64 100) := (blk_cell hK7 2).trans rfl
  have hz3 : w7.cell? ⟨w1.heap.size, 3, none⟩ = some (.int .i64 1) := (blk_cell hK7 3).trans rfl
  have hz4 : w7.cell? ⟨w1.heap.size, 4, none⟩ = some (.int .i64 1) := (blk_cell hK7 4).trans rfl
  clear hB7 hK7 hG7
  go_wp2_with fail
  clear hz0 hz1 hz2 hz3 hz4
  have hb8 : Below w7.heap.size w7 (w7.alloc (.cells #[.string ⟨#[98]⟩] 9)) := below_alloc (Below.refl _ _) _
  have hN8 := blk_new w7 (.cells #[.string ⟨#[98]⟩] 9)
  refine (groups_Move.calls k _ _ [] _ _ aliveG 100 1 1 _ _ aliveN 30 30 _ (Kd.C_nil _ _) (Nat.le_refl _) (Kd.C_below HG7.out hb8) HL1.out (aliveN_C hN8) (Nat.le_refl _) HA.out.m2).mono ?_
  rintro e w8 ⟨rfl, hbb⟩
  have hbx := below_step hb8 hbb
  have hB8 := below_step HB7.out hbx
  have hK8 := blk_below HK7.out hbx
  have hG8 := Kd.C_below HG7.out hbx
  clear hb8 hN8 hbb hbx
  have HB8 := Aside0.mk hB8
  clear hB8 hK8 hG8
  go_wp2
  go_ret
  exact ⟨rfl, HB8.out⟩
end Go.Proofs.Ytfcpebjjcijgcaa.G
-- slices.Clone[[]int,int]: by hand
namespace Go.Proofs.Ytfcpebjjcijgcaa.G
open Go.RowKit Go.Proofs.YtfcpebjjcijgcaaW.PrintWords Go.Proofs.YtfcpebjjcijgcaaW.PrintLast Go.Proofs.YtfcpebjjcijgcaaW.PrintMore
attribute [local go_sem] max2_int min2_int max_two min_two max_three min_three max_four min_four   -- for this text's walks alone
set_option linter.unusedVariables false
set_option linter.unusedSimpArgs false
-- BY HAND: function 31 (slices_Clone_int_int)
def slices_Clone_int_int.f (l0 : List Int) : Option (List Int) := if l0.length < 17592186044416 then some l0 else none
set_option maxHeartbeats 400000 in
theorem slices_Clone_int_int.calls (A0 : Option Addr) (c0 : Nat) (l0 : List Int) (r : List Int) (w : World) (hr0 : Kd.C (Kd.int .i64) w A0 l0.length l0) (hc0 : l0.length ≤ c0) (h : slices_Clone_int_int.f l0 = some r) :
    Calls Try.prog 31 #[.slice A0 l0.length c0] w fun e w' => ∃ v0_ : Value, e = .returned (v0_) ∧ Kd.R (Kd.int .i64) 3 w' w.heap.size (fun _ => True) v0_ r ∧ Below w.heap.size w w' := by
  unfold slices_Clone_int_int.f at h
  split at h
  case isFalse => cases h
  rename_i hl
  obtain rfl := Option.some.inj h
  clear h
  have HR0 := Aside0.mk hr0
  have HL := Aside0.mk hl
  clear hr0 hl
  have q := fun (w : World) (a : Option Addr) (n c : Nat) => Lib.run_eql_slice_nil (P := Try.prog) w 46 3 a n c 0 0 Try.underlying46
  rcases A0 with _ | ad
  · have h0 : l0 = [] := by
      rcases Nat.eq_zero_or_pos l0.length with h0 | h0
      · exact List.eq_nil_of_length_eq_zero h0
      · obtain ⟨ad, h, _⟩ := HR0.out.2.2 h0
        cases h
    subst h0
    go_enter Try.func31, Try.ntmps31
    go_wp2
    go_ret
    exact ⟨_, rfl, Kd.R_nil _ _ _ _ _, Below.refl _ _⟩
  · go_enter Try.func31, Try.ntmps31
    go_wp2_with (first | ((with_reducible refine gate_dst (N := 5) rfl ?_); refine Kd.R_lit (Kd.int .i64) _ 3 ?hg (N := 5) ?hd (xs := []) (inner := []) (ok := fun _ => True) (okp := fun _ => True) ?hr ?hp (fun _ hk => hk) trivial (Below.refl _ _) (Nat.le_refl _) (by simp) ?_; (case hd => rfl); (case hg => rfl); (case hr => first | (go_simp; done) | (go_simp; rfl)); (case hp => exact (Reps.none _ _)); intro v1 w1 ho1 hb1 hg_ hnew_; clear hg_ hnew_; have HO1 := Aside0.mk ho1; have HB1 := Aside0.mk hb1; clear ho1 hb1) | (at_builtin; refine Kd.R_append_rows (Kd.int .i64) (w0 := w) (Rr := Kd.K (Kd.int .i64) w1) w.heap.size rfl (.tmp 5) (.tmp 6) 46 3 (.int .i64 0) 8 rfl Try.underlying46 info3 rfl (by decide) (by decide) v1 [] l0 (some ad) l0.length c0 (fun _ => True) (fun k => some k ≠ v1.ownBlock) rfl rfl (Kd.R_lower HO1.out (Nat.le_refl _)) (Kd.C_below HR0.out HB1.out) ?hKM (fun k hk => ⟨trivial, hk⟩) (fun _ _ => trivial) HB1.out HB1.out.size ?hl ?_; rotate_left 2; intro v2 w2 ho2 hb2 _ _; have HO2 := Aside0.mk ho2; have HB2 := Aside0.mk hb2; clear ho2 hb2))
    case hKM => intro x cs hx; exact hx
    case hl => simp; have := HL.out; omega
    go_ret
    exact ⟨_, rfl, by simpa using HO2.out, HB2.out⟩
end Go.Proofs.Ytfcpebjjcijgcaa.G
-- slices.Clone[[]unicodetext/api.Element,unicodetext/api.Element]: by hand
namespace Go.Proofs.Ytfcpebjjcijgcaa.G
open Go.RowKit Go.Proofs.YtfcpebjjcijgcaaW.PrintWords Go.Proofs.YtfcpebjjcijgcaaW.PrintLast Go.Proofs.YtfcpebjjcijgcaaW.PrintMore
attribute [local go_sem] max2_int min2_int max_two min_two max_three min_three max_four min_four   -- for this text's walks alone
set_option linter.unusedVariables false
set_option linter.unusedSimpArgs false
-- BY HAND: function 32 (api_Element_32)
def api_Element_32.f (l0 : List (S51)) : Option ((List (S51))) := if l0.length < 4398046511104 then some l0 else none
set_option maxHeartbeats 400000 in
theorem api_Element_32.calls (A0 : Option Addr) (c0 : Nat) (l0 : List (S51)) (r : List (S51)) (w : World) (hr0 : Kd.C k51 w A0 l0.length l0) (hc0 : l0.length ≤ c0) (h : api_Element_32.f l0 = some r) :
    Calls Try.prog 32 #[.slice A0 l0.length c0] w fun e w' => ∃ v0_ : Value, e = .returned (v0_) ∧ Kd.R k51 51 w' w.heap.size (fun _ => True) v0_ r ∧ Below w.heap.size w w' := by
  unfold api_Element_32.f at h
  split at h
  case isFalse => cases h
  rename_i hl
  obtain rfl := Option.some.inj h
  clear h
  have HR0 := Aside0.mk hr0
  have HL := Aside0.mk hl
  clear hr0 hl
  have q := fun (w : World) (a : Option Addr) (n c : Nat) => Lib.run_eql_slice_nil (P := Try.prog) w 47 51 a n c 0 0 Try.underlying47
  rcases A0 with _ | ad
  · have h0 : l0 = [] := by
      rcases Nat.eq_zero_or_pos l0.length with h0 | h0
      · exact List.eq_nil_of_length_eq_zero h0
      · obtain ⟨ad, h, _⟩ := HR0.out.2.2 h0
        cases h
    subst h0
    go_enter Try.func32, Try.ntmps32
    go_wp2
    go_ret
    exact ⟨_, rfl, Kd.R_nil _ _ _ _ _, Below.refl _ _⟩
  · go_enter Try.func32, Try.ntmps32
    go_wp2_with (first | ((with_reducible refine gate_dst (N := 5) rfl ?_); refine Kd.R_lit k51 _ 51 ?hg (N := 5) ?hd (xs := []) (inner := []) (ok := fun _ => True) (okp := fun _ => True) ?hr ?hp (fun _ hk => hk) trivial (Below.refl _ _) (Nat.le_refl _) (by simp) ?_; (case hd => rfl); (case hg => rfl); (case hr => first | (go_simp; done) | (go_simp; rfl)); (case hp => exact (Reps.none _ _)); intro v1 w1 ho1 hb1 hg_ hnew_; clear hg_ hnew_; have HO1 := Aside0.mk ho1; have HB1 := Aside0.mk hb1; clear ho1 hb1) | (at_builtin; refine Kd.R_append_rows k51 (w0 := w) (Rr := Kd.K k51 w1) w.heap.size rfl (.tmp 5) (.tmp 6) 47 51 (.agg #[(.int .i64 0), (.int .i64 0), (.int .i64 0), (.bool false)]) 32 rfl Try.underlying47 info51 rfl (by decide) (by decide) v1 [] l0 (some ad) l0.length c0 (fun _ => True) (fun k => some k ≠ v1.ownBlock) rfl rfl (Kd.R_lower HO1.out (Nat.le_refl _)) (Kd.C_below HR0.out HB1.out) ?hKM (fun k hk => ⟨trivial, hk⟩) (fun _ _ => trivial) HB1.out HB1.out.size ?hl ?_; rotate_left 2; intro v2 w2 ho2 hb2 _ _; have HO2 := Aside0.mk ho2; have HB2 := Aside0.mk hb2; clear ho2 hb2))
    case hKM => intro x cs hx; rw [k51_open hx]; exact k51_mkM _ _ _ _
    case hl => simp; have := HL.out; omega
    go_ret
    exact ⟨_, rfl, by simpa using HO2.out, HB2.out⟩
end Go.Proofs.Ytfcpebjjcijgcaa.G
-- by hand: lemmas
namespace Go.Proofs.Ytfcpebjjcijgcaa.G
open Go.RowKit Go.Proofs.YtfcpebjjcijgcaaW.PrintWords Go.Proofs.YtfcpebjjcijgcaaW.PrintLast Go.Proofs.YtfcpebjjcijgcaaW.PrintMore
attribute [local go_sem] max2_int min2_int max_two min_two max_three min_three max_four min_four   -- for this text's walks alone
set_option linter.unusedVariables false
set_option linter.unusedSimpArgs false
/-! The plain answers of the two checks -/
theorem rdT36 {l : List S36} {i : Nat} (h : i < l.length) : rd_T36 l (i : Int) = l[i] := by
  unfold rd_T36
  simp [h]
theorem rdT49 {l : List S49} {i : Nat} (h : i < l.length) : rd_T49 l (i : Int) = l[i] := by
  unfold rd_T49
  simp [h]
theorem rdT51 {l : List S51} {i : Nat} (h : i < l.length) : rd_T51 l (i : Int) = l[i] := by
  unfold rd_T51
  simp [h]
theorem wrap_nat {i : Nat} (h : i < 9223372036854775807) : wrap64 ((i : Int) + 1) = ((i + 1 : Nat) : Int) := by
  rw [wrap_up (by omega) (by omega)]
  omega
theorem wrap_pred {i : Nat} (h : i + 1 < 9223372036854775807) : wrap64 (((i + 1 : Nat) : Int) - 1) = (i : Int) := by
  unfold wrap64
  omega
/-! names -/
/-! the groups -/
section
variable (l : List S36) (hf : fits l = true) (E : List S49) (G : List S36) (base b3 b4 : Int)
include hf
end
/-! the elements -/
/-! sequences -/
end Go.Proofs.Ytfcpebjjcijgcaa.G
