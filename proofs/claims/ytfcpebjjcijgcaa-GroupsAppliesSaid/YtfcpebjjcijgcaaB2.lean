/- Contracts of Go functions, printed by a program of mine over the kit's printer or proved by hand, and plain laws: what the groups' laws lean on. -/
import Derived.BigQuiet
import Derived.BigRegion
import Derived.Deep.RegionHeld3
import Derived.Outline
import Derived.Test.YtfcpebjjcijgcaaB0
import Derived.Test.YtfcpebjjcijgcaaB1
-- unicodetext/unicodetextref43.groups: printed by gprint.py
namespace Go.Proofs.Ytfcpebjjcijgcaa.G
open Go.RowKit Go.Proofs.YtfcpebjjcijgcaaW.PrintWords Go.Proofs.YtfcpebjjcijgcaaW.PrintLast Go.Proofs.YtfcpebjjcijgcaaW.PrintMore
attribute [local go_sem] max2_int min2_int max_two min_two max_three min_three max_four min_four   -- for this text's walks alone
set_option linter.unusedVariables false
set_option linter.unusedSimpArgs false
/-! ### unicodetextref43_groups: function 40 -/
mutual
def unicodetextref43_groups.l0 : Nat → List (S36) → Int → List (S49) → List (S36) → Int → Int → Int → Option (Int)
  | 0, _, _, _, _, _, _, _ => none
  | k + 1, x3, x4, x102000, x102001, x102002, x102003, x102004 => if x4 < (x3.length : Int) then (if 0 ≤ x4 then ((unicodetextref11_Name.f k ((rd_T36 x3 x4).f0)).bind fun t103 => (if t103 = true then (unicodetextref43_groups.l0 k x3 (wrap64 (x4 + 1)) x102000 x102001 x102002 x102003 x102004) else (some 6))) else (none)) else (unicodetextref43_groups.l1 k x3 0 x102000 x102001 x102002 x102003 x102004)
def unicodetextref43_groups.l1 : Nat → List (S36) → Int → List (S49) → List (S36) → Int → Int → Int → Option (Int)
  | 0, _, _, _, _, _, _, _ => none
  | k + 1, x3, x5, x102000, x102001, x102002, x102003, x102004 => if x5 < (x3.length : Int) then (unicodetextref43_groups.l2 k x3 x5 0 x102000 x102001 x102002 x102003 x102004) else (unicodetextref43_groups.l3 k x3 0 x102000 x102001 x102002 x102003 x102004)
def unicodetextref43_groups.l2 : Nat → List (S36) → Int → Int → List (S49) → List (S36) → Int → Int → Int → Option (Int)
  | 0, _, _, _, _, _, _, _, _ => none
  | k + 1, x3, x5, x6, x102000, x102001, x102002, x102003, x102004 => if x6 < x5 then (if 0 ≤ x6 then (if x6 < (x3.length : Int) then (if 0 ≤ x5 then (if x5 < (x3.length : Int) then (if ((rd_T36 x3 x6).f0).toList = ((rd_T36 x3 x5).f0).toList then (some 5) else (unicodetextref43_groups.l2 k x3 x5 (wrap64 (x6 + 1)) x102000 x102001 x102002 x102003 x102004)) else (none)) else (none)) else (none)) else (none)) else (unicodetextref43_groups.l1 k x3 (wrap64 (x5 + 1)) x102000 x102001 x102002 x102003 x102004)
def unicodetextref43_groups.l3 : Nat → List (S36) → Int → List (S49) → List (S36) → Int → Int → Int → Option (Int)
  | 0, _, _, _, _, _, _, _ => none
  | k + 1, x3, x7, x102000, x102001, x102002, x102003, x102004 => if x7 < (x3.length : Int) then (if 0 ≤ x7 then (if ((rd_T36 x3 x7).f1) < 1 then (some 1) else (if ((rd_T36 x3 x7).f2) < ((rd_T36 x3 x7).f1) then (some 1) else (if ((rd_T36 x3 x7).f2) ≥ x102002 then (some 1) else (unicodetextref43_groups.l3 k x3 (wrap64 (x7 + 1)) x102000 x102001 x102002 x102003 x102004)))) else (none)) else (unicodetextref43_groups.l4 k x3 1)
def unicodetextref43_groups.l4 : Nat → List (S36) → Int → Option (Int)
  | 0, _, _ => none
  | k + 1, x3, x8 => if x8 < (x3.length : Int) then (if 0 ≤ x8 then (if 0 ≤ (wrap64 (x8 - 1)) then (if (wrap64 (x8 - 1)) < (x3.length : Int) then (if ((rd_T36 x3 x8).f1) = (wrap64 (((rd_T36 x3 (wrap64 (x8 - 1))).f2) + 1)) then (unicodetextref43_groups.l4 k x3 (wrap64 (x8 + 1))) else (some 4)) else (none)) else (none)) else (none)) else (some 0)
end
def unicodetextref43_groups.f (k : Nat) (l0_0 : List (S49)) (l0_1 : List (S36)) (a0_2 : Int) (a0_3 : Int) (a0_4 : Int) : Option (Int) := unicodetextref43_groups.l0 k l0_1 0 l0_0 l0_1 a0_2 a0_3 a0_4
set_option maxHeartbeats 8000000 in
set_option maxRecDepth 100000 in
theorem unicodetextref43_groups.calls (k : Nat) (A0_0 : Option Addr) (c0_0 : Nat) (l0_0 : List (S49)) (A0_1 : Option Addr) (c0_1 : Nat) (l0_1 : List (S36)) (a0_2 : Int) (a0_3 : Int) (a0_4 : Int) (r : Int) (w : World) (hr0_0 : Kd.C k49 w A0_0 l0_0.length l0_0) (hc0_0 : l0_0.length ≤ c0_0) (hr0_1 : Kd.C k36 w A0_1 l0_1.length l0_1) (hc0_1 : l0_1.length ≤ c0_1) (h : unicodetextref43_groups.f k l0_0 l0_1 a0_2 a0_3 a0_4 = some r) :
  Calls Try.prog 40 #[.agg #[.slice A0_0 l0_0.length c0_0, .slice A0_1 l0_1.length c0_1, .int .i64 a0_2, .int .i64 a0_3, .int .i64 a0_4]] w fun e w' => e = .returned (.int .i64 r) ∧ Below w.heap.size w w' := by
 have hu25 := Try.underlying25
 have HR0_0 := Aside0.mk hr0_0
 have HC0_0 := Aside0.mk hc0_0
 clear hr0_0 hc0_0
 have HR0_1 := Aside0.mk hr0_1
 have HC0_1 := Aside0.mk hc0_1
 clear hr0_1 hc0_1
 have HB := Aside0.mk (Below.refl w.heap.size w)
 have H : (unicodetextref43_groups.l0 k l0_1 0 l0_0 l0_1 a0_2 a0_3 a0_4) = some r := h
 clear h
 have H' := Aside0.mk H
 clear H
 go_enter Try.func40, Try.ntmps40
 go_wp2_with (first | ((with_reducible refine gate_dst (N := 1) rfl ?_); refine box_event ?hg (N := 1) ?hd (cs := #[.slice A0_0 l0_0.length c0_0, .slice A0_1 l0_1.length c0_1, .int .i64 a0_2, .int .i64 a0_3, .int .i64 a0_4]) (t := 25) ?hr ?_; (case hd => rfl); (case hg => rfl); (case hr => first | (go_simp; done) | (go_simp; rfl)); intro gb101 hg w2 hbox hb; have n0_ := Aside0.mk (below_step (by repeat (first | (with_reducible first | exact HB.out | apply below_alloc | apply pw_below_drewN | apply below_drew1) | exact HB.out)) hb); have n1_ := Aside0.mk (hbox); have n2_ := Aside0.mk ((by rw [hg]; exact (below_size (by repeat (first | (with_reducible first | exact HB.out | apply below_alloc | apply pw_below_drewN | apply below_drew1) | exact HB.out))) : w.heap.size ≤ gb101)); have n3_ := Aside0.mk ((by rw [hg]; exact (below_size (by repeat (first | (with_reducible first | exact HB.out | apply below_alloc | apply pw_below_drewN | apply below_drew1) | exact HB.out))) : w.heap.size ≤ gb101)); clear HB; have HB := n0_; have BK101 := n1_; have GW101 := n2_; have GE101 := n3_; clear n0_ n1_ n2_ n3_; clear hb hbox hg; have hcz3_0 : w2.cell? ⟨gb101, 0, none⟩ = some (.slice A0_0 l0_0.length c0_0) := (blk_cell BK101.out 0).trans rfl; have hcz3_1 : w2.cell? ⟨gb101, 1, none⟩ = some (.slice A0_1 l0_1.length c0_1) := (blk_cell BK101.out 1).trans rfl; have hcz3_2 : w2.cell? ⟨gb101, 2, none⟩ = some (.int .i64 a0_2) := (blk_cell BK101.out 2).trans rfl; have hcz3_3 : w2.cell? ⟨gb101, 3, none⟩ = some (.int .i64 a0_3) := (blk_cell BK101.out 3).trans rfl; have hcz3_4 : w2.cell? ⟨gb101, 4, none⟩ = some (.int .i64 a0_4) := (blk_cell BK101.out 4).trans rfl; have hfz3_0 := blk_frozen BK101.out 0; have hfz3_1 := blk_frozen BK101.out 1; have hfz3_2 := blk_frozen BK101.out 2; have hfz3_3 := blk_frozen BK101.out 3; have hfz3_4 := blk_frozen BK101.out 4))
 repeat (go_quiet (first | ((with_reducible refine gate_dst (N := 1) rfl ?_); refine box_event ?hg (N := 1) ?hd (cs := #[.slice A0_0 l0_0.length c0_0, .slice A0_1 l0_1.length c0_1, .int .i64 a0_2, .int .i64 a0_3, .int .i64 a0_4]) (t := 25) ?hr ?_; (case hd => rfl); (case hg => rfl); (case hr => first | (go_simp; done) | (go_simp; rfl)); intro gb101 hg w2 hbox hb; have n0_ := Aside0.mk (below_step (by repeat (first | (with_reducible first | exact HB.out | apply below_alloc | apply pw_below_drewN | apply below_drew1) | exact HB.out)) hb); have n1_ := Aside0.mk (hbox); have n2_ := Aside0.mk ((by rw [hg]; exact (below_size (by repeat (first | (with_reducible first | exact HB.out | apply below_alloc | apply pw_below_drewN | apply below_drew1) | exact HB.out))) : w.heap.size ≤ gb101)); have n3_ := Aside0.mk ((by rw [hg]; exact (below_size (by repeat (first | (with_reducible first | exact HB.out | apply below_alloc | apply pw_below_drewN | apply below_drew1) | exact HB.out))) : w.heap.size ≤ gb101)); clear HB; have HB := n0_; have BK101 := n1_; have GW101 := n2_; have GE101 := n3_; clear n0_ n1_ n2_ n3_; clear hb hbox hg; have hcz3_0 : w2.cell? ⟨gb101, 0, none⟩ = some (.slice A0_0 l0_0.length c0_0) := (blk_cell BK101.out 0).trans rfl; have hcz3_1 : w2.cell? ⟨gb101, 1, none⟩ = some (.slice A0_1 l0_1.length c0_1) := (blk_cell BK101.out 1).trans rfl; have hcz3_2 : w2.cell? ⟨gb101, 2, none⟩ = some (.int .i64 a0_2) := (blk_cell BK101.out 2).trans rfl; have hcz3_3 : w2.cell? ⟨gb101, 3, none⟩ = some (.int .i64 a0_3) := (blk_cell BK101.out 3).trans rfl; have hcz3_4 : w2.cell? ⟨gb101, 4, none⟩ = some (.int .i64 a0_4) := (blk_cell BK101.out 4).trans rfl; have hfz3_0 := blk_frozen BK101.out 0; have hfz3_1 := blk_frozen BK101.out 1; have hfz3_2 := blk_frozen BK101.out 2; have hfz3_3 := blk_frozen BK101.out 3; have hfz3_4 := blk_frozen BK101.out 4)); try go_wp2_with (first | ((with_reducible refine gate_dst (N := 1) rfl ?_); refine box_event ?hg (N := 1) ?hd (cs := #[.slice A0_0 l0_0.length c0_0, .slice A0_1 l0_1.length c0_1, .int .i64 a0_2, .int .i64 a0_3, .int .i64 a0_4]) (t := 25) ?hr ?_; (case hd => rfl); (case hg => rfl); (case hr => first | (go_simp; done) | (go_simp; rfl)); intro gb101 hg w2 hbox hb; have n0_ := Aside0.mk (below_step (by repeat (first | (with_reducible first | exact HB.out | apply below_alloc | apply pw_below_drewN | apply below_drew1) | exact HB.out)) hb); have n1_ := Aside0.mk (hbox); have n2_ := Aside0.mk ((by rw [hg]; exact (below_size (by repeat (first | (with_reducible first | exact HB.out | apply below_alloc | apply pw_below_drewN | apply below_drew1) | exact HB.out))) : w.heap.size ≤ gb101)); have n3_ := Aside0.mk ((by rw [hg]; exact (below_size (by repeat (first | (with_reducible first | exact HB.out | apply below_alloc | apply pw_below_drewN | apply below_drew1) | exact HB.out))) : w.heap.size ≤ gb101)); clear HB; have HB := n0_; have BK101 := n1_; have GW101 := n2_; have GE101 := n3_; clear n0_ n1_ n2_ n3_; clear hb hbox hg; have hcz3_0 : w2.cell? ⟨gb101, 0, none⟩ = some (.slice A0_0 l0_0.length c0_0) := (blk_cell BK101.out 0).trans rfl; have hcz3_1 : w2.cell? ⟨gb101, 1, none⟩ = some (.slice A0_1 l0_1.length c0_1) := (blk_cell BK101.out 1).trans rfl; have hcz3_2 : w2.cell? ⟨gb101, 2, none⟩ = some (.int .i64 a0_2) := (blk_cell BK101.out 2).trans rfl; have hcz3_3 : w2.cell? ⟨gb101, 3, none⟩ = some (.int .i64 a0_3) := (blk_cell BK101.out 3).trans rfl; have hcz3_4 : w2.cell? ⟨gb101, 4, none⟩ = some (.int .i64 a0_4) := (blk_cell BK101.out 4).trans rfl; have hfz3_0 := blk_frozen BK101.out 0; have hfz3_1 := blk_frozen BK101.out 1; have hfz3_2 := blk_frozen BK101.out 2; have hfz3_3 := blk_frozen BK101.out 3; have hfz3_4 := blk_frozen BK101.out 4)))
 go_loopg [4] k (fun kq v4 w' => ∃ (x4_1 : Int), v4 = .int .i64 x4_1 ∧ Aside0 (unicodetextref43_groups.l0 kq l0_1 x4_1 l0_0 l0_1 a0_2 a0_3 a0_4 = some r) ∧ Aside0 (kq ≤ k) ∧ Aside0 (w'.heap[gb101]? = some (.cells #[(.slice A0_0 l0_0.length c0_0), (.slice A0_1 l0_1.length c0_1), .int .i64 a0_2, .int .i64 a0_3, .int .i64 a0_4] 25 (0, 0))) ∧ Aside0 (Below w.heap.size w w'))
 case atStart => exact ⟨(0), (by first | rfl | (simp; done) | (simp [*]; done)), H', ⟨Nat.le_refl _⟩, ⟨by (with_reducible repeat (first | refine blk_drewN ?_ _ | refine blk_drew ?_ | refine blk_alloc ?_ _)); exact BK101.out⟩, ⟨by repeat (first | (with_reducible first | exact HB.out | apply below_alloc | apply pw_below_drewN | apply below_drew1 | refine below_set ?_ GE101.out) | exact HB.out)⟩⟩
 case round =>
  clear H'
  try clear p2
  try clear hcz3_0
  try clear hcz3_1
  try clear hcz3_2
  try clear hcz3_3
  try clear hcz3_4
  try clear hfz3_0
  try clear hfz3_1
  try clear hfz3_2
  try clear hfz3_3
  try clear hfz3_4
  obtain ⟨x4_1, rfl, HA, HK1, BK101, HB⟩ := hrel
  cases gk with
  | zero => exact absurd HA.out (by simp [unicodetextref43_groups.l0])
  | succ k1 =>
   have H := HA.out
   clear HA
   simp only [unicodetextref43_groups.l0] at H
   by_cases c4 : x4_1 < (l0_1.length : Int)
   ·rw [if_pos c4] at H
    have c4b0 : decide (x4_1 < (l0_1.length : Int)) = true := decide_eq_true c4
    clear c4
    by_cases c5 : 0 ≤ x4_1
    ·rw [if_pos c5] at H
     have c5b0 : decide (0 ≤ x4_1) = true := decide_eq_true c5
     clear c5
     replace H := Option.bind_eq_some_iff.mp H
     obtain ⟨t103, A60, H⟩ := H
     replace H : (if t103 = true then (unicodetextref43_groups.l0 k1 l0_1 (wrap64 (x4_1 + 1)) l0_0 l0_1 a0_2 a0_3 a0_4) else (some 6)) = some r := H
     have A6 := Aside0.mk A60
     clear A60
     by_cases c7 : t103 = true
     ·subst c7
      have H1 : (unicodetextref43_groups.l0 k1 l0_1 (wrap64 (x4_1 + 1)) l0_0 l0_1 a0_2 a0_3 a0_4) = some r := by rw [if_pos rfl] at H; exact H
      clear H
      have H := H1
      clear H1
      have H' := Aside0.mk H
      clear H
      have p102 : 0 ≤ (x4_1 : Int) := of_decide_eq_true (by first | (with_reducible assumption) | assumption)
      have q102 : x4_1 < (l0_1.length : Int) := of_decide_eq_true (by first | (with_reducible assumption) | assumption)
      obtain ⟨ad102, e102, hx102_0, hx102_1, hx102_2⟩ := at_T36 HR0_1.out x4_1 p102 q102
      cases e102
      replace hx102_0 := (HB.out.cell (World.block_lt_of_cell? w _ hx102_0)).trans hx102_0
      replace hx102_1 := (HB.out.cell (World.block_lt_of_cell? w _ hx102_1)).trans hx102_1
      replace hx102_2 := (HB.out.cell (World.block_lt_of_cell? w _ hx102_2)).trans hx102_2
      replace p102 := eq_true p102
      replace q102 := eq_true q102
      go_wp2_with (first | (go_at_call 53; (with_reducible refine (unicodetextref11_Name.calls k1 ((rd_T36 l0_1 x4_1).f0) true _ A6.out).mono ?_); rintro e w' ⟨rfl, ⟨nd, rfl⟩⟩; (try first | exact ⟨rfl, _, World.drewN_drewN _ _ _⟩ | exact ⟨rfl, _, Eq.trans (World.drewN_drewN _ _ _) (congrArg (World.drewN _) (Nat.add_assoc _ _ _))⟩)))
      repeat (go_quiet (first | (go_at_call 53; (with_reducible refine (unicodetextref11_Name.calls k1 ((rd_T36 l0_1 x4_1).f0) true _ A6.out).mono ?_); rintro e w' ⟨rfl, ⟨nd, rfl⟩⟩; (try first | exact ⟨rfl, _, World.drewN_drewN _ _ _⟩ | exact ⟨rfl, _, Eq.trans (World.drewN_drewN _ _ _) (congrArg (World.drewN _) (Nat.add_assoc _ _ _))⟩))); try go_wp2_with (first | (go_at_call 53; (with_reducible refine (unicodetextref11_Name.calls k1 ((rd_T36 l0_1 x4_1).f0) true _ A6.out).mono ?_); rintro e w' ⟨rfl, ⟨nd, rfl⟩⟩; (try first | exact ⟨rfl, _, World.drewN_drewN _ _ _⟩ | exact ⟨rfl, _, Eq.trans (World.drewN_drewN _ _ _) (congrArg (World.drewN _) (Nat.add_assoc _ _ _))⟩))))
      go_roundg k1
      case measure => have := HK1.out; omega
      case rel => exact ⟨(wrap64 (x4_1 + 1)), (by first | rfl | (simp; done) | (simp [*]; done)), H', ⟨by have := HK1.out; omega⟩, ⟨by (with_reducible repeat (first | refine blk_drewN ?_ _ | refine blk_drew ?_ | refine blk_alloc ?_ _)); exact BK101.out⟩, ⟨by repeat (first | (with_reducible first | exact HB.out | apply below_alloc | apply pw_below_drewN | apply below_drew1 | refine below_set ?_ GE101.out) | exact HB.out)⟩⟩
     ·replace c7 := Bool.eq_false_iff.mpr c7
      subst c7
      have H1 : (some 6) = some r := by rw [if_neg (show ¬ (false = true) by decide)] at H; exact H
      clear H
      have H := H1
      clear H1
      obtain rfl := Option.some.inj H
      have p102 : 0 ≤ (x4_1 : Int) := of_decide_eq_true (by first | (with_reducible assumption) | assumption)
      have q102 : x4_1 < (l0_1.length : Int) := of_decide_eq_true (by first | (with_reducible assumption) | assumption)
      obtain ⟨ad102, e102, hx102_0, hx102_1, hx102_2⟩ := at_T36 HR0_1.out x4_1 p102 q102
      cases e102
      replace hx102_0 := (HB.out.cell (World.block_lt_of_cell? w _ hx102_0)).trans hx102_0
      replace hx102_1 := (HB.out.cell (World.block_lt_of_cell? w _ hx102_1)).trans hx102_1
      replace hx102_2 := (HB.out.cell (World.block_lt_of_cell? w _ hx102_2)).trans hx102_2
      replace p102 := eq_true p102
      replace q102 := eq_true q102
      go_wp2_with (first | (go_at_call 53; (with_reducible refine (unicodetextref11_Name.calls k1 ((rd_T36 l0_1 x4_1).f0) false _ A6.out).mono ?_); rintro e w' ⟨rfl, ⟨nd, rfl⟩⟩; (try first | exact ⟨rfl, _, World.drewN_drewN _ _ _⟩ | exact ⟨rfl, _, Eq.trans (World.drewN_drewN _ _ _) (congrArg (World.drewN _) (Nat.add_assoc _ _ _))⟩)))
      repeat (go_quiet (first | (go_at_call 53; (with_reducible refine (unicodetextref11_Name.calls k1 ((rd_T36 l0_1 x4_1).f0) false _ A6.out).mono ?_); rintro e w' ⟨rfl, ⟨nd, rfl⟩⟩; (try first | exact ⟨rfl, _, World.drewN_drewN _ _ _⟩ | exact ⟨rfl, _, Eq.trans (World.drewN_drewN _ _ _) (congrArg (World.drewN _) (Nat.add_assoc _ _ _))⟩))); try go_wp2_with (first | (go_at_call 53; (with_reducible refine (unicodetextref11_Name.calls k1 ((rd_T36 l0_1 x4_1).f0) false _ A6.out).mono ?_); rintro e w' ⟨rfl, ⟨nd, rfl⟩⟩; (try first | exact ⟨rfl, _, World.drewN_drewN _ _ _⟩ | exact ⟨rfl, _, Eq.trans (World.drewN_drewN _ _ _) (congrArg (World.drewN _) (Nat.add_assoc _ _ _))⟩))))
      go_ret
      exact ⟨by first | rfl | (simp [errW_none, errW_some] <;> rfl) | (simp [*, errW_none, errW_some] <;> rfl), by repeat (first | (with_reducible first | exact HB.out | apply below_alloc | apply pw_below_drewN | apply below_drew1 | refine below_set ?_ GE101.out) | exact HB.out)⟩
    ·rw [if_neg c5] at H
     exact absurd H (by simp)
   ·rw [if_neg c4] at H
    have c4b0 : decide (x4_1 < (l0_1.length : Int)) = false := decide_eq_false c4
    clear c4
    have H' := Aside0.mk H
    clear H
    go_wp2
    repeat (go_quiet (fail); try go_wp2)
    go_loopg [5] k1 (fun kq v5 w' => ∃ (x5_2 : Int), v5 = .int .i64 x5_2 ∧ Aside0 (unicodetextref43_groups.l1 kq l0_1 x5_2 l0_0 l0_1 a0_2 a0_3 a0_4 = some r) ∧ Aside0 (kq ≤ k1) ∧ Aside0 (w'.heap[gb101]? = some (.cells #[(.slice A0_0 l0_0.length c0_0), (.slice A0_1 l0_1.length c0_1), .int .i64 a0_2, .int .i64 a0_3, .int .i64 a0_4] 25 (0, 0))) ∧ Aside0 (Below w.heap.size w w'))
    case atStart => exact ⟨(0), (by first | rfl | (simp; done) | (simp [*]; done)), H', ⟨Nat.le_refl _⟩, ⟨by (with_reducible repeat (first | refine blk_drewN ?_ _ | refine blk_drew ?_ | refine blk_alloc ?_ _)); exact BK101.out⟩, ⟨by repeat (first | (with_reducible first | exact HB.out | apply below_alloc | apply pw_below_drewN | apply below_drew1 | refine below_set ?_ GE101.out) | exact HB.out)⟩⟩
    case round =>
     clear H'
     try clear p1
     try clear q1
     try clear hx1
     try clear p2
     try clear c4
     try clear c4b0
     try clear c5
     try clear c5b0
     try clear p6
     try clear c7
     try clear hcz3_0
     try clear hcz3_1
     try clear hcz3_2
     try clear hcz3_3
     try clear hcz3_4
     try clear hfz3_0
     try clear hfz3_1
     try clear hfz3_2
     try clear hfz3_3
     try clear hfz3_4
     try clear hx102_0
     try clear hx102_1
     try clear hx102_2
     try clear p102
     try clear p2
     try clear q102
     obtain ⟨x5_2, rfl, HA, HK2, BK101, HB⟩ := hrel
     cases gk with
     | zero => exact absurd HA.out (by simp [unicodetextref43_groups.l1])
     | succ k2 =>
      have H := HA.out
      clear HA
      simp only [unicodetextref43_groups.l1] at H
      by_cases c8 : x5_2 < (l0_1.length : Int)
      ·rw [if_pos c8] at H
       have c8b0 : decide (x5_2 < (l0_1.length : Int)) = true := decide_eq_true c8
       clear c8
       have H' := Aside0.mk H
       clear H
       go_wp2
       repeat (go_quiet (fail); try go_wp2)
       go_loopg [6] k2 (fun kq v6 w' => ∃ (x6_3 : Int), v6 = .int .i64 x6_3 ∧ Aside0 (unicodetextref43_groups.l2 kq l0_1 x5_2 x6_3 l0_0 l0_1 a0_2 a0_3 a0_4 = some r) ∧ Aside0 (kq ≤ k2) ∧ Aside0 (w'.heap[gb101]? = some (.cells #[(.slice A0_0 l0_0.length c0_0), (.slice A0_1 l0_1.length c0_1), .int .i64 a0_2, .int .i64 a0_3, .int .i64 a0_4] 25 (0, 0))) ∧ Aside0 (Below w.heap.size w w'))
       case atStart => exact ⟨(0), (by first | rfl | (simp; done) | (simp [*]; done)), H', ⟨Nat.le_refl _⟩, ⟨by (with_reducible repeat (first | refine blk_drewN ?_ _ | refine blk_drew ?_ | refine blk_alloc ?_ _)); exact BK101.out⟩, ⟨by repeat (first | (with_reducible first | exact HB.out | apply below_alloc | apply pw_below_drewN | apply below_drew1 | refine below_set ?_ GE101.out) | exact HB.out)⟩⟩
       case round =>
        clear H'
        try clear p1
        try clear q1
        try clear hx1
        try clear p2
        try clear c4
        try clear c4b0
        try clear c5
        try clear c5b0
        try clear p6
        try clear c7
        try clear c8
        try clear c8b0
        try clear hcz3_0
        try clear hcz3_1
        try clear hcz3_2
        try clear hcz3_3
        try clear hcz3_4
        try clear hfz3_0
        try clear hfz3_1
        try clear hfz3_2
        try clear hfz3_3
        try clear hfz3_4
        try clear hx102_0
        try clear hx102_1
        try clear hx102_2
        try clear p1
        try clear p102
        try clear p2
        try clear p6
        try clear q1
        try clear q102
        obtain ⟨x6_3, rfl, HA, HK3, BK101, HB⟩ := hrel
        cases gk with
        | zero => exact absurd HA.out (by simp [unicodetextref43_groups.l2])
        | succ k3 =>
         have H := HA.out
         clear HA
         simp only [unicodetextref43_groups.l2] at H
         by_cases c9 : x6_3 < x5_2
         ·rw [if_pos c9] at H
          have c9b0 : decide (x6_3 < x5_2) = true := decide_eq_true c9
          clear c9
          by_cases c10 : 0 ≤ x6_3
          ·rw [if_pos c10] at H
           have c10b0 : decide (0 ≤ x6_3) = true := decide_eq_true c10
           clear c10
           by_cases c11 : x6_3 < (l0_1.length : Int)
           ·rw [if_pos c11] at H
            have c11b0 : decide (x6_3 < (l0_1.length : Int)) = true := decide_eq_true c11
            clear c11
            by_cases c12 : 0 ≤ x5_2
            ·rw [if_pos c12] at H
             have c12b0 : decide (0 ≤ x5_2) = true := decide_eq_true c12
             clear c12
             by_cases c13 : x5_2 < (l0_1.length : Int)
             ·rw [if_pos c13] at H
              have c13b0 : decide (x5_2 < (l0_1.length : Int)) = true := decide_eq_true c13
              clear c13
              by_cases c14 : ((rd_T36 l0_1 x6_3).f0).toList = ((rd_T36 l0_1 x5_2).f0).toList
              ·rw [if_pos c14] at H
               have c14b0 : (((rd_T36 l0_1 x6_3).f0).toList == ((rd_T36 l0_1 x5_2).f0).toList) = true := beq_iff_eq.mpr c14
               have c14b1 : (((rd_T36 l0_1 x6_3).f0).toList != ((rd_T36 l0_1 x5_2).f0).toList) = false := bne_eq_false_iff_eq.mpr c14
               clear c14
               obtain rfl := Option.some.inj H
               have p104 : 0 ≤ (x6_3 : Int) := of_decide_eq_true (by first | (with_reducible assumption) | assumption)
               have q104 : x6_3 < (l0_1.length : Int) := of_decide_eq_true (by first | (with_reducible assumption) | assumption)
               obtain ⟨ad104, e104, hx104_0, hx104_1, hx104_2⟩ := at_T36 HR0_1.out x6_3 p104 q104
               cases e104
               replace hx104_0 := (HB.out.cell (World.block_lt_of_cell? w _ hx104_0)).trans hx104_0
               replace hx104_1 := (HB.out.cell (World.block_lt_of_cell? w _ hx104_1)).trans hx104_1
               replace hx104_2 := (HB.out.cell (World.block_lt_of_cell? w _ hx104_2)).trans hx104_2
               replace p104 := eq_true p104
               replace q104 := eq_true q104
               have p105 : 0 ≤ (x5_2 : Int) := of_decide_eq_true (by first | (with_reducible assumption) | assumption)
               have q105 : x5_2 < (l0_1.length : Int) := of_decide_eq_true (by first | (with_reducible assumption) | assumption)
               obtain ⟨ad105, e105, hx105_0, hx105_1, hx105_2⟩ := at_T36 HR0_1.out x5_2 p105 q105
               obtain rfl : ad104 = ad105 := (by injection e105)
               replace hx105_0 := (HB.out.cell (World.block_lt_of_cell? w _ hx105_0)).trans hx105_0
               replace hx105_1 := (HB.out.cell (World.block_lt_of_cell? w _ hx105_1)).trans hx105_1
               replace hx105_2 := (HB.out.cell (World.block_lt_of_cell? w _ hx105_2)).trans hx105_2
               replace p105 := eq_true p105
               replace q105 := eq_true q105
               go_wp2
               repeat (go_quiet (fail); try go_wp2)
               go_ret
               exact ⟨by first | rfl | (simp [errW_none, errW_some] <;> rfl) | (simp [*, errW_none, errW_some] <;> rfl), by repeat (first | (with_reducible first | exact HB.out | apply below_alloc | apply pw_below_drewN | apply below_drew1 | refine below_set ?_ GE101.out) | exact HB.out)⟩
              ·rw [if_neg c14] at H
               have c14b0 : (((rd_T36 l0_1 x6_3).f0).toList == ((rd_T36 l0_1 x5_2).f0).toList) = false := beq_eq_false_iff_ne.mpr c14
               have c14b1 : (((rd_T36 l0_1 x6_3).f0).toList != ((rd_T36 l0_1 x5_2).f0).toList) = true := bne_iff_ne.mpr c14
               have H' := Aside0.mk H
               clear H
               have p104 : 0 ≤ (x6_3 : Int) := of_decide_eq_true (by first | (with_reducible assumption) | assumption)
               have q104 : x6_3 < (l0_1.length : Int) := of_decide_eq_true (by first | (with_reducible assumption) | assumption)
               obtain ⟨ad104, e104, hx104_0, hx104_1, hx104_2⟩ := at_T36 HR0_1.out x6_3 p104 q104
               cases e104
               replace hx104_0 := (HB.out.cell (World.block_lt_of_cell? w _ hx104_0)).trans hx104_0
               replace hx104_1 := (HB.out.cell (World.block_lt_of_cell? w _ hx104_1)).trans hx104_1
               replace hx104_2 := (HB.out.cell (World.block_lt_of_cell? w _ hx104_2)).trans hx104_2
               replace p104 := eq_true p104
               replace q104 := eq_true q104
               have p105 : 0 ≤ (x5_2 : Int) := of_decide_eq_true (by first | (with_reducible assumption) | assumption)
               have q105 : x5_2 < (l0_1.length : Int) := of_decide_eq_true (by first | (with_reducible assumption) | assumption)
               obtain ⟨ad105, e105, hx105_0, hx105_1, hx105_2⟩ := at_T36 HR0_1.out x5_2 p105 q105
               obtain rfl : ad104 = ad105 := (by injection e105)
               replace hx105_0 := (HB.out.cell (World.block_lt_of_cell? w _ hx105_0)).trans hx105_0
               replace hx105_1 := (HB.out.cell (World.block_lt_of_cell? w _ hx105_1)).trans hx105_1
               replace hx105_2 := (HB.out.cell (World.block_lt_of_cell? w _ hx105_2)).trans hx105_2
               replace p105 := eq_true p105
               replace q105 := eq_true q105
               go_wp2
               repeat (go_quiet (fail); try go_wp2)
               go_roundg k3
               case measure => have := HK1.out; have := HK2.out; have := HK3.out; omega
               case rel => exact ⟨(wrap64 (x6_3 + 1)), (by first | rfl | (simp; done) | (simp [*]; done)), H', ⟨by have := HK1.out; have := HK2.out; have := HK3.out; omega⟩, ⟨by (with_reducible repeat (first | refine blk_drewN ?_ _ | refine blk_drew ?_ | refine blk_alloc ?_ _)); exact BK101.out⟩, ⟨by repeat (first | (with_reducible first | exact HB.out | apply below_alloc | apply pw_below_drewN | apply below_drew1 | refine below_set ?_ GE101.out) | exact HB.out)⟩⟩
             ·rw [if_neg c13] at H
              exact absurd H (by simp)
            ·rw [if_neg c12] at H
             exact absurd H (by simp)
           ·rw [if_neg c11] at H
            exact absurd H (by simp)
          ·rw [if_neg c10] at H
           exact absurd H (by simp)
         ·rw [if_neg c9] at H
          have c9b0 : decide (x6_3 < x5_2) = false := decide_eq_false c9
          clear c9
          have H' := Aside0.mk H
          clear H
          go_wp2
          repeat (go_quiet (fail); try go_wp2)
          go_roundg k3
          case measure => have := HK1.out; have := HK2.out; have := HK3.out; omega
          case rel => exact ⟨(wrap64 (x5_2 + 1)), (by first | rfl | (simp; done) | (simp [*]; done)), H', ⟨by have := HK1.out; have := HK2.out; have := HK3.out; omega⟩, ⟨by (with_reducible repeat (first | refine blk_drewN ?_ _ | refine blk_drew ?_ | refine blk_alloc ?_ _)); exact BK101.out⟩, ⟨by repeat (first | (with_reducible first | exact HB.out | apply below_alloc | apply pw_below_drewN | apply below_drew1 | refine below_set ?_ GE101.out) | exact HB.out)⟩⟩
      ·rw [if_neg c8] at H
       have c8b0 : decide (x5_2 < (l0_1.length : Int)) = false := decide_eq_false c8
       clear c8
       have H' := Aside0.mk H
       clear H
       go_wp2
       repeat (go_quiet (fail); try go_wp2)
       go_loopg [7] k2 (fun kq v7 w' => ∃ (x7_3 : Int), v7 = .int .i64 x7_3 ∧ Aside0 (unicodetextref43_groups.l3 kq l0_1 x7_3 l0_0 l0_1 a0_2 a0_3 a0_4 = some r) ∧ Aside0 (kq ≤ k2) ∧ Aside0 (w'.heap[gb101]? = some (.cells #[(.slice A0_0 l0_0.length c0_0), (.slice A0_1 l0_1.length c0_1), .int .i64 a0_2, .int .i64 a0_3, .int .i64 a0_4] 25 (0, 0))) ∧ Aside0 (Below w.heap.size w w'))
       case atStart => exact ⟨(0), (by first | rfl | (simp; done) | (simp [*]; done)), H', ⟨Nat.le_refl _⟩, ⟨by (with_reducible repeat (first | refine blk_drewN ?_ _ | refine blk_drew ?_ | refine blk_alloc ?_ _)); exact BK101.out⟩, ⟨by repeat (first | (with_reducible first | exact HB.out | apply below_alloc | apply pw_below_drewN | apply below_drew1 | refine below_set ?_ GE101.out) | exact HB.out)⟩⟩
       case round =>
        clear H'
        try clear c1
        try clear p1
        try clear q1
        try clear hx1
        try clear p2
        try clear c4
        try clear c4b0
        try clear c5
        try clear c5b0
        try clear p6
        try clear c7
        try clear c8
        try clear c8b0
        try clear c9
        try clear c9b0
        try clear c10
        try clear c10b0
        try clear p10
        try clear q10
        try clear hx10
        try clear c11
        try clear c11b0
        try clear c12
        try clear c12b0
        try clear c13
        try clear c13b0
        try clear c14
        try clear c14b0
        try clear c14b1
        try clear hcz3_0
        try clear hcz3_1
        try clear hcz3_2
        try clear hcz3_3
        try clear hcz3_4
        try clear hfz3_0
        try clear hfz3_1
        try clear hfz3_2
        try clear hfz3_3
        try clear hfz3_4
        try clear hx102_0
        try clear hx102_1
        try clear hx102_2
        try clear hx104_0
        try clear hx104_1
        try clear hx104_2
        try clear hx105_0
        try clear hx105_1
        try clear hx105_2
        try clear p1
        try clear p102
        try clear p104
        try clear p105
        try clear p2
        try clear p6
        try clear q1
        try clear q102
        try clear q104
        try clear q105
        obtain ⟨x7_3, rfl, HA, HK3, BK101, HB⟩ := hrel
        cases gk with
        | zero => exact absurd HA.out (by simp [unicodetextref43_groups.l3])
        | succ k3 =>
         have H := HA.out
         clear HA
         simp only [unicodetextref43_groups.l3] at H
         by_cases c15 : x7_3 < (l0_1.length : Int)
         ·rw [if_pos c15] at H
          have c15b0 : decide (x7_3 < (l0_1.length : Int)) = true := decide_eq_true c15
          clear c15
          by_cases c16 : 0 ≤ x7_3
          ·rw [if_pos c16] at H
           have c16b0 : decide (0 ≤ x7_3) = true := decide_eq_true c16
           clear c16
           by_cases c17 : ((rd_T36 l0_1 x7_3).f1) < 1
           ·rw [if_pos c17] at H
            have c17b0 : decide (((rd_T36 l0_1 x7_3).f1) < 1) = true := decide_eq_true c17
            clear c17
            obtain rfl := Option.some.inj H
            have p106 : 0 ≤ (x7_3 : Int) := of_decide_eq_true (by first | (with_reducible assumption) | assumption)
            have q106 : x7_3 < (l0_1.length : Int) := of_decide_eq_true (by first | (with_reducible assumption) | assumption)
            obtain ⟨ad106, e106, hx106_0, hx106_1, hx106_2⟩ := at_T36 HR0_1.out x7_3 p106 q106
            cases e106
            replace hx106_0 := (HB.out.cell (World.block_lt_of_cell? w _ hx106_0)).trans hx106_0
            replace hx106_1 := (HB.out.cell (World.block_lt_of_cell? w _ hx106_1)).trans hx106_1
            replace hx106_2 := (HB.out.cell (World.block_lt_of_cell? w _ hx106_2)).trans hx106_2
            replace p106 := eq_true p106
            replace q106 := eq_true q106
            go_wp2
            repeat (go_quiet (fail); try go_wp2)
            go_ret
            exact ⟨by first | rfl | (simp [errW_none, errW_some] <;> rfl) | (simp [*, errW_none, errW_some] <;> rfl), by repeat (first | (with_reducible first | exact HB.out | apply below_alloc | apply pw_below_drewN | apply below_drew1 | refine below_set ?_ GE101.out) | exact HB.out)⟩
           ·rw [if_neg c17] at H
            have c17b0 : decide (((rd_T36 l0_1 x7_3).f1) < 1) = false := decide_eq_false c17
            clear c17
            by_cases c18 : ((rd_T36 l0_1 x7_3).f2) < ((rd_T36 l0_1 x7_3).f1)
            ·rw [if_pos c18] at H
             have c18b0 : decide (((rd_T36 l0_1 x7_3).f2) < ((rd_T36 l0_1 x7_3).f1)) = true := decide_eq_true c18
             clear c18
             obtain rfl := Option.some.inj H
             have p106 : 0 ≤ (x7_3 : Int) := of_decide_eq_true (by first | (with_reducible assumption) | assumption)
             have q106 : x7_3 < (l0_1.length : Int) := of_decide_eq_true (by first | (with_reducible assumption) | assumption)
             obtain ⟨ad106, e106, hx106_0, hx106_1, hx106_2⟩ := at_T36 HR0_1.out x7_3 p106 q106
             cases e106
             replace hx106_0 := (HB.out.cell (World.block_lt_of_cell? w _ hx106_0)).trans hx106_0
             replace hx106_1 := (HB.out.cell (World.block_lt_of_cell? w _ hx106_1)).trans hx106_1
             replace hx106_2 := (HB.out.cell (World.block_lt_of_cell? w _ hx106_2)).trans hx106_2
             replace p106 := eq_true p106
             replace q106 := eq_true q106
             have p107 : 0 ≤ (x7_3 : Int) := of_decide_eq_true (by first | (with_reducible assumption) | assumption)
             have q107 : x7_3 < (l0_1.length : Int) := of_decide_eq_true (by first | (with_reducible assumption) | assumption)
             obtain ⟨ad107, e107, hx107_0, hx107_1, hx107_2⟩ := at_T36 HR0_1.out x7_3 p107 q107
             obtain rfl : ad106 = ad107 := (by injection e107)
             replace hx107_0 := (HB.out.cell (World.block_lt_of_cell? w _ hx107_0)).trans hx107_0
             replace hx107_1 := (HB.out.cell (World.block_lt_of_cell? w _ hx107_1)).trans hx107_1
             replace hx107_2 := (HB.out.cell (World.block_lt_of_cell? w _ hx107_2)).trans hx107_2
             replace p107 := eq_true p107
             replace q107 := eq_true q107
             have p108 : 0 ≤ (x7_3 : Int) := of_decide_eq_true (by first | (with_reducible assumption) | assumption)
             have q108 : x7_3 < (l0_1.length : Int) := of_decide_eq_true (by first | (with_reducible assumption) | assumption)
             obtain ⟨ad108, e108, hx108_0, hx108_1, hx108_2⟩ := at_T36 HR0_1.out x7_3 p108 q108
             obtain rfl : ad106 = ad108 := (by injection e108)
             replace hx108_0 := (HB.out.cell (World.block_lt_of_cell? w _ hx108_0)).trans hx108_0
             replace hx108_1 := (HB.out.cell (World.block_lt_of_cell? w _ hx108_1)).trans hx108_1
             replace hx108_2 := (HB.out.cell (World.block_lt_of_cell? w _ hx108_2)).trans hx108_2
             replace p108 := eq_true p108
             replace q108 := eq_true q108
             go_wp2
             repeat (go_quiet (fail); try go_wp2)
             go_ret
             exact ⟨by first | rfl | (simp [errW_none, errW_some] <;> rfl) | (simp [*, errW_none, errW_some] <;> rfl), by repeat (first | (with_reducible first | exact HB.out | apply below_alloc | apply pw_below_drewN | apply below_drew1 | refine below_set ?_ GE101.out) | exact HB.out)⟩
            ·rw [if_neg c18] at H
             have c18b0 : decide (((rd_T36 l0_1 x7_3).f2) < ((rd_T36 l0_1 x7_3).f1)) = false := decide_eq_false c18
             clear c18
             by_cases c19 : ((rd_T36 l0_1 x7_3).f2) ≥ a0_2
             ·rw [if_pos c19] at H
              have c19b0 : decide (a0_2 ≤ ((rd_T36 l0_1 x7_3).f2)) = true := decide_eq_true c19
              clear c19
              obtain rfl := Option.some.inj H
              have p106 : 0 ≤ (x7_3 : Int) := of_decide_eq_true (by first | (with_reducible assumption) | assumption)
              have q106 : x7_3 < (l0_1.length : Int) := of_decide_eq_true (by first | (with_reducible assumption) | assumption)
              obtain ⟨ad106, e106, hx106_0, hx106_1, hx106_2⟩ := at_T36 HR0_1.out x7_3 p106 q106
              cases e106
              replace hx106_0 := (HB.out.cell (World.block_lt_of_cell? w _ hx106_0)).trans hx106_0
              replace hx106_1 := (HB.out.cell (World.block_lt_of_cell? w _ hx106_1)).trans hx106_1
              replace hx106_2 := (HB.out.cell (World.block_lt_of_cell? w _ hx106_2)).trans hx106_2
              replace p106 := eq_true p106
              replace q106 := eq_true q106
              have p107 : 0 ≤ (x7_3 : Int) := of_decide_eq_true (by first | (with_reducible assumption) | assumption)
              have q107 : x7_3 < (l0_1.length : Int) := of_decide_eq_true (by first | (with_reducible assumption) | assumption)
              obtain ⟨ad107, e107, hx107_0, hx107_1, hx107_2⟩ := at_T36 HR0_1.out x7_3 p107 q107
              obtain rfl : ad106 = ad107 := (by injection e107)
              replace hx107_0 := (HB.out.cell (World.block_lt_of_cell? w _ hx107_0)).trans hx107_0
              replace hx107_1 := (HB.out.cell (World.block_lt_of_cell? w _ hx107_1)).trans hx107_1
              replace hx107_2 := (HB.out.cell (World.block_lt_of_cell? w _ hx107_2)).trans hx107_2
              replace p107 := eq_true p107
              replace q107 := eq_true q107
              have p108 : 0 ≤ (x7_3 : Int) := of_decide_eq_true (by first | (with_reducible assumption) | assumption)
              have q108 : x7_3 < (l0_1.length : Int) := of_decide_eq_true (by first | (with_reducible assumption) | assumption)
              obtain ⟨ad108, e108, hx108_0, hx108_1, hx108_2⟩ := at_T36 HR0_1.out x7_3 p108 q108
              obtain rfl : ad106 = ad108 := (by injection e108)
              replace hx108_0 := (HB.out.cell (World.block_lt_of_cell? w _ hx108_0)).trans hx108_0
              replace hx108_1 := (HB.out.cell (World.block_lt_of_cell? w _ hx108_1)).trans hx108_1
              replace hx108_2 := (HB.out.cell (World.block_lt_of_cell? w _ hx108_2)).trans hx108_2
              replace p108 := eq_true p108
              replace q108 := eq_true q108
              have p109 : 0 ≤ (x7_3 : Int) := of_decide_eq_true (by first | (with_reducible assumption) | assumption)
              have q109 : x7_3 < (l0_1.length : Int) := of_decide_eq_true (by first | (with_reducible assumption) | assumption)
              obtain ⟨ad109, e109, hx109_0, hx109_1, hx109_2⟩ := at_T36 HR0_1.out x7_3 p109 q109
              obtain rfl : ad106 = ad109 := (by injection e109)
              replace hx109_0 := (HB.out.cell (World.block_lt_of_cell? w _ hx109_0)).trans hx109_0
              replace hx109_1 := (HB.out.cell (World.block_lt_of_cell? w _ hx109_1)).trans hx109_1
              replace hx109_2 := (HB.out.cell (World.block_lt_of_cell? w _ hx109_2)).trans hx109_2
              replace p109 := eq_true p109
              replace q109 := eq_true q109
              have hcz20_0 : wr.cell? ⟨gb101, 0, none⟩ = some (.slice A0_0 l0_0.length c0_0) := (blk_cell BK101.out 0).trans rfl
              have hcz20_1 : wr.cell? ⟨gb101, 1, none⟩ = some (.slice (some ad106) l0_1.length c0_1) := (blk_cell BK101.out 1).trans rfl
              have hcz20_2 : wr.cell? ⟨gb101, 2, none⟩ = some (.int .i64 a0_2) := (blk_cell BK101.out 2).trans rfl
              have hcz20_3 : wr.cell? ⟨gb101, 3, none⟩ = some (.int .i64 a0_3) := (blk_cell BK101.out 3).trans rfl
              have hcz20_4 : wr.cell? ⟨gb101, 4, none⟩ = some (.int .i64 a0_4) := (blk_cell BK101.out 4).trans rfl
              have hfz20_0 := blk_frozen BK101.out 0
              have hfz20_1 := blk_frozen BK101.out 1
              have hfz20_2 := blk_frozen BK101.out 2
              have hfz20_3 := blk_frozen BK101.out 3
              have hfz20_4 := blk_frozen BK101.out 4
              go_wp2
              repeat (go_quiet (fail); try go_wp2)
              go_ret
              exact ⟨by first | rfl | (simp [errW_none, errW_some] <;> rfl) | (simp [*, errW_none, errW_some] <;> rfl), by repeat (first | (with_reducible first | exact HB.out | apply below_alloc | apply pw_below_drewN | apply below_drew1 | refine below_set ?_ GE101.out) | exact HB.out)⟩
             ·rw [if_neg c19] at H
              have c19b0 : decide (a0_2 ≤ ((rd_T36 l0_1 x7_3).f2)) = false := decide_eq_false c19
              clear c19
              have H' := Aside0.mk H
              clear H
              have p106 : 0 ≤ (x7_3 : Int) := of_decide_eq_true (by first | (with_reducible assumption) | assumption)
              have q106 : x7_3 < (l0_1.length : Int) := of_decide_eq_true (by first | (with_reducible assumption) | assumption)
              obtain ⟨ad106, e106, hx106_0, hx106_1, hx106_2⟩ := at_T36 HR0_1.out x7_3 p106 q106
              cases e106
              replace hx106_0 := (HB.out.cell (World.block_lt_of_cell? w _ hx106_0)).trans hx106_0
              replace hx106_1 := (HB.out.cell (World.block_lt_of_cell? w _ hx106_1)).trans hx106_1
              replace hx106_2 := (HB.out.cell (World.block_lt_of_cell? w _ hx106_2)).trans hx106_2
              replace p106 := eq_true p106
              replace q106 := eq_true q106
              have p107 : 0 ≤ (x7_3 : Int) := of_decide_eq_true (by first | (with_reducible assumption) | assumption)
              have q107 : x7_3 < (l0_1.length : Int) := of_decide_eq_true (by first | (with_reducible assumption) | assumption)
              obtain ⟨ad107, e107, hx107_0, hx107_1, hx107_2⟩ := at_T36 HR0_1.out x7_3 p107 q107
              obtain rfl : ad106 = ad107 := (by injection e107)
              replace hx107_0 := (HB.out.cell (World.block_lt_of_cell? w _ hx107_0)).trans hx107_0
              replace hx107_1 := (HB.out.cell (World.block_lt_of_cell? w _ hx107_1)).trans hx107_1
              replace hx107_2 := (HB.out.cell (World.block_lt_of_cell? w _ hx107_2)).trans hx107_2
              replace p107 := eq_true p107
              replace q107 := eq_true q107
              have p108 : 0 ≤ (x7_3 : Int) := of_decide_eq_true (by first | (with_reducible assumption) | assumption)
              have q108 : x7_3 < (l0_1.length : Int) := of_decide_eq_true (by first | (with_reducible assumption) | assumption)
              obtain ⟨ad108, e108, hx108_0, hx108_1, hx108_2⟩ := at_T36 HR0_1.out x7_3 p108 q108
              obtain rfl : ad106 = ad108 := (by injection e108)
              replace hx108_0 := (HB.out.cell (World.block_lt_of_cell? w _ hx108_0)).trans hx108_0
              replace hx108_1 := (HB.out.cell (World.block_lt_of_cell? w _ hx108_1)).trans hx108_1
              replace hx108_2 := (HB.out.cell (World.block_lt_of_cell? w _ hx108_2)).trans hx108_2
              replace p108 := eq_true p108
              replace q108 := eq_true q108
              have p109 : 0 ≤ (x7_3 : Int) := of_decide_eq_true (by first | (with_reducible assumption) | assumption)
              have q109 : x7_3 < (l0_1.length : Int) := of_decide_eq_true (by first | (with_reducible assumption) | assumption)
              obtain ⟨ad109, e109, hx109_0, hx109_1, hx109_2⟩ := at_T36 HR0_1.out x7_3 p109 q109
              obtain rfl : ad106 = ad109 := (by injection e109)
              replace hx109_0 := (HB.out.cell (World.block_lt_of_cell? w _ hx109_0)).trans hx109_0
              replace hx109_1 := (HB.out.cell (World.block_lt_of_cell? w _ hx109_1)).trans hx109_1
              replace hx109_2 := (HB.out.cell (World.block_lt_of_cell? w _ hx109_2)).trans hx109_2
              replace p109 := eq_true p109
              replace q109 := eq_true q109
              have hcz21_0 : wr.cell? ⟨gb101, 0, none⟩ = some (.slice A0_0 l0_0.length c0_0) := (blk_cell BK101.out 0).trans rfl
              have hcz21_1 : wr.cell? ⟨gb101, 1, none⟩ = some (.slice (some ad106) l0_1.length c0_1) := (blk_cell BK101.out 1).trans rfl
              have hcz21_2 : wr.cell? ⟨gb101, 2, none⟩ = some (.int .i64 a0_2) := (blk_cell BK101.out 2).trans rfl
              have hcz21_3 : wr.cell? ⟨gb101, 3, none⟩ = some (.int .i64 a0_3) := (blk_cell BK101.out 3).trans rfl
              have hcz21_4 : wr.cell? ⟨gb101, 4, none⟩ = some (.int .i64 a0_4) := (blk_cell BK101.out 4).trans rfl
              have hfz21_0 := blk_frozen BK101.out 0
              have hfz21_1 := blk_frozen BK101.out 1
              have hfz21_2 := blk_frozen BK101.out 2
              have hfz21_3 := blk_frozen BK101.out 3
              have hfz21_4 := blk_frozen BK101.out 4
              go_wp2
              repeat (go_quiet (fail); try go_wp2)
              go_roundg k3
              case measure => have := HK1.out; have := HK2.out; have := HK3.out; omega
              case rel => exact ⟨(wrap64 (x7_3 + 1)), (by first | rfl | (simp; done) | (simp [*]; done)), H', ⟨by have := HK1.out; have := HK2.out; have := HK3.out; omega⟩, ⟨by (with_reducible repeat (first | refine blk_drewN ?_ _ | refine blk_drew ?_ | refine blk_alloc ?_ _)); exact BK101.out⟩, ⟨by repeat (first | (with_reducible first | exact HB.out | apply below_alloc | apply pw_below_drewN | apply below_drew1 | refine below_set ?_ GE101.out) | exact HB.out)⟩⟩
          ·rw [if_neg c16] at H
           exact absurd H (by simp)
         ·rw [if_neg c15] at H
          have c15b0 : decide (x7_3 < (l0_1.length : Int)) = false := decide_eq_false c15
          clear c15
          have H' := Aside0.mk H
          clear H
          go_wp2
          repeat (go_quiet (fail); try go_wp2)
          go_loopg [8] k3 (fun kq v8 w' => ∃ (x8_4 : Int), v8 = .int .i64 x8_4 ∧ Aside0 (unicodetextref43_groups.l4 kq l0_1 x8_4 = some r) ∧ Aside0 (kq ≤ k3) ∧ Aside0 (w'.heap[gb101]? = some (.cells #[(.slice A0_0 l0_0.length c0_0), (.slice A0_1 l0_1.length c0_1), .int .i64 a0_2, .int .i64 a0_3, .int .i64 a0_4] 25 (0, 0))) ∧ Aside0 (Below w.heap.size w w'))
          case atStart => exact ⟨(1), (by first | rfl | (simp; done) | (simp [*]; done)), H', ⟨Nat.le_refl _⟩, ⟨by (with_reducible repeat (first | refine blk_drewN ?_ _ | refine blk_drew ?_ | refine blk_alloc ?_ _)); exact BK101.out⟩, ⟨by repeat (first | (with_reducible first | exact HB.out | apply below_alloc | apply pw_below_drewN | apply below_drew1 | refine below_set ?_ GE101.out) | exact HB.out)⟩⟩
          case round =>
           clear H'
           try clear c1
           try clear p1
           try clear q1
           try clear hx1
           try clear p2
           try clear c4
           try clear c4b0
           try clear c5
           try clear c5b0
           try clear p6
           try clear c7
           try clear c8
           try clear c8b0
           try clear c9
           try clear c9b0
           try clear c10
           try clear c10b0
           try clear p10
           try clear q10
           try clear hx10
           try clear c11
           try clear c11b0
           try clear c12
           try clear c12b0
           try clear c13
           try clear c13b0
           try clear c14
           try clear c14b0
           try clear c14b1
           try clear c15
           try clear c15b0
           try clear c16
           try clear c16b0
           try clear c17
           try clear c17b0
           try clear c18
           try clear c18b0
           try clear c19
           try clear c19b0
           try clear hcz20_0
           try clear hcz20_1
           try clear hcz20_2
           try clear hcz20_3
           try clear hcz20_4
           try clear hcz21_0
           try clear hcz21_1
           try clear hcz21_2
           try clear hcz21_3
           try clear hcz21_4
           try clear hcz3_0
           try clear hcz3_1
           try clear hcz3_2
           try clear hcz3_3
           try clear hcz3_4
           try clear hfz20_0
           try clear hfz20_1
           try clear hfz20_2
           try clear hfz20_3
           try clear hfz20_4
           try clear hfz21_0
           try clear hfz21_1
           try clear hfz21_2
           try clear hfz21_3
           try clear hfz21_4
           try clear hfz3_0
           try clear hfz3_1
           try clear hfz3_2
           try clear hfz3_3
           try clear hfz3_4
           try clear hx102_0
           try clear hx102_1
           try clear hx102_2
           try clear hx104_0
           try clear hx104_1
           try clear hx104_2
           try clear hx105_0
           try clear hx105_1
           try clear hx105_2
           try clear hx106_0
           try clear hx106_1
           try clear hx106_2
           try clear hx107_0
           try clear hx107_1
           try clear hx107_2
           try clear hx108_0
           try clear hx108_1
           try clear hx108_2
           try clear hx109_0
           try clear hx109_1
           try clear hx109_2
           try clear p1
           try clear p10
           try clear p102
           try clear p104
           try clear p105
           try clear p106
           try clear p107
           try clear p108
           try clear p109
           try clear p2
           try clear p6
           try clear q1
           try clear q10
           try clear q102
           try clear q104
           try clear q105
           try clear q106
           try clear q107
           try clear q108
           try clear q109
           obtain ⟨x8_4, rfl, HA, HK4, BK101, HB⟩ := hrel
           cases gk with
           | zero => exact absurd HA.out (by simp [unicodetextref43_groups.l4])
           | succ k4 =>
            have H := HA.out
            clear HA
            simp only [unicodetextref43_groups.l4] at H
            by_cases c22 : x8_4 < (l0_1.length : Int)
            ·rw [if_pos c22] at H
             have c22b0 : decide (x8_4 < (l0_1.length : Int)) = true := decide_eq_true c22
             clear c22
             by_cases c23 : 0 ≤ x8_4
             ·rw [if_pos c23] at H
              have c23b0 : decide (0 ≤ x8_4) = true := decide_eq_true c23
              clear c23
              obtain ⟨ji24, hji24⟩ : ∃ j_ : Int, (wrap64 (x8_4 - 1)) = j_ := ⟨_, rfl⟩
              replace H : (if 0 ≤ (ji24) then (if (ji24) < (l0_1.length : Int) then (if ((rd_T36 l0_1 x8_4).f1) = (wrap64 (((rd_T36 l0_1 (ji24)).f2) + 1)) then (unicodetextref43_groups.l4 k4 l0_1 (wrap64 (x8_4 + 1))) else (some 4)) else (none)) else (none)) = some r := by first | (rw [hji24] at H; exact H) | (simp only [hji24] at H ⊢; exact H)
              have hji24w : (IntKind.i64.wrap (x8_4 - 1)) = ji24 := (i64_w _).trans hji24
              by_cases c25 : 0 ≤ (ji24)
              ·rw [if_pos c25] at H
               have c25b0 : decide (0 ≤ (ji24)) = true := decide_eq_true c25
               clear c25
               by_cases c26 : (ji24) < (l0_1.length : Int)
               ·rw [if_pos c26] at H
                have c26b0 : decide ((ji24) < (l0_1.length : Int)) = true := decide_eq_true c26
                clear c26
                by_cases c27 : ((rd_T36 l0_1 x8_4).f1) = (wrap64 (((rd_T36 l0_1 (ji24)).f2) + 1))
                ·rw [if_pos c27] at H
                 have c27b0 : (((rd_T36 l0_1 x8_4).f1) == (wrap64 (((rd_T36 l0_1 (ji24)).f2) + 1))) = true := beq_iff_eq.mpr c27
                 have c27b1 : (((rd_T36 l0_1 x8_4).f1) != (wrap64 (((rd_T36 l0_1 (ji24)).f2) + 1))) = false := bne_eq_false_iff_eq.mpr c27
                 clear c27
                 have H' := Aside0.mk H
                 clear H
                 have p110 : 0 ≤ (x8_4 : Int) := of_decide_eq_true (by first | (with_reducible assumption) | assumption)
                 have q110 : x8_4 < (l0_1.length : Int) := of_decide_eq_true (by first | (with_reducible assumption) | assumption)
                 obtain ⟨ad110, e110, hx110_0, hx110_1, hx110_2⟩ := at_T36 HR0_1.out x8_4 p110 q110
                 cases e110
                 replace hx110_0 := (HB.out.cell (World.block_lt_of_cell? w _ hx110_0)).trans hx110_0
                 replace hx110_1 := (HB.out.cell (World.block_lt_of_cell? w _ hx110_1)).trans hx110_1
                 replace hx110_2 := (HB.out.cell (World.block_lt_of_cell? w _ hx110_2)).trans hx110_2
                 replace p110 := eq_true p110
                 replace q110 := eq_true q110
                 have p111 : 0 ≤ ((ji24) : Int) := of_decide_eq_true (by first | (with_reducible assumption) | assumption)
                 have q111 : (ji24) < (l0_1.length : Int) := of_decide_eq_true (by first | (with_reducible assumption) | assumption)
                 obtain ⟨ad111, e111, hx111_0, hx111_1, hx111_2⟩ := at_T36 HR0_1.out (ji24) p111 q111
                 obtain rfl : ad110 = ad111 := (by injection e111)
                 replace hx111_0 := (HB.out.cell (World.block_lt_of_cell? w _ hx111_0)).trans hx111_0
                 replace hx111_1 := (HB.out.cell (World.block_lt_of_cell? w _ hx111_1)).trans hx111_1
                 replace hx111_2 := (HB.out.cell (World.block_lt_of_cell? w _ hx111_2)).trans hx111_2
                 replace p111 := eq_true p111
                 replace q111 := eq_true q111
                 go_wp2
                 repeat (go_quiet (fail); try go_wp2)
                 go_roundg k4
                 case measure => have := HK1.out; have := HK2.out; have := HK3.out; have := HK4.out; omega
                 case rel => exact ⟨(wrap64 (x8_4 + 1)), (by first | rfl | (simp; done) | (simp [*]; done)), H', ⟨by have := HK1.out; have := HK2.out; have := HK3.out; have := HK4.out; omega⟩, ⟨by (with_reducible repeat (first | refine blk_drewN ?_ _ | refine blk_drew ?_ | refine blk_alloc ?_ _)); exact BK101.out⟩, ⟨by repeat (first | (with_reducible first | exact HB.out | apply below_alloc | apply pw_below_drewN | apply below_drew1 | refine below_set ?_ GE101.out) | exact HB.out)⟩⟩
                ·rw [if_neg c27] at H
                 have c27b0 : (((rd_T36 l0_1 x8_4).f1) == (wrap64 (((rd_T36 l0_1 (ji24)).f2) + 1))) = false := beq_eq_false_iff_ne.mpr c27
                 have c27b1 : (((rd_T36 l0_1 x8_4).f1) != (wrap64 (((rd_T36 l0_1 (ji24)).f2) + 1))) = true := bne_iff_ne.mpr c27
                 obtain rfl := Option.some.inj H
                 have p110 : 0 ≤ (x8_4 : Int) := of_decide_eq_true (by first | (with_reducible assumption) | assumption)
                 have q110 : x8_4 < (l0_1.length : Int) := of_decide_eq_true (by first | (with_reducible assumption) | assumption)
                 obtain ⟨ad110, e110, hx110_0, hx110_1, hx110_2⟩ := at_T36 HR0_1.out x8_4 p110 q110
                 cases e110
                 replace hx110_0 := (HB.out.cell (World.block_lt_of_cell? w _ hx110_0)).trans hx110_0
                 replace hx110_1 := (HB.out.cell (World.block_lt_of_cell? w _ hx110_1)).trans hx110_1
                 replace hx110_2 := (HB.out.cell (World.block_lt_of_cell? w _ hx110_2)).trans hx110_2
                 replace p110 := eq_true p110
                 replace q110 := eq_true q110
                 have p111 : 0 ≤ ((ji24) : Int) := of_decide_eq_true (by first | (with_reducible assumption) | assumption)
                 have q111 : (ji24) < (l0_1.length : Int) := of_decide_eq_true (by first | (with_reducible assumption) | assumption)
                 obtain ⟨ad111, e111, hx111_0, hx111_1, hx111_2⟩ := at_T36 HR0_1.out (ji24) p111 q111
                 obtain rfl : ad110 = ad111 := (by injection e111)
                 replace hx111_0 := (HB.out.cell (World.block_lt_of_cell? w _ hx111_0)).trans hx111_0
                 replace hx111_1 := (HB.out.cell (World.block_lt_of_cell? w _ hx111_1)).trans hx111_1
                 replace hx111_2 := (HB.out.cell (World.block_lt_of_cell? w _ hx111_2)).trans hx111_2
                 replace p111 := eq_true p111
                 replace q111 := eq_true q111
                 go_wp2
                 repeat (go_quiet (fail); try go_wp2)
                 go_ret
                 exact ⟨by first | rfl | (simp [errW_none, errW_some] <;> rfl) | (simp only [← hji24]; first | rfl | (simp [errW_none, errW_some] <;> rfl)) | (simp [*, errW_none, errW_some] <;> rfl), by repeat (first | (with_reducible first | exact HB.out | apply below_alloc | apply pw_below_drewN | apply below_drew1 | refine below_set ?_ GE101.out) | exact HB.out)⟩
               ·rw [if_neg c26] at H
                exact absurd H (by simp)
              ·rw [if_neg c25] at H
               exact absurd H (by simp)
             ·rw [if_neg c23] at H
              exact absurd H (by simp)
            ·rw [if_neg c22] at H
             have c22b0 : decide (x8_4 < (l0_1.length : Int)) = false := decide_eq_false c22
             clear c22
             obtain rfl := Option.some.inj H
             go_wp2
             repeat (go_quiet (fail); try go_wp2)
             go_ret
             exact ⟨by first | rfl | (simp [errW_none, errW_some] <;> rfl) | (simp [*, errW_none, errW_some] <;> rfl), by repeat (first | (with_reducible first | exact HB.out | apply below_alloc | apply pw_below_drewN | apply below_drew1 | refine below_set ?_ GE101.out) | exact HB.out)⟩
end Go.Proofs.Ytfcpebjjcijgcaa.G
-- unicodetext/unicodetextref42.weight: printed by gprint.py
namespace Go.Proofs.Ytfcpebjjcijgcaa.G
open Go.RowKit Go.Proofs.YtfcpebjjcijgcaaW.PrintWords Go.Proofs.YtfcpebjjcijgcaaW.PrintLast Go.Proofs.YtfcpebjjcijgcaaW.PrintMore
attribute [local go_sem] max2_int min2_int max_two min_two max_three min_three max_four min_four   -- for this text's walks alone
set_option linter.unusedVariables false
set_option linter.unusedSimpArgs false
/-! ### unicodetextref42_weight: function 60 -/
def unicodetextref42_weight.f (a0 : Int) : Option (Bool) := if a0 ≥ 0 then (some (decide (a0 ≤ 65535))) else (some false)
set_option maxHeartbeats 8000000 in
set_option maxRecDepth 100000 in
theorem unicodetextref42_weight.calls (a0 : Int) (r : Bool) (w : World) (h : unicodetextref42_weight.f a0 = some r) :
    Calls Try.prog 60 #[.int .i64 a0] w fun e w' => e = .returned (.bool r) ∧ Drawn0 w w' := by
  have H : (if a0 ≥ 0 then (some (decide (a0 ≤ 65535))) else (some false)) = some r := h
  clear h
  by_cases c2 : a0 ≥ 0
  · rw [if_pos c2] at H
    have c2b0 : decide (0 ≤ a0) = true := decide_eq_true c2
    clear c2
    obtain rfl := Option.some.inj H
    go_enter Try.func60, Try.ntmps60
    go_wp2
    go_ret
    exact ⟨by first | rfl | (simp; done) | (simp [*]; done), by repeat (first | exact Drawn0.refl _ | apply Drawn0.step)⟩
  · rw [if_neg c2] at H
    have c2b0 : decide (0 ≤ a0) = false := decide_eq_false c2
    clear c2
    obtain rfl := Option.some.inj H
    go_enter Try.func60, Try.ntmps60
    go_wp2
    go_ret
    exact ⟨by first | rfl | (simp; done) | (simp [*]; done), by repeat (first | exact Drawn0.refl _ | apply Drawn0.step)⟩
end Go.Proofs.Ytfcpebjjcijgcaa.G
-- unicodetext/unicodetextref42.Check: printed by gprint.py
namespace Go.Proofs.Ytfcpebjjcijgcaa.G
open Go.RowKit Go.Proofs.YtfcpebjjcijgcaaW.PrintWords Go.Proofs.YtfcpebjjcijgcaaW.PrintLast Go.Proofs.YtfcpebjjcijgcaaW.PrintMore
attribute [local go_sem] max2_int min2_int max_two min_two max_three min_three max_four min_four   -- for this text's walks alone
set_option linter.unusedVariables false
set_option linter.unusedSimpArgs false
/-! ### unicodetextref42_Check: function 55 -/
def unicodetextref42_Check.j0 : Nat → Bool → Int → Int → Int → Bool → Option (Int)
  | 0, _, _, _, _, _ => none
  | k + 1, x18, x102000, x102001, x102002, x102003 => if x18 = true then (some 1) else (if x102000 = 0 then (if x102001 = 0 then (if x102003 = true then (some 11) else (some 0)) else (if x102002 = 0 then (some 11) else (if x102003 = true then (some 11) else (some 0)))) else (if x102001 = 0 then (some 11) else (if x102002 = 0 then (some 11) else (if x102003 = true then (some 0) else (some 0)))))
def unicodetextref42_Check.f (k : Nat) (a0_0 : Int) (a0_1 : Int) (a0_2 : Int) (a0_3 : Bool) : Option (Int) := (unicodetextref42_weight.f a0_0).bind fun t102 => (if t102 = true then ((unicodetextref42_weight.f a0_1).bind fun t103 => (if t103 = true then ((unicodetextref42_weight.f a0_2).bind fun t104 => (unicodetextref42_Check.j0 k (!t104) a0_0 a0_1 a0_2 a0_3)) else (unicodetextref42_Check.j0 k true a0_0 a0_1 a0_2 a0_3))) else (unicodetextref42_Check.j0 k true a0_0 a0_1 a0_2 a0_3))
set_option maxHeartbeats 8000000 in
set_option maxRecDepth 100000 in
theorem unicodetextref42_Check.calls (k : Nat) (a0_0 : Int) (a0_1 : Int) (a0_2 : Int) (a0_3 : Bool) (r : Int) (w : World) (h : unicodetextref42_Check.f k a0_0 a0_1 a0_2 a0_3 = some r) :
  Calls Try.prog 55 #[.agg #[.int .i64 a0_0, .int .i64 a0_1, .int .i64 a0_2, .bool a0_3]] w fun e w' => e = .returned (.int .i64 r) ∧ Below w.heap.size w w' := by
 have hu51 := Try.underlying51
 have HB := Aside0.mk (Below.refl w.heap.size w)
 have H : ((unicodetextref42_weight.f a0_0).bind fun t102 => (if t102 = true then ((unicodetextref42_weight.f a0_1).bind fun t103 => (if t103 = true then ((unicodetextref42_weight.f a0_2).bind fun t104 => (unicodetextref42_Check.j0 k (!t104) a0_0 a0_1 a0_2 a0_3)) else (unicodetextref42_Check.j0 k true a0_0 a0_1 a0_2 a0_3))) else (unicodetextref42_Check.j0 k true a0_0 a0_1 a0_2 a0_3))) = some r := h
 clear h
 have HC2 := Aside0.mk H
 clear H
 go_enter Try.func55, Try.ntmps55
 go_upto_region 1 with (first | ((with_reducible refine gate_dst (N := 1) rfl ?_); refine box_event ?hg (N := 1) ?hd (cs := #[.int .i64 a0_0, .int .i64 a0_1, .int .i64 a0_2, .bool a0_3]) (t := 51) ?hr ?_; (case hd => rfl); (case hg => rfl); (case hr => first | (go_simp; done) | (go_simp; rfl)); intro gb101 hg w3 hbox hb; have n0_ := Aside0.mk (below_step (by repeat (first | (with_reducible first | exact HB.out | apply below_alloc | apply pw_below_drewN | apply below_drew1) | exact HB.out)) hb); have n1_ := Aside0.mk (hbox); have n2_ := Aside0.mk ((by rw [hg]; exact (below_size (by repeat (first | (with_reducible first | exact HB.out | apply below_alloc | apply pw_below_drewN | apply below_drew1) | exact HB.out))) : w.heap.size ≤ gb101)); have n3_ := Aside0.mk ((by rw [hg]; exact (below_size (by repeat (first | (with_reducible first | exact HB.out | apply below_alloc | apply pw_below_drewN | apply below_drew1) | exact HB.out))) : w.heap.size ≤ gb101)); clear HB; have HB := n0_; have BK101 := n1_; have GW101 := n2_; have GE101 := n3_; clear n0_ n1_ n2_ n3_; clear hb hbox hg))
 (try simp only [Act.put, List.setIfInBounds_toArray, List.set_cons_zero, List.set_cons_succ])
 go_cut [18] (fun v18 wc => ∃ (kq : Nat) (x18_1 : Bool), v18 = .bool x18_1 ∧ Aside0 (unicodetextref42_Check.j0 kq x18_1 a0_0 a0_1 a0_2 a0_3 = some r) ∧ Aside0 (kq ≤ k) ∧ Aside0 (wc.heap[gb101]? = some (.cells #[.int .i64 a0_0, .int .i64 a0_1, .int .i64 a0_2, .bool a0_3] 51 (0, 0))) ∧ Aside0 (Below w.heap.size w wc))
 case first =>
  have H := HC2.out
  clear HC2
  replace H := Option.bind_eq_some_iff.mp H
  obtain ⟨t102, A40, H⟩ := H
  replace H : (if t102 = true then ((unicodetextref42_weight.f a0_1).bind fun t103 => (if t103 = true then ((unicodetextref42_weight.f a0_2).bind fun t104 => (unicodetextref42_Check.j0 k (!t104) a0_0 a0_1 a0_2 a0_3)) else (unicodetextref42_Check.j0 k true a0_0 a0_1 a0_2 a0_3))) else (unicodetextref42_Check.j0 k true a0_0 a0_1 a0_2 a0_3)) = some r := H
  have A4 := Aside0.mk A40
  clear A40
  by_cases c5 : t102 = true
  ·subst c5
   have H1 : ((unicodetextref42_weight.f a0_1).bind fun t103 => (if t103 = true then ((unicodetextref42_weight.f a0_2).bind fun t104 => (unicodetextref42_Check.j0 k (!t104) a0_0 a0_1 a0_2 a0_3)) else (unicodetextref42_Check.j0 k true a0_0 a0_1 a0_2 a0_3))) = some r := by rw [if_pos rfl] at H; exact H
   clear H
   have H := H1
   clear H1
   replace H := Option.bind_eq_some_iff.mp H
   obtain ⟨t103, A60, H⟩ := H
   replace H : (if t103 = true then ((unicodetextref42_weight.f a0_2).bind fun t104 => (unicodetextref42_Check.j0 k (!t104) a0_0 a0_1 a0_2 a0_3)) else (unicodetextref42_Check.j0 k true a0_0 a0_1 a0_2 a0_3)) = some r := H
   have A6 := Aside0.mk A60
   clear A60
   by_cases c7 : t103 = true
   ·subst c7
    have H1 : ((unicodetextref42_weight.f a0_2).bind fun t104 => (unicodetextref42_Check.j0 k (!t104) a0_0 a0_1 a0_2 a0_3)) = some r := by rw [if_pos rfl] at H; exact H
    clear H
    have H := H1
    clear H1
    replace H := Option.bind_eq_some_iff.mp H
    obtain ⟨t104, A80, H⟩ := H
    replace H : (unicodetextref42_Check.j0 k (!t104) a0_0 a0_1 a0_2 a0_3) = some r := H
    have A8 := Aside0.mk A80
    clear A80
    have H' := Aside0.mk H
    clear H
    have hcz9_0 : w3.cell? ⟨gb101, 0, none⟩ = some (.int .i64 a0_0) := (blk_cell BK101.out 0).trans rfl
    have hcz9_1 : w3.cell? ⟨gb101, 1, none⟩ = some (.int .i64 a0_1) := (blk_cell BK101.out 1).trans rfl
    have hcz9_2 : w3.cell? ⟨gb101, 2, none⟩ = some (.int .i64 a0_2) := (blk_cell BK101.out 2).trans rfl
    have hcz9_3 : w3.cell? ⟨gb101, 3, none⟩ = some (.bool a0_3) := (blk_cell BK101.out 3).trans rfl
    have hfz9_0 := blk_frozen BK101.out 0
    have hfz9_1 := blk_frozen BK101.out 1
    have hfz9_2 := blk_frozen BK101.out 2
    have hfz9_3 := blk_frozen BK101.out 3
    go_wp2_with (first | ((with_reducible refine gate_callee (f := 60) rfl ?_); refine goesL_ (some 5) rfl rfl Try.func60 (by kernel_rfl) rfl #[.int .i64 a0_0] rfl (by (try simp only [List.map_toArray, List.map_cons, List.map_nil]); first | done | rfl | (simp only [List.length_drop, List.length_take]; rfl)) ?_; (with_reducible refine (unicodetextref42_weight.calls a0_0 true _ A4.out).mono ?_); rintro e w' ⟨rfl, ⟨nd, rfl⟩⟩; refine ⟨_, rfl, ?_⟩) | (go_at_call 60; (with_reducible refine (unicodetextref42_weight.calls a0_1 true _ A6.out).mono ?_); rintro e w' ⟨rfl, ⟨nd, rfl⟩⟩) | (go_at_call 60; (with_reducible refine (unicodetextref42_weight.calls a0_2 t104 _ A8.out).mono ?_); rintro e w' ⟨rfl, ⟨nd, rfl⟩⟩))
    go_meet
    case rel => exact ⟨_, (!t104), (by first | rfl | (simp; done) | (simp [*]; done)), H', ⟨by first | omega | exact Nat.le_refl _⟩, ⟨by (with_reducible repeat (first | refine blk_drewN ?_ _ | refine blk_drew ?_ | refine blk_alloc ?_ _)); exact BK101.out⟩, ⟨by repeat (first | (with_reducible first | exact HB.out | apply below_alloc | apply pw_below_drewN | apply below_drew1 | refine below_set ?_ GE101.out) | exact HB.out)⟩⟩
   ·replace c7 := Bool.eq_false_iff.mpr c7
    subst c7
    have H1 : (unicodetextref42_Check.j0 k true a0_0 a0_1 a0_2 a0_3) = some r := by rw [if_neg (show ¬ (false = true) by decide)] at H; exact H
    clear H
    have H := H1
    clear H1
    have H' := Aside0.mk H
    clear H
    have hcz10_0 : w3.cell? ⟨gb101, 0, none⟩ = some (.int .i64 a0_0) := (blk_cell BK101.out 0).trans rfl
    have hcz10_1 : w3.cell? ⟨gb101, 1, none⟩ = some (.int .i64 a0_1) := (blk_cell BK101.out 1).trans rfl
    have hcz10_2 : w3.cell? ⟨gb101, 2, none⟩ = some (.int .i64 a0_2) := (blk_cell BK101.out 2).trans rfl
    have hcz10_3 : w3.cell? ⟨gb101, 3, none⟩ = some (.bool a0_3) := (blk_cell BK101.out 3).trans rfl
    have hfz10_0 := blk_frozen BK101.out 0
    have hfz10_1 := blk_frozen BK101.out 1
    have hfz10_2 := blk_frozen BK101.out 2
    have hfz10_3 := blk_frozen BK101.out 3
    go_wp2_with (first | ((with_reducible refine gate_callee (f := 60) rfl ?_); refine goesL_ (some 5) rfl rfl Try.func60 (by kernel_rfl) rfl #[.int .i64 a0_0] rfl (by (try simp only [List.map_toArray, List.map_cons, List.map_nil]); first | done | rfl | (simp only [List.length_drop, List.length_take]; rfl)) ?_; (with_reducible refine (unicodetextref42_weight.calls a0_0 true _ A4.out).mono ?_); rintro e w' ⟨rfl, ⟨nd, rfl⟩⟩; refine ⟨_, rfl, ?_⟩) | (go_at_call 60; (with_reducible refine (unicodetextref42_weight.calls a0_1 false _ A6.out).mono ?_); rintro e w' ⟨rfl, ⟨nd, rfl⟩⟩))
    go_meet
    case rel => exact ⟨_, (true), (by first | rfl | (simp; done) | (simp [*]; done)), H', ⟨by first | omega | exact Nat.le_refl _⟩, ⟨by (with_reducible repeat (first | refine blk_drewN ?_ _ | refine blk_drew ?_ | refine blk_alloc ?_ _)); exact BK101.out⟩, ⟨by repeat (first | (with_reducible first | exact HB.out | apply below_alloc | apply pw_below_drewN | apply below_drew1 | refine below_set ?_ GE101.out) | exact HB.out)⟩⟩
  ·replace c5 := Bool.eq_false_iff.mpr c5
   subst c5
   have H1 : (unicodetextref42_Check.j0 k true a0_0 a0_1 a0_2 a0_3) = some r := by rw [if_neg (show ¬ (false = true) by decide)] at H; exact H
   clear H
   have H := H1
   clear H1
   have H' := Aside0.mk H
   clear H
   have hcz11_0 : w3.cell? ⟨gb101, 0, none⟩ = some (.int .i64 a0_0) := (blk_cell BK101.out 0).trans rfl
   have hcz11_1 : w3.cell? ⟨gb101, 1, none⟩ = some (.int .i64 a0_1) := (blk_cell BK101.out 1).trans rfl
   have hcz11_2 : w3.cell? ⟨gb101, 2, none⟩ = some (.int .i64 a0_2) := (blk_cell BK101.out 2).trans rfl
   have hcz11_3 : w3.cell? ⟨gb101, 3, none⟩ = some (.bool a0_3) := (blk_cell BK101.out 3).trans rfl
   have hfz11_0 := blk_frozen BK101.out 0
   have hfz11_1 := blk_frozen BK101.out 1
   have hfz11_2 := blk_frozen BK101.out 2
   have hfz11_3 := blk_frozen BK101.out 3
   go_wp2_with (first | ((with_reducible refine gate_callee (f := 60) rfl ?_); refine goesL_ (some 5) rfl rfl Try.func60 (by kernel_rfl) rfl #[.int .i64 a0_0] rfl (by (try simp only [List.map_toArray, List.map_cons, List.map_nil]); first | done | rfl | (simp only [List.length_drop, List.length_take]; rfl)) ?_; (with_reducible refine (unicodetextref42_weight.calls a0_0 false _ A4.out).mono ?_); rintro e w' ⟨rfl, ⟨nd, rfl⟩⟩; refine ⟨_, rfl, ?_⟩))
   go_meet
   case rel => exact ⟨_, (true), (by first | rfl | (simp; done) | (simp [*]; done)), H', ⟨by first | omega | exact Nat.le_refl _⟩, ⟨by (with_reducible repeat (first | refine blk_drewN ?_ _ | refine blk_drew ?_ | refine blk_alloc ?_ _)); exact BK101.out⟩, ⟨by repeat (first | (with_reducible first | exact HB.out | apply below_alloc | apply pw_below_drewN | apply below_drew1 | refine below_set ?_ GE101.out) | exact HB.out)⟩⟩
 case rest =>
  clear HC2
  try clear p2
  try clear c5
  try clear c6
  try clear c7
  try clear hcz10_0
  try clear hcz10_1
  try clear hcz10_2
  try clear hcz10_3
  try clear hcz11_0
  try clear hcz11_1
  try clear hcz11_2
  try clear hcz11_3
  try clear hcz9_0
  try clear hcz9_1
  try clear hcz9_2
  try clear hcz9_3
  try clear hfz10_0
  try clear hfz10_1
  try clear hfz10_2
  try clear hfz10_3
  try clear hfz11_0
  try clear hfz11_1
  try clear hfz11_2
  try clear hfz11_3
  try clear hfz9_0
  try clear hfz9_1
  try clear hfz9_2
  try clear hfz9_3
  obtain ⟨kq, x18_1, rfl, HA, HJ1, BK101, HB⟩ := hcut
  cases kq with
  | zero => exact absurd HA.out (by simp [unicodetextref42_Check.j0])
  | succ kj1 =>
   have H := HA.out
   clear HA
   simp only [unicodetextref42_Check.j0] at H
   by_cases c12 : x18_1 = true
   ·subst c12
    have H1 : (some 1) = some r := by rw [if_pos rfl] at H; exact H
    clear H
    have H := H1
    clear H1
    obtain rfl := Option.some.inj H
    go_wp2
    go_ret
    exact ⟨by first | rfl | (simp [errW_none, errW_some] <;> rfl) | (simp [*, errW_none, errW_some] <;> rfl), by repeat (first | (with_reducible first | exact HB.out | apply below_alloc | apply pw_below_drewN | apply below_drew1 | refine below_set ?_ GE101.out) | exact HB.out)⟩
   ·replace c12 := Bool.eq_false_iff.mpr c12
    subst c12
    have H1 : (if a0_0 = 0 then (if a0_1 = 0 then (if a0_3 = true then (some 11) else (some 0)) else (if a0_2 = 0 then (some 11) else (if a0_3 = true then (some 11) else (some 0)))) else (if a0_1 = 0 then (some 11) else (if a0_2 = 0 then (some 11) else (if a0_3 = true then (some 0) else (some 0))))) = some r := by rw [if_neg (show ¬ (false = true) by decide)] at H; exact H
    clear H
    have H := H1
    clear H1
    by_cases c13 : a0_0 = 0
    ·rw [if_pos c13] at H
     have c13b0 : (a0_0 == 0) = true := beq_iff_eq.mpr c13
     have c13b1 : (a0_0 != 0) = false := bne_eq_false_iff_eq.mpr c13
     clear c13
     by_cases c14 : a0_1 = 0
     ·rw [if_pos c14] at H
      have c14b0 : (a0_1 == 0) = true := beq_iff_eq.mpr c14
      have c14b1 : (a0_1 != 0) = false := bne_eq_false_iff_eq.mpr c14
      clear c14
      by_cases c15 : a0_3 = true
      ·subst c15
       have H1 : (some 11) = some r := by rw [if_pos rfl] at H; exact H
       clear H
       have H := H1
       clear H1
       obtain rfl := Option.some.inj H
       have hcz16_0 : wc.cell? ⟨gb101, 0, none⟩ = some (.int .i64 a0_0) := (blk_cell BK101.out 0).trans rfl
       have hcz16_1 : wc.cell? ⟨gb101, 1, none⟩ = some (.int .i64 a0_1) := (blk_cell BK101.out 1).trans rfl
       have hcz16_2 : wc.cell? ⟨gb101, 2, none⟩ = some (.int .i64 a0_2) := (blk_cell BK101.out 2).trans rfl
       have hcz16_3 : wc.cell? ⟨gb101, 3, none⟩ = some (.bool true) := (blk_cell BK101.out 3).trans rfl
       have hfz16_0 := blk_frozen BK101.out 0
       have hfz16_1 := blk_frozen BK101.out 1
       have hfz16_2 := blk_frozen BK101.out 2
       have hfz16_3 := blk_frozen BK101.out 3
       go_wp2
       go_ret
       exact ⟨by first | rfl | (simp [errW_none, errW_some] <;> rfl) | (simp [*, errW_none, errW_some] <;> rfl), by repeat (first | (with_reducible first | exact HB.out | apply below_alloc | apply pw_below_drewN | apply below_drew1 | refine below_set ?_ GE101.out) | exact HB.out)⟩
      ·replace c15 := Bool.eq_false_iff.mpr c15
       subst c15
       have H1 : (some 0) = some r := by rw [if_neg (show ¬ (false = true) by decide)] at H; exact H
       clear H
       have H := H1
       clear H1
       obtain rfl := Option.some.inj H
       have hcz17_0 : wc.cell? ⟨gb101, 0, none⟩ = some (.int .i64 a0_0) := (blk_cell BK101.out 0).trans rfl
       have hcz17_1 : wc.cell? ⟨gb101, 1, none⟩ = some (.int .i64 a0_1) := (blk_cell BK101.out 1).trans rfl
       have hcz17_2 : wc.cell? ⟨gb101, 2, none⟩ = some (.int .i64 a0_2) := (blk_cell BK101.out 2).trans rfl
       have hcz17_3 : wc.cell? ⟨gb101, 3, none⟩ = some (.bool false) := (blk_cell BK101.out 3).trans rfl
       have hfz17_0 := blk_frozen BK101.out 0
       have hfz17_1 := blk_frozen BK101.out 1
       have hfz17_2 := blk_frozen BK101.out 2
       have hfz17_3 := blk_frozen BK101.out 3
       go_wp2
       go_ret
       exact ⟨by first | rfl | (simp [errW_none, errW_some] <;> rfl) | (simp [*, errW_none, errW_some] <;> rfl), by repeat (first | (with_reducible first | exact HB.out | apply below_alloc | apply pw_below_drewN | apply below_drew1 | refine below_set ?_ GE101.out) | exact HB.out)⟩
     ·rw [if_neg c14] at H
      have c14b0 : (a0_1 == 0) = false := beq_eq_false_iff_ne.mpr c14
      have c14b1 : (a0_1 != 0) = true := bne_iff_ne.mpr c14
      by_cases c18 : a0_2 = 0
      ·rw [if_pos c18] at H
       have c18b0 : (a0_2 == 0) = true := beq_iff_eq.mpr c18
       have c18b1 : (a0_2 != 0) = false := bne_eq_false_iff_eq.mpr c18
       clear c18
       obtain rfl := Option.some.inj H
       have hcz19_0 : wc.cell? ⟨gb101, 0, none⟩ = some (.int .i64 a0_0) := (blk_cell BK101.out 0).trans rfl
       have hcz19_1 : wc.cell? ⟨gb101, 1, none⟩ = some (.int .i64 a0_1) := (blk_cell BK101.out 1).trans rfl
       have hcz19_2 : wc.cell? ⟨gb101, 2, none⟩ = some (.int .i64 a0_2) := (blk_cell BK101.out 2).trans rfl
       have hcz19_3 : wc.cell? ⟨gb101, 3, none⟩ = some (.bool a0_3) := (blk_cell BK101.out 3).trans rfl
       have hfz19_0 := blk_frozen BK101.out 0
       have hfz19_1 := blk_frozen BK101.out 1
       have hfz19_2 := blk_frozen BK101.out 2
       have hfz19_3 := blk_frozen BK101.out 3
       go_wp2
       go_ret
       exact ⟨by first | rfl | (simp [errW_none, errW_some] <;> rfl) | (simp [*, errW_none, errW_some] <;> rfl), by repeat (first | (with_reducible first | exact HB.out | apply below_alloc | apply pw_below_drewN | apply below_drew1 | refine below_set ?_ GE101.out) | exact HB.out)⟩
      ·rw [if_neg c18] at H
       have c18b0 : (a0_2 == 0) = false := beq_eq_false_iff_ne.mpr c18
       have c18b1 : (a0_2 != 0) = true := bne_iff_ne.mpr c18
       by_cases c20 : a0_3 = true
       ·subst c20
        have H1 : (some 11) = some r := by rw [if_pos rfl] at H; exact H
        clear H
        have H := H1
        clear H1
        obtain rfl := Option.some.inj H
        have hcz21_0 : wc.cell? ⟨gb101, 0, none⟩ = some (.int .i64 a0_0) := (blk_cell BK101.out 0).trans rfl
        have hcz21_1 : wc.cell? ⟨gb101, 1, none⟩ = some (.int .i64 a0_1) := (blk_cell BK101.out 1).trans rfl
        have hcz21_2 : wc.cell? ⟨gb101, 2, none⟩ = some (.int .i64 a0_2) := (blk_cell BK101.out 2).trans rfl
        have hcz21_3 : wc.cell? ⟨gb101, 3, none⟩ = some (.bool true) := (blk_cell BK101.out 3).trans rfl
        have hfz21_0 := blk_frozen BK101.out 0
        have hfz21_1 := blk_frozen BK101.out 1
        have hfz21_2 := blk_frozen BK101.out 2
        have hfz21_3 := blk_frozen BK101.out 3
        go_wp2
        go_ret
        exact ⟨by first | rfl | (simp [errW_none, errW_some] <;> rfl) | (simp [*, errW_none, errW_some] <;> rfl), by repeat (first | (with_reducible first | exact HB.out | apply below_alloc | apply pw_below_drewN | apply below_drew1 | refine below_set ?_ GE101.out) | exact HB.out)⟩
       ·replace c20 := Bool.eq_false_iff.mpr c20
        subst c20
        have H1 : (some 0) = some r := by rw [if_neg (show ¬ (false = true) by decide)] at H; exact H
        clear H
        have H := H1
        clear H1
        obtain rfl := Option.some.inj H
        have hcz22_0 : wc.cell? ⟨gb101, 0, none⟩ = some (.int .i64 a0_0) := (blk_cell BK101.out 0).trans rfl
        have hcz22_1 : wc.cell? ⟨gb101, 1, none⟩ = some (.int .i64 a0_1) := (blk_cell BK101.out 1).trans rfl
        have hcz22_2 : wc.cell? ⟨gb101, 2, none⟩ = some (.int .i64 a0_2) := (blk_cell BK101.out 2).trans rfl
        have hcz22_3 : wc.cell? ⟨gb101, 3, none⟩ = some (.bool false) := (blk_cell BK101.out 3).trans rfl
        have hfz22_0 := blk_frozen BK101.out 0
        have hfz22_1 := blk_frozen BK101.out 1
        have hfz22_2 := blk_frozen BK101.out 2
        have hfz22_3 := blk_frozen BK101.out 3
        go_wp2
        go_ret
        exact ⟨by first | rfl | (simp [errW_none, errW_some] <;> rfl) | (simp [*, errW_none, errW_some] <;> rfl), by repeat (first | (with_reducible first | exact HB.out | apply below_alloc | apply pw_below_drewN | apply below_drew1 | refine below_set ?_ GE101.out) | exact HB.out)⟩
    ·rw [if_neg c13] at H
     have c13b0 : (a0_0 == 0) = false := beq_eq_false_iff_ne.mpr c13
     have c13b1 : (a0_0 != 0) = true := bne_iff_ne.mpr c13
     by_cases c23 : a0_1 = 0
     ·rw [if_pos c23] at H
      have c23b0 : (a0_1 == 0) = true := beq_iff_eq.mpr c23
      have c23b1 : (a0_1 != 0) = false := bne_eq_false_iff_eq.mpr c23
      clear c23
      obtain rfl := Option.some.inj H
      have hcz24_0 : wc.cell? ⟨gb101, 0, none⟩ = some (.int .i64 a0_0) := (blk_cell BK101.out 0).trans rfl
      have hcz24_1 : wc.cell? ⟨gb101, 1, none⟩ = some (.int .i64 a0_1) := (blk_cell BK101.out 1).trans rfl
      have hcz24_2 : wc.cell? ⟨gb101, 2, none⟩ = some (.int .i64 a0_2) := (blk_cell BK101.out 2).trans rfl
      have hcz24_3 : wc.cell? ⟨gb101, 3, none⟩ = some (.bool a0_3) := (blk_cell BK101.out 3).trans rfl
      have hfz24_0 := blk_frozen BK101.out 0
      have hfz24_1 := blk_frozen BK101.out 1
      have hfz24_2 := blk_frozen BK101.out 2
      have hfz24_3 := blk_frozen BK101.out 3
      go_wp2
      go_ret
      exact ⟨by first | rfl | (simp [errW_none, errW_some] <;> rfl) | (simp [*, errW_none, errW_some] <;> rfl), by repeat (first | (with_reducible first | exact HB.out | apply below_alloc | apply pw_below_drewN | apply below_drew1 | refine below_set ?_ GE101.out) | exact HB.out)⟩
     ·rw [if_neg c23] at H
      have c23b0 : (a0_1 == 0) = false := beq_eq_false_iff_ne.mpr c23
      have c23b1 : (a0_1 != 0) = true := bne_iff_ne.mpr c23
      by_cases c25 : a0_2 = 0
      ·rw [if_pos c25] at H
       have c25b0 : (a0_2 == 0) = true := beq_iff_eq.mpr c25
       have c25b1 : (a0_2 != 0) = false := bne_eq_false_iff_eq.mpr c25
       clear c25
       obtain rfl := Option.some.inj H
       have hcz26_0 : wc.cell? ⟨gb101, 0, none⟩ = some (.int .i64 a0_0) := (blk_cell BK101.out 0).trans rfl
       have hcz26_1 : wc.cell? ⟨gb101, 1, none⟩ = some (.int .i64 a0_1) := (blk_cell BK101.out 1).trans rfl
       have hcz26_2 : wc.cell? ⟨gb101, 2, none⟩ = some (.int .i64 a0_2) := (blk_cell BK101.out 2).trans rfl
       have hcz26_3 : wc.cell? ⟨gb101, 3, none⟩ = some (.bool a0_3) := (blk_cell BK101.out 3).trans rfl
       have hfz26_0 := blk_frozen BK101.out 0
       have hfz26_1 := blk_frozen BK101.out 1
       have hfz26_2 := blk_frozen BK101.out 2
       have hfz26_3 := blk_frozen BK101.out 3
       go_wp2
       go_ret
       exact ⟨by first | rfl | (simp [errW_none, errW_some] <;> rfl) | (simp [*, errW_none, errW_some] <;> rfl), by repeat (first | (with_reducible first | exact HB.out | apply below_alloc | apply pw_below_drewN | apply below_drew1 | refine below_set ?_ GE101.out) | exact HB.out)⟩
      ·rw [if_neg c25] at H
       have c25b0 : (a0_2 == 0) = false := beq_eq_false_iff_ne.mpr c25
       have c25b1 : (a0_2 != 0) = true := bne_iff_ne.mpr c25
       by_cases c27 : a0_3 = true
       ·subst c27
        have H1 : (some 0) = some r := by rw [if_pos rfl] at H; exact H
        clear H
        have H := H1
        clear H1
        obtain rfl := Option.some.inj H
        have hcz28_0 : wc.cell? ⟨gb101, 0, none⟩ = some (.int .i64 a0_0) := (blk_cell BK101.out 0).trans rfl
        have hcz28_1 : wc.cell? ⟨gb101, 1, none⟩ = some (.int .i64 a0_1) := (blk_cell BK101.out 1).trans rfl
        have hcz28_2 : wc.cell? ⟨gb101, 2, none⟩ = some (.int .i64 a0_2) := (blk_cell BK101.out 2).trans rfl
        have hcz28_3 : wc.cell? ⟨gb101, 3, none⟩ = some (.bool true) := (blk_cell BK101.out 3).trans rfl
        have hfz28_0 := blk_frozen BK101.out 0
        have hfz28_1 := blk_frozen BK101.out 1
        have hfz28_2 := blk_frozen BK101.out 2
        have hfz28_3 := blk_frozen BK101.out 3
        go_wp2
        go_ret
        exact ⟨by first | rfl | (simp [errW_none, errW_some] <;> rfl) | (simp [*, errW_none, errW_some] <;> rfl), by repeat (first | (with_reducible first | exact HB.out | apply below_alloc | apply pw_below_drewN | apply below_drew1 | refine below_set ?_ GE101.out) | exact HB.out)⟩
       ·replace c27 := Bool.eq_false_iff.mpr c27
        subst c27
        have H1 : (some 0) = some r := by rw [if_neg (show ¬ (false = true) by decide)] at H; exact H
        clear H
        have H := H1
        clear H1
        obtain rfl := Option.some.inj H
        have hcz29_0 : wc.cell? ⟨gb101, 0, none⟩ = some (.int .i64 a0_0) := (blk_cell BK101.out 0).trans rfl
        have hcz29_1 : wc.cell? ⟨gb101, 1, none⟩ = some (.int .i64 a0_1) := (blk_cell BK101.out 1).trans rfl
        have hcz29_2 : wc.cell? ⟨gb101, 2, none⟩ = some (.int .i64 a0_2) := (blk_cell BK101.out 2).trans rfl
        have hcz29_3 : wc.cell? ⟨gb101, 3, none⟩ = some (.bool false) := (blk_cell BK101.out 3).trans rfl
        have hfz29_0 := blk_frozen BK101.out 0
        have hfz29_1 := blk_frozen BK101.out 1
        have hfz29_2 := blk_frozen BK101.out 2
        have hfz29_3 := blk_frozen BK101.out 3
        go_wp2
        go_ret
        exact ⟨by first | rfl | (simp [errW_none, errW_some] <;> rfl) | (simp [*, errW_none, errW_some] <;> rfl), by repeat (first | (with_reducible first | exact HB.out | apply below_alloc | apply pw_below_drewN | apply below_drew1 | refine below_set ?_ GE101.out) | exact HB.out)⟩
end Go.Proofs.Ytfcpebjjcijgcaa.G
-- unicodetext/unicodetextref01.Compare: printed by gprint.py
namespace Go.Proofs.Ytfcpebjjcijgcaa.G
open Go.RowKit Go.Proofs.YtfcpebjjcijgcaaW.PrintWords Go.Proofs.YtfcpebjjcijgcaaW.PrintLast Go.Proofs.YtfcpebjjcijgcaaW.PrintMore
attribute [local go_sem] max2_int min2_int max_two min_two max_three min_three max_four min_four   -- for this text's walks alone
set_option linter.unusedVariables false
set_option linter.unusedSimpArgs false
/-! ### unicodetextref01_Compare: function 56 -/
mutual
def unicodetextref01_Compare.l0 : Nat → List Int → List Int → Int → Option (Int)
  | 0, _, _, _ => none
  | k + 1, x0, x1, x5 => if x5 < (x0.length : Int) then (unicodetextref01_Compare.j1 k x0 x1 x5 (decide (x5 < (x1.length : Int)))) else (unicodetextref01_Compare.j1 k x0 x1 x5 false)
def unicodetextref01_Compare.j1 : Nat → List Int → List Int → Int → Bool → Option (Int)
  | 0, _, _, _, _ => none
  | k + 1, x0, x1, x5, x15 => if x15 = true then (if 0 ≤ x5 then (if x5 < (x0.length : Int) then (if x5 < (x1.length : Int) then (if (rd x0 x5) < (rd x1 x5) then (some (-1)) else (if (rd x0 x5) > (rd x1 x5) then (some 1) else (unicodetextref01_Compare.l0 k x0 x1 (wrap64 (x5 + 1))))) else (none)) else (none)) else (none)) else (if (x0.length : Int) < (x1.length : Int) then (some (-1)) else (if (x0.length : Int) > (x1.length : Int) then (some 1) else (some 0)))
end
def unicodetextref01_Compare.f (k : Nat) (l0 : List Int) (l1 : List Int) : Option (Int) := unicodetextref01_Compare.l0 k l0 l1 0
set_option maxHeartbeats 8000000 in
set_option maxRecDepth 100000 in
theorem unicodetextref01_Compare.calls (k : Nat) (A0 : Option Addr) (c0 : Nat) (l0 : List Int) (A1 : Option Addr) (c1 : Nat) (l1 : List Int) (r : Int) (w : World) (hr0 : Kd.C (Kd.int .i64) w A0 l0.length l0) (hc0 : l0.length ≤ c0) (hr1 : Kd.C (Kd.int .i64) w A1 l1.length l1) (hc1 : l1.length ≤ c1) (h : unicodetextref01_Compare.f k l0 l1 = some r) :
  Calls Try.prog 56 #[.slice A0 l0.length c0, .slice A1 l1.length c1] w fun e w' => e = .returned (.int .i64 r) ∧ Drawn0 w w' := by
 have HR0 := Aside0.mk hr0
 have HC0 := Aside0.mk hc0
 clear hr0 hc0
 have HR1 := Aside0.mk hr1
 have HC1 := Aside0.mk hc1
 clear hr1 hc1
 have H : (unicodetextref01_Compare.l0 k l0 l1 0) = some r := h
 clear h
 have H' := Aside0.mk H
 clear H
 go_enter Try.func56, Try.ntmps56
 go_wp2
 repeat (go_quiet (fail); try go_wp2)
 go_loopg [5] k (fun kq v5 w' => ∃ (x5_1 : Int), v5 = .int .i64 x5_1 ∧ Aside0 (unicodetextref01_Compare.l0 kq l0 l1 x5_1 = some r) ∧ Aside0 (kq ≤ k) ∧ Drawn0 w w')
 case atStart => exact ⟨(0), (by first | rfl | (simp; done) | (simp [*]; done)), H', ⟨Nat.le_refl _⟩, by repeat (first | exact Drawn0.refl _ | apply Drawn0.step)⟩
 case round =>
  clear H'
  try clear c1
  try clear p2
  obtain ⟨x5_1, rfl, HA, HK1, ⟨m1, rfl⟩⟩ := hrel
  cases gk with
  | zero => exact absurd HA.out (by simp [unicodetextref01_Compare.l0])
  | succ k1 =>
   have H := HA.out
   clear HA
   simp only [unicodetextref01_Compare.l0] at H
   have HC3 := Aside0.mk H
   clear H
   go_upto_region 2 with (fail)
   repeat (go_quiet (fail); go_upto_region 2 with (fail))
   go_cut [15] (fun v15 wc => ∃ (kq : Nat) (x15_2 : Bool), v15 = .bool x15_2 ∧ Aside0 (unicodetextref01_Compare.j1 kq l0 l1 x5_1 x15_2 = some r) ∧ Aside0 (kq ≤ k1) ∧ Drawn0 w wc)
   case first =>
    have H := HC3.out
    clear HC3
    by_cases c4 : x5_1 < (l0.length : Int)
    ·rw [if_pos c4] at H
     have c4b0 : decide (x5_1 < (l0.length : Int)) = true := decide_eq_true c4
     clear c4
     (first | rw [c4b0] | (simp only [i64_w, i32_w]; rw [c4b0]) | skip)
     have H' := Aside0.mk H
     clear H
     go_wp2
     repeat (go_quiet (fail); try go_wp2)
     go_meet
     case rel => exact ⟨_, (decide (x5_1 < (l1.length : Int))), (by first | rfl | (simp; done) | (simp [*]; done)), H', ⟨by have := HK1.out; first | omega | exact Nat.le_refl _⟩, by repeat (first | exact Drawn0.refl _ | apply Drawn0.step)⟩
    ·rw [if_neg c4] at H
     have c4b0 : decide (x5_1 < (l0.length : Int)) = false := decide_eq_false c4
     clear c4
     (first | rw [c4b0] | (simp only [i64_w, i32_w]; rw [c4b0]) | skip)
     have H' := Aside0.mk H
     clear H
     go_wp2
     repeat (go_quiet (fail); try go_wp2)
     go_meet
     case rel => exact ⟨_, (false), (by first | rfl | (simp; done) | (simp [*]; done)), H', ⟨by have := HK1.out; first | omega | exact Nat.le_refl _⟩, by repeat (first | exact Drawn0.refl _ | apply Drawn0.step)⟩
   case rest =>
    clear HC3
    try clear c1
    try clear p2
    try clear c4
    try clear c4b0
    try clear p2
    obtain ⟨kq, x15_2, rfl, HA, HJ2, ⟨mc2, rfl⟩⟩ := hcut
    cases kq with
    | zero => exact absurd HA.out (by simp [unicodetextref01_Compare.j1])
    | succ kj2 =>
     have H := HA.out
     clear HA
     simp only [unicodetextref01_Compare.j1] at H
     by_cases c5 : x15_2 = true
     ·subst c5
      have H1 : (if 0 ≤ x5_1 then (if x5_1 < (l0.length : Int) then (if x5_1 < (l1.length : Int) then (if (rd l0 x5_1) < (rd l1 x5_1) then (some (-1)) else (if (rd l0 x5_1) > (rd l1 x5_1) then (some 1) else (unicodetextref01_Compare.l0 kj2 l0 l1 (wrap64 (x5_1 + 1))))) else (none)) else (none)) else (none)) = some r := by rw [if_pos rfl] at H; exact H
      clear H
      have H := H1
      clear H1
      by_cases c6 : 0 ≤ x5_1
      ·rw [if_pos c6] at H
       have c6b0 : decide (0 ≤ x5_1) = true := decide_eq_true c6
       clear c6
       by_cases c7 : x5_1 < (l0.length : Int)
       ·rw [if_pos c7] at H
        have c7b0 : decide (x5_1 < (l0.length : Int)) = true := decide_eq_true c7
        clear c7
        by_cases c8 : x5_1 < (l1.length : Int)
        ·rw [if_pos c8] at H
         have c8b0 : decide (x5_1 < (l1.length : Int)) = true := decide_eq_true c8
         clear c8
         by_cases c9 : (rd l0 x5_1) < (rd l1 x5_1)
         ·rw [if_pos c9] at H
          have c9b0 : decide ((rd l0 x5_1) < (rd l1 x5_1)) = true := decide_eq_true c9
          clear c9
          obtain rfl := Option.some.inj H
          have p101 : 0 ≤ (x5_1 : Int) := of_decide_eq_true (by first | (with_reducible assumption) | assumption)
          have q101 : x5_1 < (l0.length : Int) := of_decide_eq_true (by first | (with_reducible assumption) | assumption)
          obtain ⟨ad101, e101, hx101_0⟩ := Kd.at_int HR0.out x5_1 p101 q101
          cases e101
          replace p101 := eq_true p101
          replace q101 := eq_true q101
          have p102 : 0 ≤ (x5_1 : Int) := of_decide_eq_true (by first | (with_reducible assumption) | assumption)
          have q102 : x5_1 < (l1.length : Int) := of_decide_eq_true (by first | (with_reducible assumption) | assumption)
          obtain ⟨ad102, e102, hx102_0⟩ := Kd.at_int HR1.out x5_1 p102 q102
          cases e102
          replace p102 := eq_true p102
          replace q102 := eq_true q102
          go_wp2
          repeat (go_quiet (fail); try go_wp2)
          go_ret
          exact ⟨by first | rfl | (simp; done) | (simp [*]; done), by repeat (first | exact Drawn0.refl _ | apply Drawn0.step)⟩
         ·rw [if_neg c9] at H
          have c9b0 : decide ((rd l0 x5_1) < (rd l1 x5_1)) = false := decide_eq_false c9
          clear c9
          by_cases c10 : (rd l0 x5_1) > (rd l1 x5_1)
          ·rw [if_pos c10] at H
           have c10b0 : decide ((rd l1 x5_1) < (rd l0 x5_1)) = true := decide_eq_true c10
           clear c10
           obtain rfl := Option.some.inj H
           have p101 : 0 ≤ (x5_1 : Int) := of_decide_eq_true (by first | (with_reducible assumption) | assumption)
           have q101 : x5_1 < (l0.length : Int) := of_decide_eq_true (by first | (with_reducible assumption) | assumption)
           obtain ⟨ad101, e101, hx101_0⟩ := Kd.at_int HR0.out x5_1 p101 q101
           cases e101
           replace p101 := eq_true p101
           replace q101 := eq_true q101
           have p102 : 0 ≤ (x5_1 : Int) := of_decide_eq_true (by first | (with_reducible assumption) | assumption)
           have q102 : x5_1 < (l1.length : Int) := of_decide_eq_true (by first | (with_reducible assumption) | assumption)
           obtain ⟨ad102, e102, hx102_0⟩ := Kd.at_int HR1.out x5_1 p102 q102
           cases e102
           replace p102 := eq_true p102
           replace q102 := eq_true q102
           have p103 : 0 ≤ (x5_1 : Int) := of_decide_eq_true (by first | (with_reducible assumption) | assumption)
           have q103 : x5_1 < (l0.length : Int) := of_decide_eq_true (by first | (with_reducible assumption) | assumption)
           obtain ⟨ad103, e103, hx103_0⟩ := Kd.at_int HR0.out x5_1 p103 q103
           obtain rfl : ad101 = ad103 := (by injection e103)
           replace p103 := eq_true p103
           replace q103 := eq_true q103
           have p104 : 0 ≤ (x5_1 : Int) := of_decide_eq_true (by first | (with_reducible assumption) | assumption)
           have q104 : x5_1 < (l1.length : Int) := of_decide_eq_true (by first | (with_reducible assumption) | assumption)
           obtain ⟨ad104, e104, hx104_0⟩ := Kd.at_int HR1.out x5_1 p104 q104
           obtain rfl : ad102 = ad104 := (by injection e104)
           replace p104 := eq_true p104
           replace q104 := eq_true q104
           go_wp2
           repeat (go_quiet (fail); try go_wp2)
           go_ret
           exact ⟨by first | rfl | (simp; done) | (simp [*]; done), by repeat (first | exact Drawn0.refl _ | apply Drawn0.step)⟩
          ·rw [if_neg c10] at H
           have c10b0 : decide ((rd l1 x5_1) < (rd l0 x5_1)) = false := decide_eq_false c10
           clear c10
           have H' := Aside0.mk H
           clear H
           have p101 : 0 ≤ (x5_1 : Int) := of_decide_eq_true (by first | (with_reducible assumption) | assumption)
           have q101 : x5_1 < (l0.length : Int) := of_decide_eq_true (by first | (with_reducible assumption) | assumption)
           obtain ⟨ad101, e101, hx101_0⟩ := Kd.at_int HR0.out x5_1 p101 q101
           cases e101
           replace p101 := eq_true p101
           replace q101 := eq_true q101
           have p102 : 0 ≤ (x5_1 : Int) := of_decide_eq_true (by first | (with_reducible assumption) | assumption)
           have q102 : x5_1 < (l1.length : Int) := of_decide_eq_true (by first | (with_reducible assumption) | assumption)
           obtain ⟨ad102, e102, hx102_0⟩ := Kd.at_int HR1.out x5_1 p102 q102
           cases e102
           replace p102 := eq_true p102
           replace q102 := eq_true q102
           have p103 : 0 ≤ (x5_1 : Int) := of_decide_eq_true (by first | (with_reducible assumption) | assumption)
           have q103 : x5_1 < (l0.length : Int) := of_decide_eq_true (by first | (with_reducible assumption) | assumption)
           obtain ⟨ad103, e103, hx103_0⟩ := Kd.at_int HR0.out x5_1 p103 q103
           obtain rfl : ad101 = ad103 := (by injection e103)
           replace p103 := eq_true p103
           replace q103 := eq_true q103
           have p104 : 0 ≤ (x5_1 : Int) := of_decide_eq_true (by first | (with_reducible assumption) | assumption)
           have q104 : x5_1 < (l1.length : Int) := of_decide_eq_true (by first | (with_reducible assumption) | assumption)
           obtain ⟨ad104, e104, hx104_0⟩ := Kd.at_int HR1.out x5_1 p104 q104
           obtain rfl : ad102 = ad104 := (by injection e104)
           replace p104 := eq_true p104
           replace q104 := eq_true q104
           go_wp2
           repeat (go_quiet (fail); try go_wp2)
           go_roundg kj2
           case measure => have := HK1.out; have := HJ2.out; omega
           case rel => exact ⟨(wrap64 (x5_1 + 1)), (by first | rfl | (simp; done) | (simp [*]; done)), H', ⟨by have := HK1.out; have := HJ2.out; omega⟩, by repeat (first | exact Drawn0.refl _ | apply Drawn0.step)⟩
        ·rw [if_neg c8] at H
         exact absurd H (by simp)
       ·rw [if_neg c7] at H
        exact absurd H (by simp)
      ·rw [if_neg c6] at H
       exact absurd H (by simp)
     ·replace c5 := Bool.eq_false_iff.mpr c5
      subst c5
      have H1 : (if (l0.length : Int) < (l1.length : Int) then (some (-1)) else (if (l0.length : Int) > (l1.length : Int) then (some 1) else (some 0))) = some r := by rw [if_neg (show ¬ (false = true) by decide)] at H; exact H
      clear H
      have H := H1
      clear H1
      by_cases c11 : (l0.length : Int) < (l1.length : Int)
      ·rw [if_pos c11] at H
       have c11b0 : decide ((l0.length : Int) < (l1.length : Int)) = true := decide_eq_true c11
       have c11b1 : decide (l0.length < l1.length) = true := decide_eq_true (Int.ofNat_lt.mp c11)
       clear c11
       obtain rfl := Option.some.inj H
       go_wp2
       repeat (go_quiet (fail); try go_wp2)
       go_ret
       exact ⟨by first | rfl | (simp; done) | (simp [*]; done), by repeat (first | exact Drawn0.refl _ | apply Drawn0.step)⟩
      ·rw [if_neg c11] at H
       have c11b0 : decide ((l0.length : Int) < (l1.length : Int)) = false := decide_eq_false c11
       have c11b1 : decide (l0.length < l1.length) = false := decide_eq_false (fun h => c11 (Int.ofNat_lt.mpr h))
       clear c11
       by_cases c12 : (l0.length : Int) > (l1.length : Int)
       ·rw [if_pos c12] at H
        have c12b0 : decide ((l1.length : Int) < (l0.length : Int)) = true := decide_eq_true c12
        have c12b1 : decide (l1.length < l0.length) = true := decide_eq_true (Int.ofNat_lt.mp c12)
        clear c12
        obtain rfl := Option.some.inj H
        go_wp2
        repeat (go_quiet (fail); try go_wp2)
        go_ret
        exact ⟨by first | rfl | (simp; done) | (simp [*]; done), by repeat (first | exact Drawn0.refl _ | apply Drawn0.step)⟩
       ·rw [if_neg c12] at H
        have c12b0 : decide ((l1.length : Int) < (l0.length : Int)) = false := decide_eq_false c12
        have c12b1 : decide (l1.length < l0.length) = false := decide_eq_false (fun h => c12 (Int.ofNat_lt.mpr h))
        clear c12
        obtain rfl := Option.some.inj H
        go_wp2
        repeat (go_quiet (fail); try go_wp2)
        go_ret
        exact ⟨by first | rfl | (simp; done) | (simp [*]; done), by repeat (first | exact Drawn0.refl _ | apply Drawn0.step)⟩
end Go.Proofs.Ytfcpebjjcijgcaa.G
-- by hand: lemmas
namespace Go.Proofs.Ytfcpebjjcijgcaa.G
open Go.RowKit Go.Proofs.YtfcpebjjcijgcaaW.PrintWords Go.Proofs.YtfcpebjjcijgcaaW.PrintLast Go.Proofs.YtfcpebjjcijgcaaW.PrintMore
attribute [local go_sem] max2_int min2_int max_two min_two max_three min_three max_four min_four   -- for this text's walks alone
set_option linter.unusedVariables false
set_option linter.unusedSimpArgs false
/-! The plain answers of the two checks -/
theorem toL_iff {a b : ByteArray} : a.toList = b.toList ↔ a = b := by
  rw [Lib.toList_data, Lib.toList_data]
  constructor
  · intro h
    cases a
    cases b
    congr 1
    exact Array.toList_inj.1 h
  · rintro rfl
    rfl
theorem rdT36 {l : List S36} {i : Nat} (h : i < l.length) : rd_T36 l (i : Int) = l[i] := by
  unfold rd_T36
  simp [h]
theorem rdT49 {l : List S49} {i : Nat} (h : i < l.length) : rd_T49 l (i : Int) = l[i] := by
  unfold rd_T49
  simp [h]
theorem rdT51 {l : List S51} {i : Nat} (h : i < l.length) : rd_T51 l (i : Int) = l[i] := by
  unfold rd_T51
  simp [h]
theorem rdI {l : List Int} {i : Nat} (h : i < l.length) : rd l (i : Int) = l[i] := by
  unfold rd
  simp [h]
theorem rdN {l : List ByteArray} {i : Nat} (h : i < l.length) : rdOf ByteArray.empty l (i : Int) = l[i] := by
  unfold rdOf
  simp [h]
theorem wrap_nat {i : Nat} (h : i < 9223372036854775807) : wrap64 ((i : Int) + 1) = ((i + 1 : Nat) : Int) := by
  rw [wrap_up (by omega) (by omega)]
  omega
theorem wrap_pred {i : Nat} (h : i + 1 < 9223372036854775807) : wrap64 (((i + 1 : Nat) : Int) - 1) = (i : Int) := by
  unfold wrap64
  omega
/-! names -/
theorem rname_loop (s : ByteArray) (hs : s.size ≤ 9223372036854775807) : ∀ (d i : Nat), s.size - i = d → Ev (fun k => unicodetextref11_Name.l0 k s (i : Int)) (decide (1 ≤ s.size) && decide (s.size ≤ 32) && (s.data.toList.drop i).all okch) := by
  intro d
  induction d with
  | zero =>
    intro i hd
    have h1 : ¬ ((i : Int) < (s.size : Int)) := by omega
    refine Ev.step (f := fun _ => some (decide (1 ≤ s.size) && decide (s.size ≤ 32) && (s.data.toList.drop i).all okch)) (fun k => ?_) (Ev.now _)
    simp only [unicodetextref11_Name.l0, if_neg h1]
    rw [List.drop_of_length_le (by rw [data_length]; omega)]
    by_cases h2 : 1 ≤ s.size
    · rw [if_pos (by omega), decide_eq_true h2, show decide ((s.size : Int) ≤ 32) = decide (s.size ≤ 32) from by rw [Bool.eq_iff_iff]; simp; omega]
      simp
    · rw [if_neg (by omega), decide_eq_false h2]
      simp
  | succ d ih =>
    intro i hd
    have hi : i < s.size := by omega
    obtain ⟨c, hc, hb⟩ := bt_get s hi
    have hl : i < s.data.toList.length := by rw [data_length]; omega
    rw [List.getElem?_eq_getElem hl] at hc
    rw [List.drop_eq_getElem_cons hl, Option.some.inj hc, List.all_cons]
    have hr := okch_iff c
    by_cases hok : okch c = true
    · rw [hok, Bool.true_and]
      refine Ev.step (f := fun k => unicodetextref11_Name.l0 k s ((i + 1 : Nat) : Int)) (fun k => ?_) (ih (i + 1) (by omega))
      have hr := hr.1 hok
      simp only [unicodetextref11_Name.l0]
      rw [if_pos (by omega), if_pos (by omega), hb, wrap_nat (by omega)]
      repeat' split
      all_goals first | rfl | (exfalso; omega)
    · rw [Bool.eq_false_iff.2 hok, Bool.false_and, Bool.and_false]
      refine Ev.step (f := fun _ => some false) (fun k => ?_) (Ev.now _)
      have hr := fun h => hok (hr.2 h)
      simp only [unicodetextref11_Name.l0]
      rw [if_pos (by omega), if_pos (by omega), hb]
      repeat' split
      all_goals first | rfl | (exfalso; apply hr; omega)
theorem rname_ev (s : ByteArray) (hs : s.size ≤ 9223372036854775807) : Ev (fun k => unicodetextref11_Name.f k s) (nameP s) := rname_loop s hs s.size 0 (by omega)
/-! the groups -/
theorem inRow_short : ∀ l : List S36, l.length ≤ 1 → inRow l = true
  | [], _ => rfl
  | [_], _ => rfl
  | _ :: _ :: _, h => by simp at h
theorem dupG_sub {l m : List S36} (h : List.Sublist l m) (hm : dupG m = false) : dupG l = false := by
  unfold dupG at *
  simp only [Bool.not_eq_false', decide_eq_true_eq] at *
  exact (h.map _).nodup hm
section
variable (l : List S36) (hf : fits l = true) (E : List S49) (G : List S36) (base b3 b4 : Int)
include hf
theorem rg_l4 : ∀ (d i : Nat), l.length - i = d → 1 ≤ i → Ev (fun k => unicodetextref43_groups.l4 k l (i : Int)) (if inRow (l.drop (i - 1)) = true then 0 else 4) := by
  have hl := fits_len hf
  intro d
  induction d with
  | zero =>
    intro i hd h1
    rw [if_pos (inRow_short _ (by rw [List.length_drop]; omega))]
    refine Ev.step (f := fun _ => some 0) (fun k => ?_) (Ev.now _)
    simp only [unicodetextref43_groups.l4]
    rw [if_neg (by omega)]
  | succ d ih =>
    intro i hd h1
    obtain ⟨j, rfl⟩ : ∃ j, i = j + 1 := ⟨i - 1, by omega⟩
    have hj : j + 1 < l.length := by omega
    rw [Nat.add_sub_cancel, List.drop_eq_getElem_cons (show j < l.length by omega), List.drop_eq_getElem_cons hj]
    by_cases hc : l[j + 1].f1 = wrap64 (l[j].f2 + 1)
    · refine Ev.step (f := fun k => unicodetextref43_groups.l4 k l ((j + 1 + 1 : Nat) : Int)) (fun k => ?_) ?_
      · simp only [unicodetextref43_groups.l4]
        rw [wrap_pred (by omega), wrap_nat (by omega), rdT36 hj, rdT36 (show j < l.length by omega), if_pos (by omega), if_pos (by omega), if_pos (by omega), if_pos (by omega), if_pos hc]
      · have := ih (j + 1 + 1) (by omega) (by omega)
        rw [Nat.add_sub_cancel, List.drop_eq_getElem_cons hj] at this
        rw [inRow, decide_eq_true hc, Bool.true_and]
        exact this
    · refine Ev.step (f := fun _ => some 4) (fun k => ?_) ?_
      · simp only [unicodetextref43_groups.l4]
        rw [wrap_pred (by omega), rdT36 hj, rdT36 (show j < l.length by omega), if_pos (by omega), if_pos (by omega), if_pos (by omega), if_pos (by omega), if_neg hc]
      · rw [inRow, decide_eq_false hc, Bool.false_and, if_neg (by simp)]
        exact Ev.now _
theorem rg_l3 : ∀ (d i : Nat), l.length - i = d → Ev (fun k => unicodetextref43_groups.l3 k l (i : Int) E G base b3 b4) (if (l.drop i).any (badR base) = true then 1 else if inRow l = true then 0 else 4) := by
  have hl := fits_len hf
  intro d
  induction d with
  | zero =>
    intro i hd
    rw [List.drop_of_length_le (by omega)]
    refine Ev.step (f := fun k => unicodetextref43_groups.l4 k l ((1 : Nat) : Int)) (fun k => ?_) (rg_l4 l hf _ 1 rfl (by omega))
    simp only [unicodetextref43_groups.l3]
    rw [if_neg (by omega)]
    rfl
  | succ d ih =>
    intro i hd
    have hi : i < l.length := by omega
    rw [List.drop_eq_getElem_cons hi, List.any_cons]
    by_cases hb : badR base l[i] = true
    · rw [hb, Bool.true_or, if_pos rfl]
      refine Ev.step (f := fun _ => some 1) (fun k => ?_) (Ev.now _)
      simp only [unicodetextref43_groups.l3]
      rw [rdT36 hi, if_pos (by omega), if_pos (by omega)]
      simp only [badR, Bool.or_eq_true, decide_eq_true_eq] at hb
      repeat' split
      all_goals first | rfl | (exfalso; omega)
    · rw [Bool.eq_false_iff.2 hb, Bool.false_or]
      refine Ev.step (f := fun k => unicodetextref43_groups.l3 k l ((i + 1 : Nat) : Int) E G base b3 b4) (fun k => ?_) (ih (i + 1) (by omega))
      simp only [unicodetextref43_groups.l3]
      rw [rdT36 hi, if_pos (by omega), if_pos (by omega), wrap_nat (by omega)]
      simp only [badR, Bool.or_eq_true, decide_eq_true_eq] at hb
      repeat' split
      all_goals first | rfl | (exfalso; omega)
theorem rg_l2 (i : Nat) (hi : i < l.length) (r : Int) (hN : Ev (fun k => unicodetextref43_groups.l1 k l ((i + 1 : Nat) : Int) E G base b3 b4) r) : ∀ (d j : Nat), i - j = d → j ≤ i → Ev (fun k => unicodetextref43_groups.l2 k l (i : Int) (j : Int) E G base b3 b4) (if memB l[i].f0 ((nms (l.take i)).drop j) = true then 5 else r) := by
  have hl := fits_len hf
  have hlen : (nms (l.take i)).length = i := by simp [nms]; omega
  intro d
  induction d with
  | zero =>
    intro j hd hj
    rw [List.drop_of_length_le (by omega), if_neg (by simp [memB])]
    refine Ev.step (f := fun k => unicodetextref43_groups.l1 k l ((i + 1 : Nat) : Int) E G base b3 b4) (fun k => ?_) hN
    simp only [unicodetextref43_groups.l2]
    rw [if_neg (by omega), wrap_nat (by omega)]
  | succ d ih =>
    intro j hd hj
    have hj2 : j < (nms (l.take i)).length := by omega
    have hjl : j < l.length := by omega
    rw [List.drop_eq_getElem_cons hj2, memB, List.any_cons]
    have hg : (nms (l.take i))[j] = l[j].f0 := by simp [nms]
    rw [hg]
    by_cases he : l[j].f0 = l[i].f0
    · rw [decide_eq_true he, Bool.true_or, if_pos rfl]
      refine Ev.step (f := fun _ => some 5) (fun k => ?_) (Ev.now _)
      simp only [unicodetextref43_groups.l2]
      rw [rdT36 hi, rdT36 hjl, if_pos (by omega), if_pos (by omega), if_pos (by omega), if_pos (by omega), if_pos (by omega), if_pos (toL_iff.2 he)]
    · rw [decide_eq_false he, Bool.false_or]
      refine Ev.step (f := fun k => unicodetextref43_groups.l2 k l (i : Int) ((j + 1 : Nat) : Int) E G base b3 b4) (fun k => ?_) (ih (j + 1) (by omega) (by omega))
      simp only [unicodetextref43_groups.l2]
      rw [rdT36 hi, rdT36 hjl, if_pos (by omega), if_pos (by omega), if_pos (by omega), if_pos (by omega), if_pos (by omega), if_neg (fun e => he (toL_iff.1 e)), wrap_nat (by omega)]
theorem rg_l1 : ∀ (d i : Nat), l.length - i = d → dupG (l.take i) = false → Ev (fun k => unicodetextref43_groups.l1 k l (i : Int) E G base b3 b4) (if dupG l = true then 5 else if l.any (badR base) = true then 1 else if inRow l = true then 0 else 4) := by
  have hl := fits_len hf
  intro d
  induction d with
  | zero =>
    intro i hd hdup
    rw [List.take_of_length_le (by omega)] at hdup
    rw [if_neg (by rw [hdup]; simp)]
    refine Ev.step (f := fun k => unicodetextref43_groups.l3 k l ((0 : Nat) : Int) E G base b3 b4) (fun k => ?_) (rg_l3 l hf E G base b3 b4 _ 0 rfl)
    simp only [unicodetextref43_groups.l1]
    rw [if_neg (by omega)]
    rfl
  | succ d ih =>
    intro i hd hdup
    have hi : i < l.length := by omega
    have hsn := dupG_snoc (l.take i) l[i]
    rw [show l.take i ++ [l[i]] = l.take (i + 1) by rw [List.take_add_one, List.getElem?_eq_getElem hi]; rfl, hdup, Bool.false_or] at hsn
    have hstep : ∀ k, unicodetextref43_groups.l1 (k + 1) l (i : Int) E G base b3 b4 = unicodetextref43_groups.l2 k l (i : Int) ((0 : Nat) : Int) E G base b3 b4 := fun k => by
      simp only [unicodetextref43_groups.l1]
      rw [if_pos (by omega)]
      rfl
    refine Ev.step hstep ?_
    by_cases hm : memB l[i].f0 (nms (l.take i)) = true
    · have hd2 : dupG l = true := by
        apply Classical.byContradiction
        intro hn
        have := dupG_sub (List.take_sublist (i + 1) l) (Bool.eq_false_iff.2 hn)
        rw [hsn, hm] at this
        cases this
      rw [if_pos hd2]
      have ⟨r, hr⟩ : ∃ r, Ev (fun k => unicodetextref43_groups.l1 k l ((i + 1 : Nat) : Int) E G base b3 b4) r ∨ True := ⟨0, .inr trivial⟩
      -- the dup stands before i: no answer of what follows is asked
      clear hr r
      have key : ∀ (d j : Nat), i - j = d → j ≤ i → memB l[i].f0 ((nms (l.take i)).drop j) = true → Ev (fun k => unicodetextref43_groups.l2 k l (i : Int) (j : Int) E G base b3 b4) 5 := by
        have hlen : (nms (l.take i)).length = i := by simp [nms]; omega
        intro d
        induction d with
        | zero =>
          intro j hd hj hm
          rw [List.drop_of_length_le (by omega)] at hm
          simp [memB] at hm
        | succ d ih2 =>
          intro j hd hj hm
          have hj2 : j < (nms (l.take i)).length := by omega
          have hjl : j < l.length := by omega
          rw [List.drop_eq_getElem_cons hj2, memB, List.any_cons] at hm
          have hg : (nms (l.take i))[j] = l[j].f0 := by simp [nms]
          rw [hg] at hm
          by_cases he : l[j].f0 = l[i].f0
          · refine Ev.step (f := fun _ => some 5) (fun k => ?_) (Ev.now _)
            simp only [unicodetextref43_groups.l2]
            rw [rdT36 hi, rdT36 hjl, if_pos (by omega), if_pos (by omega), if_pos (by omega), if_pos (by omega), if_pos (by omega), if_pos (toL_iff.2 he)]
          · rw [decide_eq_false he, Bool.false_or] at hm
            refine Ev.step (f := fun k => unicodetextref43_groups.l2 k l (i : Int) ((j + 1 : Nat) : Int) E G base b3 b4) (fun k => ?_) (ih2 (j + 1) (by omega) (by omega) hm)
            simp only [unicodetextref43_groups.l2]
            rw [rdT36 hi, rdT36 hjl, if_pos (by omega), if_pos (by omega), if_pos (by omega), if_pos (by omega), if_pos (by omega), if_neg (fun e => he (toL_iff.1 e)), wrap_nat (by omega)]
      exact key i 0 (by omega) (by omega) (by rw [List.drop_zero]; exact hm)
    · rw [Bool.not_eq_true] at hm
      rw [hm] at hsn
      have := rg_l2 l hf E G base b3 b4 i hi _ (ih (i + 1) (by omega) hsn) i 0 (by omega) (by omega)
      rw [List.drop_zero, hm, if_neg (by simp)] at this
      exact this
theorem rg_l0 : ∀ (d i : Nat), l.length - i = d → Ev (fun k => unicodetextref43_groups.l0 k l (i : Int) E G base b3 b4) (if (l.drop i).any (fun g => !nameP g.f0) = true then 6 else if dupG l = true then 5 else if l.any (badR base) = true then 1 else if inRow l = true then 0 else 4) := by
  have hl := fits_len hf
  intro d
  induction d with
  | zero =>
    intro i hd
    rw [List.drop_of_length_le (by omega)]
    refine Ev.step (f := fun k => unicodetextref43_groups.l1 k l ((0 : Nat) : Int) E G base b3 b4) (fun k => ?_) (rg_l1 l hf E G base b3 b4 _ 0 rfl rfl)
    simp only [unicodetextref43_groups.l0]
    rw [if_neg (by omega)]
    rfl
  | succ d ih =>
    intro i hd
    have hi : i < l.length := by omega
    rw [List.drop_eq_getElem_cons hi, List.any_cons]
    have hN := rname_ev l[i].f0 (fits_size hf (List.getElem_mem hi))
    refine Ev.step (f := fun k => (unicodetextref11_Name.f k l[i].f0).bind fun t103 => if t103 = true then unicodetextref43_groups.l0 k l ((i + 1 : Nat) : Int) E G base b3 b4 else some 6) (fun k => ?_) (Ev.bind hN ?_)
    · simp only [unicodetextref43_groups.l0]
      rw [rdT36 hi, if_pos (by omega), if_pos (by omega), wrap_nat (by omega)]
    · by_cases hn : nameP l[i].f0 = true
      · simp only [hn, if_true, Bool.not_true, Bool.false_or]
        exact ih (i + 1) (by omega)
      · simp only [Bool.eq_false_iff.2 hn, Bool.not_false, Bool.true_or, if_true]
        exact Ev.now _
end
theorem rgroups_ev (l : List S36) (hf : fits l = true) (E : List S49) (base b3 b4 : Int) : Ev (fun k => unicodetextref43_groups.f k E l base b3 b4) (grErr l base) := rg_l0 l hf E l base b3 b4 _ 0 rfl
/-! the elements -/
theorem relem_at (k : Nat) (e : S51) : unicodetextref42_Check.f (k + 1) e.f0 e.f1 e.f2 e.f3 = some (elemErr e) := by
  obtain ⟨p, s, t, v⟩ := e
  unfold unicodetextref42_Check.f elemErr unicodetextref42_weight.f
  simp only [unicodetextref42_Check.j0]
  by_cases h : 0 ≤ p ∧ p ≤ 65535 ∧ 0 ≤ s ∧ s ≤ 65535 ∧ 0 ≤ t ∧ t ≤ 65535
  · rw [if_pos h, if_pos (by omega), if_pos (show s ≥ 0 by omega), if_pos (show t ≥ 0 by omega)]
    simp only [Option.bind_some, decide_eq_true (show p ≤ 65535 by omega), decide_eq_true (show s ≤ 65535 by omega), decide_eq_true (show t ≤ 65535 by omega), if_true, Bool.not_true, Bool.false_eq_true, if_false]
    cases v <;> (repeat' split) <;> first | rfl | (exfalso; simp_all; omega) | (exfalso; simp_all)
  · rw [if_neg h]
    by_cases hp : 0 ≤ p ∧ p ≤ 65535
    · rw [if_pos hp.1]
      simp only [Option.bind_some, decide_eq_true hp.2, if_true]
      by_cases hs : 0 ≤ s ∧ s ≤ 65535
      · rw [if_pos hs.1]
        simp only [Option.bind_some, decide_eq_true hs.2, if_true]
        by_cases ht : 0 ≤ t
        · rw [if_pos ht]
          simp only [Option.bind_some, decide_eq_false (show ¬ t ≤ 65535 by omega), Bool.not_false, if_true]
        · rw [if_neg ht]
          simp only [Option.bind_some, Bool.not_false, if_true]
      · by_cases hs0 : 0 ≤ s
        · rw [if_pos hs0]
          simp only [Option.bind_some, decide_eq_false (show ¬ s ≤ 65535 by omega), Bool.false_eq_true, if_false, if_true]
        · rw [if_neg hs0]
          simp only [Option.bind_some, Bool.false_eq_true, if_false, if_true]
    · by_cases hp0 : 0 ≤ p
      · rw [if_pos hp0]
        simp only [Option.bind_some, decide_eq_false (show ¬ p ≤ 65535 by omega), Bool.false_eq_true, if_false, if_true]
      · rw [if_neg hp0]
        simp only [Option.bind_some, Bool.false_eq_true, if_false, if_true]
/-! sequences -/
theorem rcmp_loop (l m : List Int) (hl : l.length ≤ 1099511627776) (hm : m.length ≤ 1099511627776) : ∀ (d i : Nat), l.length - i = d → i ≤ l.length → i ≤ m.length → Ev (fun k => unicodetextref01_Compare.l0 k l m (i : Int)) (cmpL (l.drop i) (m.drop i)) := by
  have hend : ∀ (i : Nat), i ≤ l.length → i ≤ m.length → i = l.length ∨ i = m.length → Ev (fun k => unicodetextref01_Compare.j1 k l m (i : Int) false) (cmpL (l.drop i) (m.drop i)) := by
    intro i h1 h2 h
    rw [cmpL_end l m i h1 h2 h]
    refine Ev.step (f := fun _ => some (if (l.length : Int) < (m.length : Int) then -1 else if (m.length : Int) < (l.length : Int) then 1 else 0)) (fun k => ?_) (Ev.now _)
    simp only [unicodetextref01_Compare.j1, Bool.false_eq_true, if_false]
    repeat' split
    all_goals first | rfl | (exfalso; omega)
  intro d
  induction d with
  | zero =>
    intro i hd h1 h2
    refine Ev.step (f := fun k => unicodetextref01_Compare.j1 k l m (i : Int) false) (fun k => ?_) (hend i h1 h2 (.inl (by omega)))
    simp only [unicodetextref01_Compare.l0]
    rw [if_neg (by omega)]
  | succ d ih =>
    intro i hd h1 h2
    by_cases hc : i < m.length
    · refine Ev.step (f := fun k => unicodetextref01_Compare.j1 k l m (i : Int) true) (fun k => ?_) ?_
      · simp only [unicodetextref01_Compare.l0]
        rw [if_pos (by omega), decide_eq_true (show (i : Int) < (m.length : Int) by omega)]
      · rw [cmpL_drop l m i (by omega) hc]
        by_cases he : rd l i = rd m i
        · rw [if_pos he]
          refine Ev.step (f := fun k => unicodetextref01_Compare.l0 k l m ((i + 1 : Nat) : Int)) (fun k => ?_) (ih (i + 1) (by omega) (by omega) (by omega))
          simp only [unicodetextref01_Compare.j1, if_true]
          rw [if_pos (by omega), if_pos (by omega), if_pos (by omega), if_neg (by omega), if_neg (by omega), wrap_nat (by omega)]
        · rw [if_neg he]
          refine Ev.step (f := fun _ => some (if rd l i < rd m i then -1 else 1)) (fun k => ?_) (Ev.now _)
          simp only [unicodetextref01_Compare.j1, if_true]
          rw [if_pos (by omega), if_pos (by omega), if_pos (by omega)]
          repeat' split
          all_goals first | rfl | (exfalso; omega)
    · refine Ev.step (f := fun k => unicodetextref01_Compare.j1 k l m (i : Int) false) (fun k => ?_) (hend i h1 h2 (.inr (by omega)))
      simp only [unicodetextref01_Compare.l0]
      rw [if_pos (by omega), decide_eq_false (show ¬ (i : Int) < (m.length : Int) by omega)]
theorem rcmp_ev (l m : List Int) (hl : l.length ≤ 1099511627776) (hm : m.length ≤ 1099511627776) : Ev (fun k => unicodetextref01_Compare.f k l m) (cmpL l m) := rcmp_loop l m hl hm _ 0 rfl (by omega) (by omega)
end Go.Proofs.Ytfcpebjjcijgcaa.G
-- unicodetext/groups.Apply: by hand
namespace Go.Proofs.Ytfcpebjjcijgcaa.G
open Go.RowKit Go.Proofs.YtfcpebjjcijgcaaW.PrintWords Go.Proofs.YtfcpebjjcijgcaaW.PrintLast Go.Proofs.YtfcpebjjcijgcaaW.PrintMore
attribute [local go_sem] max2_int min2_int max_two min_two max_three min_three max_four min_four   -- for this text's walks alone
set_option linter.unusedVariables false
set_option linter.unusedSimpArgs false
-- BY HAND: function 18 (groups_Apply)
/-- An entry whose weights have moved. -/
def moveE (old fresh : List S36) (e : S49) : S49 := ⟨e.f0, e.f1.map fun x => ⟨moveP old fresh x.f0, x.f1, x.f2, x.f3⟩⟩
/-- Entries of a size that the walk bears. -/
def eSmall (E : List S49) : Bool := decide (E.length ≤ 1000000) && E.all fun e => decide (e.f0.length ≤ 1000000) && decide (e.f1.length ≤ 1000000)
theorem eSmall_len {E : List S49} (h : eSmall E = true) : E.length ≤ 1000000 ∧ ∀ e, e ∈ E → e.f0.length ≤ 1000000 ∧ e.f1.length ≤ 1000000 := by
  simpa [eSmall] using h
theorem put5 {w : World} {g t : Nat} {a b c d e a' b' c' d' e' : Value} (h : w.heap[g]? = some (.cells #[a, b, c, d, e] t (0, 0))) : (((((w.setCell ⟨g, 0, none⟩ a').setCell ⟨g, 1, none⟩ b').setCell ⟨g, 2, none⟩ c').setCell ⟨g, 3, none⟩ d').setCell ⟨g, 4, none⟩ e').heap[g]? = some (.cells #[a', b', c', d', e'] t (0, 0)) :=
  blk_put (blk_put (blk_put (blk_put (blk_put h 0 _ rfl) 1 _ rfl) 2 _ rfl) 3 _ rfl) 4 _ rfl
theorem S_put5 {α : Type} {k : Kd α} {ty base g t : Nat} {cs : Array Value} {w : World} {v a' b' c' d' e' : Value} {xs : List α} (h : Kd.S k ty w base (fun _ => True) v xs) (hb : w.heap[g]? = some (.cells cs t (0, 0))) (ht : ∀ q, q ∈ ty :: k.E → q ≠ t) : Kd.S k ty (((((w.setCell ⟨g, 0, none⟩ a').setCell ⟨g, 1, none⟩ b').setCell ⟨g, 2, none⟩ c').setCell ⟨g, 3, none⟩ d').setCell ⟨g, 4, none⟩ e') base (fun _ => True) v xs :=
  Kd.S_mono (Kd.S_far (p := ⟨g, 4, none⟩) (Kd.S_far (p := ⟨g, 3, none⟩) (Kd.S_far (p := ⟨g, 2, none⟩) (Kd.S_far (p := ⟨g, 1, none⟩) (Kd.S_far (p := ⟨g, 0, none⟩) (Kd.S_types h hb ht) (fun _ hk => hk.2) _) (fun _ hk => hk.2) _) (fun _ hk => hk.2) _) (fun _ hk => hk.2) _) (fun _ hk => hk.2) _) (fun _ _ => trivial)
theorem R_put5 {α : Type} {k : Kd α} {ty base g t : Nat} {cs : Array Value} {w : World} {v a' b' c' d' e' : Value} {xs : List α} (h : Kd.R k ty w base (fun _ => True) v xs) (hb : w.heap[g]? = some (.cells cs t (0, 0))) (ht : ∀ q, q ∈ ty :: k.E → q ≠ t) : Kd.R k ty (((((w.setCell ⟨g, 0, none⟩ a').setCell ⟨g, 1, none⟩ b').setCell ⟨g, 2, none⟩ c').setCell ⟨g, 3, none⟩ d').setCell ⟨g, 4, none⟩ e') base (fun _ => True) v xs :=
  Kd.R_mono (Kd.R_far (p := ⟨g, 4, none⟩) (Kd.R_far (p := ⟨g, 3, none⟩) (Kd.R_far (p := ⟨g, 2, none⟩) (Kd.R_far (p := ⟨g, 1, none⟩) (Kd.R_far (p := ⟨g, 0, none⟩) (Kd.R_types h hb ht) (fun _ hk => hk.2) _) (fun _ hk => hk.2) _) (fun _ hk => hk.2) _) (fun _ hk => hk.2) _) (fun _ hk => hk.2) _) (fun _ _ => trivial)
theorem below_put5 {w W : World} {g : Nat} {a' b' c' d' e' : Value} (h : Below w.heap.size w W) (hg : w.heap.size ≤ g) : Below w.heap.size w (((((W.setCell ⟨g, 0, none⟩ a').setCell ⟨g, 1, none⟩ b').setCell ⟨g, 2, none⟩ c').setCell ⟨g, 3, none⟩ d').setCell ⟨g, 4, none⟩ e') :=
  below_set (below_set (below_set (below_set (below_set h hg) hg) hg) hg) hg
def mvEl (old fresh : List S36) (x : S51) : S51 := ⟨moveP old fresh x.f0, x.f1, x.f2, x.f3⟩
theorem set_step {α : Type} (f : α → α) (l : List α) (y : Nat) (a : α) (h : l[y]? = some a) : ((l.take y).map f ++ l.drop y).set y (f a) = (l.take (y + 1)).map f ++ l.drop (y + 1) := by
  obtain ⟨hl, e⟩ := List.getElem?_eq_some_iff.1 h
  rw [List.set_append_right _ _ (by simp; omega), show y - ((l.take y).map f).length = 0 by simp; omega, List.drop_eq_getElem_cons hl, List.set_cons_zero, List.take_succ_eq_append_getElem hl, e]
  simp
theorem get_step {α : Type} (f : α → α) (l : List α) (y : Nat) (h : y < l.length) : ((l.take y).map f ++ l.drop y)[y]? = l[y]? := by
  rw [List.getElem?_append_right (by simp; omega), List.getElem?_drop]
  simp [Nat.min_eq_left (Nat.le_of_lt h)]
theorem MoverAt.kept {W w1 : World} {gO gK gM : Nat} {A0 : Option Addr} {c0 : Nat} {old fresh : List S36} (h : MoverAt W gO gK gM A0 c0 old fresh) (hO : w1.heap[gO]? = W.heap[gO]?) (hK : w1.heap[gK]? = W.heap[gK]?) (hM : w1.heap[gM]? = W.heap[gM]?) (hC : Kd.C k36 w1 A0 old.length old) : MoverAt w1 gO gK gM A0 c0 old fresh :=
  ⟨hO.trans h.o, hK.trans h.k, h.m.move hM, hC⟩
def groups_Apply.T13 : Bool × List (List Nat × List Nat) := (true, [([], []), ([0], [0]), ([], []), ([], []), ([], []), ([4], [4]), ([], []), ([5, 6], [5, 6]), ([7], [7]), ([8], [8]), ([3, 9], [3, 9]), ([1, 2, 0, 1, 2, 3, 4, 5, 6, 7, 8, 9, 10], [1, 2]), ([11, 0, 1, 2, 3, 4, 5, 6, 7, 8, 9, 10], [11]), ([12, 10, 10, 0, 1, 2, 3, 4, 5, 6, 7, 8, 9, 10], [10, 12])])
def groups_Apply.B13 : List Nat := [0, 1, 0, 0, 0, 16, 0, 112, 240, 496, 1016, 2047, 4095, 8191]
theorem groups_Apply.tab13 : rtab .any (opsOf Try.f18 13) = groups_Apply.T13 := by kernel_rfl
theorem groups_Apply.bits13 : waitsOk groups_Apply.T13.2 groups_Apply.B13 = true := by kernel_rfl
def groups_Apply.f (k : Nat) (l0_0 : List (S49)) (l0_1 : List (S36)) (a0_2 : Int) (a0_3 : Int) (a0_4 : Int) (l1 : List ByteArray) : Option ((List (S49)) × (List (S36)) × Int × Int × Int × Int) := (groups_Order.f k l0_0 l0_1 a0_2 a0_3 a0_4 l1).bind fun b => if b.2 = 0 then (if fits l0_1 = true ∧ fits b.1 = true ∧ eSmall l0_0 = true then some (l0_0.map (moveE l0_1 b.1), b.1, a0_2, a0_3, a0_4, 0) else none) else some ([], [], 0, 0, 0, b.2)
set_option maxHeartbeats 4000000 in
set_option maxRecDepth 100000 in
theorem groups_Apply.calls (k : Nat) (A0_0 : Option Addr) (c0_0 : Nat) (l0_0 : List (S49)) (A0_1 : Option Addr) (c0_1 : Nat) (l0_1 : List (S36)) (a0_2 : Int) (a0_3 : Int) (a0_4 : Int) (A1 : Option Addr) (c1 : Nat) (l1 : List ByteArray) (r1 : List (S49)) (r2 : List (S36)) (r3 : Int) (r4 : Int) (r5 : Int) (r6 : Int) (w : World) (hr0_0 : Kd.C k49 w A0_0 l0_0.length l0_0) (hc0_0 : l0_0.length ≤ c0_0) (hr0_1 : Kd.C k36 w A0_1 l0_1.length l0_1) (hc0_1 : l0_1.length ≤ c0_1) (hr1 : Kd.C Kd.string w A1 l1.length l1) (hc1 : l1.length ≤ c1) (h : groups_Apply.f k l0_0 l0_1 a0_2 a0_3 a0_4 l1 = some (r1, r2, r3, r4, r5, r6)) :
    Calls Try.prog 18 #[.agg #[.slice A0_0 l0_0.length c0_0, .slice A0_1 l0_1.length c0_1, .int .i64 a0_2, .int .i64 a0_3, .int .i64 a0_4], .slice A1 l1.length c1] w fun e w' => ∃ v0_ v1_ : Value, e = .returned (.tuple #[.agg #[v0_, v1_, .int .i64 r3, .int .i64 r4, .int .i64 r5], .int .i64 r6]) ∧ Kd.S k49 49 w' w.heap.size (fun _ => True) v0_ r1 ∧ Kd.R k36 36 w' w.heap.size (fun _ => True) v1_ r2 ∧ Below w.heap.size w w' := by
  unfold groups_Apply.f at h
  obtain ⟨⟨R, eo⟩, hO, h⟩ := Option.bind_eq_some_iff.mp h
  have HO := Aside0.mk hO
  have H := Aside0.mk h
  have HR0 := Aside0.mk hr0_0
  have HC0 := Aside0.mk hc0_0
  have HR1 := Aside0.mk hr0_1
  have HC1 := Aside0.mk hc0_1
  have HRN := Aside0.mk hr1
  have HCN := Aside0.mk hc1
  clear hO h hr0_0 hc0_0 hr0_1 hc0_1 hr1 hc1
  go_enter Try.func18, Try.ntmps18
  go_wp2_with fail
  have hb0 : Below w.heap.size w ((w.alloc (.cells #[.slice A0_0 l0_0.length c0_0, .slice A0_1 l0_1.length c0_1, .int .i64 a0_2, .int .i64 a0_3, .int .i64 a0_4] 25)).alloc (.cells #[.slice none 0 0, .slice none 0 0, .int .i64 0, .int .i64 0, .int .i64 0] 25)) := below_alloc (below_alloc (Below.refl _ _) _) _
  have hk0 := blk_alloc (blk_new w (.cells #[.slice A0_0 l0_0.length c0_0, .slice A0_1 l0_1.length c0_1, .int .i64 a0_2, .int .i64 a0_3, .int .i64 a0_4] 25)) (.cells #[.slice none 0 0, .slice none 0 0, .int .i64 0, .int .i64 0, .int .i64 0] 25)
  have hk1 := blk_new (w.alloc (.cells #[.slice A0_0 l0_0.length c0_0, .slice A0_1 l0_1.length c0_1, .int .i64 a0_2, .int .i64 a0_3, .int .i64 a0_4] 25)) (.cells #[.slice none 0 0, .slice none 0 0, .int .i64 0, .int .i64 0, .int .i64 0] 25)
  rw [show (w.alloc (.cells #[.slice A0_0 l0_0.length c0_0, .slice A0_1 l0_1.length c0_1, .int .i64 a0_2, .int .i64 a0_3, .int .i64 a0_4] 25)).heap.size = w.heap.size + 1 by simp] at hk1
  generalize ((w.alloc (.cells #[.slice A0_0 l0_0.length c0_0, .slice A0_1 l0_1.length c0_1, .int .i64 a0_2, .int .i64 a0_3, .int .i64 a0_4] 25)).alloc (.cells #[.slice none 0 0, .slice none 0 0, .int .i64 0, .int .i64 0, .int .i64 0] 25)) = w0 at hb0 hk0 hk1 ⊢
  refine (groups_Order.calls k _ _ l0_0 _ _ l0_1 a0_2 a0_3 a0_4 _ _ l1 R eo w0 (Kd.C_below HR0.out hb0) HC0.out (Kd.C_below HR1.out hb0) HC1.out (Kd.C_below HRN.out hb0) HCN.out HO.out).mono ?_
  rintro e w1 ⟨v0, rfl, hR, hb1⟩
  obtain ⟨A, c, rfl, hlc, hC⟩ := Kd.R_reads hR
  have HB1 := Aside0.mk (below_step hb0 hb1)
  have HK1 := Aside0.mk (blk_below hk0 hb1)
  have HT1 := Aside0.mk (blk_below hk1 hb1)
  have HRR1 := Aside0.mk (Kd.R_lower hR hb0.size)
  clear hb0 hk0 hk1 hR hlc hC hb1
  by_cases he : eo = 0
  · subst he
    obtain ⟨hf0, hf1, hes, rfl, rfl, rfl, rfl, rfl, rfl⟩ : fits l0_1 = true ∧ fits R = true ∧ eSmall l0_0 = true ∧ l0_0.map (moveE l0_1 R) = r1 ∧ R = r2 ∧ a0_2 = r3 ∧ a0_3 = r4 ∧ a0_4 = r5 ∧ 0 = r6 := by
      have h := H.out
      rw [if_pos rfl] at h
      split at h
      · rename_i hc
        simp only [Option.some.injEq, Prod.mk.injEq] at h
        obtain ⟨h1, h2, h3, h4, h5, h6⟩ := h
        exact ⟨hc.1, hc.2.1, hc.2.2, h1, h2, h3, h4, h5, h6⟩
      · cases h
    have HF0 := Aside0.mk hf0
    have HF1 := Aside0.mk hf1
    have HES := Aside0.mk (eSmall_len hes)
    clear H hf0 hf1 hes
    have hz1 : w1.cell? ⟨w.heap.size, 1, none⟩ = some (.slice A0_1 l0_1.length c0_1) := (blk_cell HK1.out 1).trans rfl
    go_wp2_with fail
    clear hz1
    refine (mover_calls A0_1 c0_1 l0_1 A c R w1 (Kd.C_below HR1.out HB1.out) (Kd.R_reads' HRR1.out).2.2 HF1.out).mono ?_
    rintro e w2 ⟨gO, gK, gM, rfl, hmv, hgO, hgK, hgM, hb2⟩
    have HMV := Aside0.mk hmv
    have HB2 := Aside0.mk (below_step HB1.out hb2)
    have HK2 := Aside0.mk (blk_below HK1.out hb2)
    have HT2 := Aside0.mk (blk_below HT1.out hb2)
    have HRR2 := Aside0.mk (Kd.R_below HRR1.out hb2)
    have hz0 : (w2.alloc (.cells #[.slice none 0 0, .slice A R.length c, .int .i64 a0_2, .int .i64 a0_3, .int .i64 a0_4] 25)).cell? ⟨w.heap.size, 0, none⟩ = some (.slice A0_0 l0_0.length c0_0) := (blk_cell (blk_alloc HK2.out _) 0).trans rfl
    have hz2 : w2.cell? ⟨w.heap.size, 2, none⟩ = some (.int .i64 a0_2) := (blk_cell HK2.out 2).trans rfl
    have hz3 : w2.cell? ⟨w.heap.size, 3, none⟩ = some (.int .i64 a0_3) := (blk_cell HK2.out 3).trans rfl
    have hz4 : w2.cell? ⟨w.heap.size, 4, none⟩ = some (.int .i64 a0_4) := (blk_cell HK2.out 4).trans rfl
    clear hmv hb2 HB1 HK1 HT1 HRR1
    go_wp2
    clear hz0 hz2 hz3 hz4
    have hb3 : Below w2.heap.size w2 (w2.alloc (.cells #[.slice none 0 0, .slice A R.length c, .int .i64 a0_2, .int .i64 a0_3, .int .i64 a0_4] 25)) := below_alloc (Below.refl _ _) _
    have HB3 := Aside0.mk (below_step HB2.out hb3)
    have HK3 := Aside0.mk (blk_below HK2.out hb3)
    have HT3 := Aside0.mk (blk_below HT2.out hb3)
    have HRR3 := Aside0.mk (Kd.R_below HRR2.out hb3)
    have HMV3 := Aside0.mk (HMV.out.below hb3)
    have HX3 := Aside0.mk (blk_new w2 (.cells #[.slice none 0 0, .slice A R.length c, .int .i64 a0_2, .int .i64 a0_3, .int .i64 a0_4] 25))
    have hgx : w.heap.size ≤ w2.heap.size := HB2.out.size
    have hlO : gO < w2.heap.size ∧ gK < w2.heap.size ∧ gM < w2.heap.size ∧ w.heap.size + 1 < w2.heap.size := ⟨blk_lt HMV.out.o, blk_lt HMV.out.k, HMV.out.m.lt, blk_lt HT2.out⟩
    generalize w2.heap.size = gx at HX3 hgx hlO ⊢
    generalize w2.alloc (.cells #[.slice none 0 0, .slice A R.length c, .int .i64 a0_2, .int .i64 a0_3, .int .i64 a0_4] 25) = w3 at HB3 HK3 HT3 HRR3 HMV3 HX3 ⊢
    have HLO := Aside0.mk hlO
    clear hb3 HB2 HK2 HT2 HRR2 HMV hlO
    go_loopg [39] l0_0.length (fun g v39 w' => ∃ (x : Nat) (u : Value), v39 = .int .i64 x ∧ Aside0 (g = l0_0.length - x ∧ x ≤ l0_0.length) ∧ Aside0 (w'.heap[gx]? = some (.cells #[u, .slice A R.length c, .int .i64 a0_2, .int .i64 a0_3, .int .i64 a0_4] 25 (0, 0))) ∧ Aside0 (Kd.S k49 49 w' w.heap.size (fun _ => True) u ((l0_0.take x).map (moveE l0_1 R))) ∧ Aside0 (∀ k, u.ownBlock = some k → gx < k) ∧ Aside0 (Kd.R k36 36 w' w.heap.size (fun _ => True) (.slice A R.length c) R) ∧ Aside0 (MoverAt w' gO gK gM A0_1 c0_1 l0_1 R) ∧ Aside0 (w'.heap[w.heap.size]? = some (.cells #[.slice A0_0 l0_0.length c0_0, .slice A0_1 l0_1.length c0_1, .int .i64 a0_2, .int .i64 a0_3, .int .i64 a0_4] 25 (0, 0))) ∧ Aside0 (w'.heap[w.heap.size + 1]? = some (.cells #[.slice none 0 0, .slice none 0 0, .int .i64 0, .int .i64 0, .int .i64 0] 25 (0, 0))) ∧ Aside0 (Below w.heap.size w w'))
    case atStart => exact ⟨0, .slice none 0 0, rfl, ⟨by simp, by omega⟩, HX3, ⟨Kd.S_nil _ _ _ _ _⟩, ⟨fun k h => by simp [Value.ownBlock] at h⟩, HRR3, HMV3, HK3, HT3, HB3⟩
    clear HX3 HRR3 HMV3 HK3 HT3 HB3
    case round =>
      obtain ⟨x, u, rfl, HG, HX, HS, HU, HRR, HMV, HK, HT, HB⟩ := hrel
      by_cases hlt : x < l0_0.length
      · have hltz : (x : Int) < (l0_0.length : Int) := by omega
        have p0 : 0 ≤ (x : Int) := by omega
        obtain ⟨ad, B0, d0, B1, d1, e, hx0, hx1, hl0, hc0, hl1, hc1⟩ := at_T49 HR0.out (x : Int) p0 hltz
        cases e
        replace hx0 := pw_cell_below HB.out hx0
        replace hx1 := pw_cell_below HB.out hx1
        obtain ⟨ex, hex⟩ : ∃ ex, rd_T49 l0_0 (x : Int) = ex := ⟨_, rfl⟩
        rw [hex] at hx0 hx1 hl0 hc0 hl1 hc1
        rw [Int.toNat_natCast] at hx0 hx1
        go_wp2
        have HEX := Aside0.mk hex
        have hb4 : Below wr.heap.size wr (wr.alloc (.cells #[.slice B0 ex.f0.length d0, .slice B1 ex.f1.length d1] 49)) := below_alloc (Below.refl _ _) _
        have HB4 := Aside0.mk hb4
        have HK4 := Aside0.mk (blk_new wr (.cells #[.slice B0 ex.f0.length d0, .slice B1 ex.f1.length d1] 49))
        have hgy : wr.heap.size ≤ wr.heap.size := Nat.le_refl _
        generalize hgq : wr.heap.size = gy at HK4 ⊢
        generalize wr.alloc (.cells #[.slice B0 ex.f0.length d0, .slice B1 ex.f1.length d1] 49) = w4 at HB4 hb4 HK4 ⊢
        have hN : gy ≤ w4.heap.size := by rw [← hgq]; exact hb4.size
        have HS4 : Aside0 (Kd.S k49 49 w4 w.heap.size (fun k => True ∧ k < gy) u ((l0_0.take x).map (moveE l0_1 R))) := ⟨by rw [← hgq]; exact Kd.S_old HS.out hb4⟩
        have HOWN : Aside0 (∀ k, u.ownBlock = some k → k < gy) := ⟨by rw [← hgq]; exact Kd.S_lt HS.out⟩
        have HRR4 := Aside0.mk (Kd.R_below HRR.out hb4)
        have HMV4 := Aside0.mk (HMV.out.below hb4)
        have HX4 := Aside0.mk (blk_below HX.out hb4)
        have HKK4 := Aside0.mk (blk_below HK.out hb4)
        have HTT4 := Aside0.mk (blk_below HT.out hb4)
        have HBB4 := Aside0.mk (below_step HB.out hb4)
        have hes := HES.out.2 ex (by rw [← hex, rdT49 hlt]; exact List.getElem_mem hlt)
        have HE1 := fun (W : World) (hb : Below w4.heap.size w4 W) => slices_Clone_int_int.calls B0 d0 ex.f0 ex.f0 W (Kd.C_below (Kd.C_below (Kd.C_below hc0 HB.out) HB4.out) hb) hl0 (by unfold slices_Clone_int_int.f; rw [if_pos (by omega)])
        have HE2 := fun (W : World) (hb : Below w4.heap.size w4 W) => api_Element_32.calls B1 d1 ex.f1 ex.f1 W (Kd.C_below (Kd.C_below (Kd.C_below hc1 HB.out) HB4.out) hb) hl1 (by unfold api_Element_32.f; rw [if_pos (by omega)])
        have hS : ∀ W : World, Below w4.heap.size w4 W → (W.cell? ⟨gy, 0, none⟩ = some (.slice B0 ex.f0.length d0) ∧ W.cell? ⟨gy, 1, none⟩ = some (.slice B1 ex.f1.length d1) ∧ Below w4.heap.size w4 W) := fun W hb => by
          have hk := blk_below HK4.out hb
          exact ⟨(blk_cell hk 0).trans rfl, (blk_cell hk 1).trans rfl, hb⟩
        have HLT := Aside0.mk hlt
        clear hx0 hx1 hb4 hgy hlt hltz hex HS HRR HMV HX HK HT
        go_upto_region 10 with (fail)
        go_cut [12] (fun v12 wc => ∃ (gq : Nat) (A5 : Option Addr) (c5 : Nat) (A6 : Option Addr) (c6 : Nat), v12 = .pointer (some ⟨gq, 0, none⟩) ∧ Aside0 (wc.heap[gq]? = some (.cells #[.slice A5 ex.f0.length c5, .slice A6 ex.f1.length c6] 49 (0, 0))) ∧ Aside0 (w4.heap.size ≤ gq) ∧ Aside0 (Kd.R (Kd.int .i64) 3 wc w4.heap.size (fun _ => True) (.slice A5 ex.f0.length c5) ex.f0) ∧ Aside0 (Kd.R k51 51 wc w4.heap.size (fun _ => True) (.slice A6 ex.f1.length c6) ex.f1) ∧ Aside0 (Below w4.heap.size w4 wc))
        case first =>
          go_region_held3 (fun w' => w'.cell? ⟨gy, 0, none⟩ = some (.slice B0 ex.f0.length d0) ∧ w'.cell? ⟨gy, 1, none⟩ = some (.slice B1 ex.f1.length d1) ∧ Below w4.heap.size w4 w')
            (first
              | exact hS _ (below_drew (Below.refl _ _))
              | exact hS _ hbm
              | exact hS _ hbn
              | exact hS _ (below_alloc (below_drew (Below.refl _ _)) _)
              | exact hS _ (below_alloc hbn _)
              | exact hS _ (below_alloc hbm _)
              | (refine hS _ ?_; repeat (first | exact hbm | exact hbn | exact Below.refl _ _ | apply below_drew | apply below_alloc | refine below_set ?_ (by omega))))
            (first
              | (go_at_call 31; refine (HE1 _ (below_drew (Below.refl _ _))).mono ?_; rintro e w5 ⟨v5, rfl, hr5, hb5⟩; obtain ⟨A5, c5, e5⟩ := Kd.R_slice hr5; subst e5; have hbn := below_step (below_drew (Below.refl w4.heap.size w4)) hb5)
              | (go_at_call 31; refine (HE1 _ (below_alloc (below_drew (Below.refl _ _)) _)).mono ?_; rintro e w5 ⟨v5, rfl, hr5, hb5⟩; obtain ⟨A5, c5, e5⟩ := Kd.R_slice hr5; subst e5; have hbn := below_step (below_alloc (below_drew (Below.refl w4.heap.size w4)) _) hb5; have hkq := blk_below (blk_new w4.drew (.cells #[.slice none 0 0, .slice none 0 0] 49)) hb5)
              | (go_at_call 32; refine (HE2 _ hbn).mono ?_; rintro e w6 ⟨v6, rfl, hr6, hb6⟩; obtain ⟨A6, c6, e6⟩ := Kd.R_slice hr6; subst e6; have hbm := below_step hbn hb6; have hkr := blk_below hkq hb6; have hs5 := hbn.size; have hs6 := hbm.size; have hq0 : w6.cell? ⟨w4.heap.size, 0, none⟩ = some (.slice none 0 0) := (blk_cell hkr 0).trans rfl; have hq1 : w6.cell? ⟨w4.heap.size, 1, none⟩ = some (.slice none 0 0) := (blk_cell hkr 1).trans rfl; have hq2 : w6.frozen? ⟨w4.heap.size, 0, none⟩ = false := blk_frozen hkr 0; have hq3 : w6.frozen? ⟨w4.heap.size, 1, none⟩ = false := blk_frozen hkr 1)
              | (go_at_call 32; refine (HE2 _ hbn).mono ?_; rintro e w6 ⟨v6, rfl, hr6, hb6⟩; obtain ⟨A6, c6, e6⟩ := Kd.R_slice hr6; subst e6; have hbm := below_step hbn hb6; have hs5 := hbn.size; have hs6 := hbm.size)
              | (go_at_call 32; refine (HE2 _ (below_alloc hbn _)).mono ?_; rintro e w6 ⟨v6, rfl, hr6, hb6⟩; obtain ⟨A6, c6, e6⟩ := Kd.R_slice hr6; subst e6; have hbm := below_step (below_alloc hbn _) hb6; have hkr := blk_below (blk_new w5 (.cells #[.slice none 0 0, .slice none 0 0] 49)) hb6; have hs5 := hbn.size; have hs6 := hbm.size; have hq0 : w6.cell? ⟨w5.heap.size, 0, none⟩ = some (.slice none 0 0) := (blk_cell hkr 0).trans rfl; have hq1 : w6.cell? ⟨w5.heap.size, 1, none⟩ = some (.slice none 0 0) := (blk_cell hkr 1).trans rfl; have hq2 := blk_frozen hkr 0; have hq3 := blk_frozen hkr 1))
          · go_wp2
            go_meet
            case rel => exact ⟨w6.heap.size, A5, c5, A6, c6, rfl, ⟨blk_new w6 _⟩, ⟨hs6⟩, ⟨Kd.R_below (Kd.R_below hr5 hb6) (below_alloc (Below.refl _ _) _)⟩, ⟨Kd.R_below (Kd.R_lower hr6 hs5) (below_alloc (Below.refl _ _) _)⟩, ⟨below_alloc hbm _⟩⟩
          · go_wp2
            go_meet
            case rel => exact ⟨w5.heap.size, A5, c5, A6, c6, rfl, ⟨blk_set (blk_set hkr 0 _) 1 _⟩, ⟨hs5⟩, ⟨Kd.R_set (Kd.R_set (Kd.R_below (Kd.R_below hr5 (below_alloc (Below.refl _ _) _)) hb6) hkr (by decide) 0 _) (blk_set hkr 0 _) (by decide) 1 _⟩, ⟨Kd.R_set (Kd.R_set (Kd.R_lower hr6 (Nat.le_trans hs5 (below_alloc (Below.refl w5.heap.size w5) _).size)) hkr (by decide) 0 _) (blk_set hkr 0 _) (by decide) 1 _⟩, ⟨below_set (below_set hbm hs5) hs5⟩⟩
          · go_wp2
            go_meet
            case rel => exact ⟨w4.heap.size, A5, c5, A6, c6, rfl, ⟨blk_set (blk_set hkr 0 _) 1 _⟩, ⟨Nat.le_refl _⟩, ⟨Kd.R_set (Kd.R_set (Kd.R_below (Kd.R_lower hr5 (below_alloc (below_drew (Below.refl w4.heap.size w4)) _).size) hb6) hkr (by decide) 0 _) (blk_set hkr 0 _) (by decide) 1 _⟩, ⟨Kd.R_set (Kd.R_set (Kd.R_lower hr6 hs5) hkr (by decide) 0 _) (blk_set hkr 0 _) (by decide) 1 _⟩, ⟨below_set (below_set hbm (Nat.le_refl _)) (Nat.le_refl _)⟩⟩
        case rest =>
          obtain ⟨gq, A5, c5, A6, c6, rfl, HKQ, HGQ, HR5, HR6, HB5⟩ := hcut
          clear HE1 HE2 hS HB HB4 HK4 hc0 hc1 hl0 hl1
          have HESX := Aside0.mk hes
          clear hes
          have hq1 : wc.cell? ⟨gq, 1, none⟩ = some (.slice A6 ex.f1.length c6) := (blk_cell HKQ.out 1).trans rfl
          go_wp2
          clear hq1
          go_loopg [53] ex.f1.length (fun g v53 w' => ∃ y : Nat, v53 = .int .i64 y ∧ Aside0 (g = ex.f1.length - y ∧ y ≤ ex.f1.length) ∧ Aside0 (w'.heap[gq]? = some (.cells #[.slice A5 ex.f0.length c5, .slice A6 ex.f1.length c6] 49 (0, 0))) ∧ Aside0 (Kd.R (Kd.int .i64) 3 w' w4.heap.size (fun _ => True) (.slice A5 ex.f0.length c5) ex.f0) ∧ Aside0 (Kd.R k51 51 w' w4.heap.size (fun _ => True) (.slice A6 ex.f1.length c6) ((ex.f1.take y).map (mvEl l0_1 R) ++ ex.f1.drop y)) ∧ Aside0 (Below w4.heap.size w4 w'))
          case atStart => exact ⟨0, rfl, ⟨by simp, by omega⟩, HKQ, HR5, ⟨by simpa using HR6.out⟩, HB5⟩
          clear HKQ HR5 HR6 HB5
          case round =>
            obtain ⟨y, rfl, HY, HKQ, HR5, HR6, HB5⟩ := hrel
            by_cases hyl : y < ex.f1.length
            · have hltz : (y : Int) < (ex.f1.length : Int) := by omega
              have p0 : 0 ≤ (y : Int) := by omega
              have hcl : (ex.f1.take y).map (mvEl l0_1 R) ++ ex.f1.drop y = (ex.f1.take y).map (mvEl l0_1 R) ++ ex.f1.drop y ∧ ((ex.f1.take y).map (mvEl l0_1 R) ++ ex.f1.drop y).length = ex.f1.length := ⟨rfl, by simp; omega⟩
              obtain ⟨gr, cr, ev, hbg⟩ := Kd.R_at HR6.out (by rw [hcl.2]; omega)
              injection ev with ev1 ev2 ev3
              subst ev1
              clear ev2 ev3
              obtain ⟨xe, hxe⟩ : ∃ xe, ex.f1[y]? = some xe := ⟨_, List.getElem?_eq_getElem hyl⟩
              have HXE := Aside0.mk hxe
              have HGT : Aside0 (((ex.f1.take y).map (mvEl l0_1 R) ++ ex.f1.drop y)[y]? = some xe) := ⟨(get_step _ _ _ hyl).trans hxe⟩
              obtain ⟨hcs, hfz⟩ := Kd.R_cells (d := k51) (enc := fun x => [.int .i64 x.f0, .int .i64 x.f1, .int .i64 x.f2, .bool x.f3]) (k := 4) rfl (fun _ _ _ h => k51_open h) HR6.out HGT.out
              have hy0 : wr.cell? ⟨gr, y * 4, none⟩ = some (.int .i64 xe.f0) := hcs 0 _ rfl
              have hy0d : wr.drew.cell? ⟨gr, y * 4, none⟩ = some (.int .i64 xe.f0) := hy0
              have hfr : wr.frozen? ⟨gr, y * 4, none⟩ = false := hfz (y * 4)
              have HCT := fun (W : World) (hb : Below wr.heap.size wr W) => mover1_calls W gO gK gM A0_1 c0_1 l0_1 R HF0.out xe.f0 ((HMV4.out.below HB5.out).below hb)
              have HFR : ∀ W : World, Below wr.heap.size wr W → W.cell? ⟨gr, y * 4, none⟩ = some (.int .i64 xe.f0) ∧ W.frozen? ⟨gr, y * 4, none⟩ = false := fun W hb => ⟨pw_cell_below hb hy0, (hb.frozen (World.block_lt_of_cell? _ _ hy0)).trans hfr⟩
              have hS : ∀ W : World, W.heap[gq]? = wr.heap[gq]? → (W.cell? ⟨gq, 1, none⟩ = some (.slice (some ⟨gr, 0, none⟩) ex.f1.length c6)) := fun W hb => by
                have hk := hb.trans HKQ.out
                exact (blk_cell hk 1).trans rfl
              clear hcs hfz hxe hcl hy0 hfr
              have hgl : gq < wr.heap.size := blk_lt HKQ.out
              have hne : gq ≠ gr := fun e => Kd.R_ne HR6.out HKQ.out (by decide) (by rw [e]; rfl)
              go_wp2
              refine start_ (n := 14) (S := fun w' => w'.cell? ⟨gq, 1, none⟩ = some (.slice (some ⟨gr, 0, none⟩) ex.f1.length c6) ∧ w'.cell? ⟨gr, y * 4, none⟩ = some (.int .i64 xe.f0)) (ds := [13]) #[false, false, false, false, false, false, false, false, false, false, false, false, false, false] (by kernel_rfl) rfl rfl ⟨hS _ rfl, hy0d⟩ (fun hHeld => ?_); refine with_tabW groups_Apply.tab13 groups_Apply.bits13 (fun HT_ HW_ => ?_)
              refine pure_ (i := 0) (N := some 56) (v := ?_) (a' := ?_) #[true, false, false, false, false, false, false, false, false, false, false, false, false, false] rfl rfl (any_of HT_.out (by kernel_rfl)) (fun _ _ _ h => h) (Or.inl ⟨by rfl, ?_⟩) ?_ ?_
              rotate_left
              · intro w'
                go_simp
                with_reducible rfl
              rotate_left
              · simp only [Act.put, List.setIfInBounds_toArray, List.set_cons_zero, List.set_cons_succ, i64_w, i32_w]
                rfl
              refine pure_ (i := 2) (N := some 58) (v := ?_) (a' := ?_) #[true, false, true, false, false, false, false, false, false, false, false, false, false, false] rfl rfl (any_of HT_.out (by kernel_rfl)) (fun _ _ _ h => h) (Or.inl ⟨by rfl, ?_⟩) ?_ ?_
              rotate_left
              · intro w'
                go_simp
                with_reducible rfl
              rotate_left
              · simp only [Act.put, List.setIfInBounds_toArray, List.set_cons_zero, List.set_cons_succ, i64_w, i32_w]
                rfl
              refine pure_ (i := 3) (N := some 59) (v := ?_) (a' := ?_) #[true, false, true, true, false, false, false, false, false, false, false, false, false, false] rfl rfl (any_of HT_.out (by kernel_rfl)) (fun _ _ _ h => h) (Or.inl ⟨by rfl, ?_⟩) ?_ ?_
              rotate_left
              · intro w'
                go_simp
                with_reducible rfl
              rotate_left
              · simp only [Act.put, List.setIfInBounds_toArray, List.set_cons_zero, List.set_cons_succ, i64_w, i32_w]
                rfl
              refine pure_ (i := 4) (N := some 60) (v := ?_) (a' := ?_) #[true, false, true, true, true, false, false, false, false, false, false, false, false, false] rfl rfl (any_of HT_.out (by kernel_rfl)) (fun _ _ _ h => h) (Or.inl ⟨by rfl, ?_⟩) ?_ ?_
              rotate_left
              · intro w'
                go_simp
                with_reducible rfl
              rotate_left
              · simp only [Act.put, List.setIfInBounds_toArray, List.set_cons_zero, List.set_cons_succ, i64_w, i32_w]
                rfl
              refine pure_ (i := 6) (N := some 62) (v := ?_) (a' := ?_) #[true, false, true, true, true, false, true, false, false, false, false, false, false, false] rfl rfl (any_of HT_.out (by kernel_rfl)) (fun _ _ _ h => h) (Or.inl ⟨by rfl, ?_⟩) ?_ ?_
              rotate_left
              · intro w'
                go_simp
                with_reducible rfl
              rotate_left
              · simp only [Act.put, List.setIfInBounds_toArray, List.set_cons_zero, List.set_cons_succ, i64_w, i32_w]
                rfl
              refine take_ (i := 1) (N := some 57) (v := ?_) (a' := ?_) #[true, true, true, true, true, false, true, false, false, false, false, false, false, false] rfl rfl (take_ofW HT_.out HW_.out (by kernel_rfl)) (fun _ _ _ h => h) (Or.inl ⟨by rfl, ?_⟩) hHeld ?_ ?_
              rotate_left
              · rintro w' ⟨s0, s1⟩
                go_simp
                with_reducible rfl
              rotate_left
              · simp only [Act.put, List.setIfInBounds_toArray, List.set_cons_zero, List.set_cons_succ, i64_w, i32_w]
                rfl
              refine take_ (i := 5) (N := some 61) (v := ?_) (a' := ?_) #[true, true, true, true, true, true, true, false, false, false, false, false, false, false] rfl rfl (take_ofW HT_.out HW_.out (by kernel_rfl)) (fun _ _ _ h => h) (Or.inl ⟨by rfl, ?_⟩) hHeld ?_ ?_
              rotate_left
              · rintro w' ⟨s0, s1⟩
                go_simp
                with_reducible rfl
              rotate_left
              · simp only [Act.put, List.setIfInBounds_toArray, List.set_cons_zero, List.set_cons_succ, i64_w, i32_w]
                rfl
              refine pure_ (i := 7) (N := some 63) (v := ?_) (a' := ?_) #[true, true, true, true, true, true, true, true, false, false, false, false, false, false] rfl rfl (any_of HT_.out (by kernel_rfl)) (fun _ _ _ h => h) (Or.inl ⟨by rfl, ?_⟩) ?_ ?_
              rotate_left
              · intro w'
                go_simp
                with_reducible rfl
              rotate_left
              · simp only [Act.put, List.setIfInBounds_toArray, List.set_cons_zero, List.set_cons_succ, i64_w, i32_w]
                rfl
              refine pure_ (i := 8) (N := some 64) (v := ?_) (a' := ?_) #[true, true, true, true, true, true, true, true, true, false, false, false, false, false] rfl rfl (any_of HT_.out (by kernel_rfl)) (fun _ _ _ h => h) (Or.inl ⟨by rfl, ?_⟩) ?_ ?_
              rotate_left
              · intro w'
                go_simp
                with_reducible rfl
              rotate_left
              · simp only [Act.put, List.setIfInBounds_toArray, List.set_cons_zero, List.set_cons_succ, i64_w, i32_w]
                rfl
              refine take_ (i := 9) (N := some 65) (v := ?_) (a' := ?_) #[true, true, true, true, true, true, true, true, true, true, false, false, false, false] rfl rfl (take_ofW HT_.out HW_.out (by kernel_rfl)) (fun _ _ _ h => h) (Or.inl ⟨by rfl, ?_⟩) hHeld ?_ ?_
              rotate_left
              · rintro w' ⟨s0, s1⟩
                go_simp
                with_reducible rfl
              rotate_left
              · simp only [Act.put, List.setIfInBounds_toArray, List.set_cons_zero, List.set_cons_succ, i64_w, i32_w]
                rfl
              refine one_ (i := 10) (N := some 66) #[true, true, true, true, true, true, true, true, true, true, true, false, false, false] rfl rfl (one_of HT_.out (by kernel_rfl)) (by decide) (fun K hK => ?_)
              go_simp
              go_at_call 42
              refine (HCT _ (below_drew (Below.refl _ _))).mono ?_
              rintro e w7 ⟨rfl, hb7⟩
              obtain ⟨hz0, hz1⟩ := HFR _ (below_step (below_drew (Below.refl _ _)) hb7)
              go_wp2_with fail
              refine hK.out _ _ ⟨hS _ (hb7.block gq hgl), hz0⟩ (fun hHeld => ?_)
              clear hK K
              refine pure_ (i := 11) (N := some 67) (v := ?_) (a' := ?_) #[true, true, true, true, true, true, true, true, true, true, true, true, false, false] rfl rfl (any_of HT_.out (by kernel_rfl)) (fun _ _ _ h => h) (Or.inl ⟨by rfl, ?_⟩) ?_ ?_
              rotate_left
              · intro w'
                go_simp
                with_reducible rfl
              rotate_left
              · simp only [Act.put, List.setIfInBounds_toArray, List.set_cons_zero, List.set_cons_succ, i64_w, i32_w]
                rfl
              refine pure_ (i := 12) (N := some 68) (v := ?_) (a' := ?_) #[true, true, true, true, true, true, true, true, true, true, true, true, true, false] rfl rfl (any_of HT_.out (by kernel_rfl)) (fun _ _ _ h => h) (Or.inl ⟨by rfl, ?_⟩) ?_ ?_
              rotate_left
              · intro w'
                go_simp
                with_reducible rfl
              rotate_left
              · simp only [Act.put, List.setIfInBounds_toArray, List.set_cons_zero, List.set_cons_succ, i64_w, i32_w]
                rfl
              refine last_ (i := 13) (N := none) #[true, true, true, true, true, true, true, true, true, true, true, true, true, true] rfl rfl (one_of HT_.out (by kernel_rfl)) (by decide) (fun K hK => ?_)
              refine skip_ (w1 := ?_) (by rfl) rfl ?_ ?_
              rotate_left
              · go_simp
                rfl
              refine hK.out _ _ ?_
              clear hK K
              refine done_ (done_of HT_.out (by kernel_rfl)) ?_
              have hcl : (List.map (mvEl l0_1 R) (List.take y ex.f1) ++ List.drop y ex.f1).length = ex.f1.length := by simp; omega
              have hseg := Kd.R_seg (d := k51) (i := (y : Int)) (c := [.int .i64 xe.f0, .int .i64 xe.f1, .int .i64 xe.f2, .bool xe.f3]) (seg := [.int .i64 (moveP l0_1 R xe.f0)]) (j := 0) (x' := mvEl l0_1 R xe) (okp := fun k => k ≠ gr) (Kd.R_below HR6.out (below_step (below_drew (Below.refl _ _)) hb7)) p0 hltz rfl (fun j u hu => by rw [Int.toNat_natCast]; exact pw_cell_below (below_step (below_drew (Below.refl _ _)) hb7) ((Kd.R_cells (d := k51) (enc := fun x => [.int .i64 x.f0, .int .i64 x.f1, .int .i64 x.f2, .bool x.f3]) (k := 4) rfl (fun _ _ _ h => k51_open h) HR6.out HGT.out).1 j u hu)) (by show 0 + 1 ≤ 4; omega) (k51_mkM _ _ _ (mvEl l0_1 R xe)) (fun k hk => ⟨trivial, hk⟩)
              rw [Int.toNat_natCast, set_step (mvEl l0_1 R) ex.f1 y xe HXE.out] at hseg
              obtain ⟨hr6, hg6⟩ := hseg
              have hr6' : Kd.R k51 51 (w7.setCell ⟨gr, y * 4, none⟩ (.int .i64 (moveP l0_1 R xe.f0))) w4.heap.size (fun _ => True) (.slice (some ⟨gr, 0, none⟩) ex.f1.length c6) ((ex.f1.take (y + 1)).map (mvEl l0_1 R) ++ ex.f1.drop (y + 1)) := hr6
              have hbw : Below w4.heap.size w4 (w7.setCell ⟨gr, y * 4, none⟩ (.int .i64 (moveP l0_1 R xe.f0))) := below_set (below_step HB5.out (below_step (below_drew (Below.refl _ _)) hb7)) hbg
              have hkq : (w7.setCell ⟨gr, y * 4, none⟩ (.int .i64 (moveP l0_1 R xe.f0))).heap[gq]? = some (.cells #[.slice A5 ex.f0.length c5, .slice (some ⟨gr, 0, none⟩) ex.f1.length c6] 49 (0, 0)) := blk_far ((hb7.block gq hgl).trans HKQ.out) hne _
              have hr5 : Kd.R (Kd.int .i64) 3 (w7.setCell ⟨gr, y * 4, none⟩ (.int .i64 (moveP l0_1 R xe.f0))) w4.heap.size (fun _ => True) (.slice A5 ex.f0.length c5) ex.f0 := by
                have ht := Kd.R_typed HR6.out gr rfl
                obtain ⟨cells, ht⟩ := ht
                exact Kd.R_set (Kd.R_below HR5.out (below_step (below_drew (Below.refl _ _)) hb7)) ((hb7.block gr (blk_lt ht)).trans ht) (by decide) _ _
              have HR6N := Aside0.mk hr6'
              have HBN := Aside0.mk hbw
              have HKQN := Aside0.mk hkq
              have HR5N := Aside0.mk hr5
              clear hr6 hg6 hr6' hbw hkq hr5 hz0 hz1 hcl HCT HFR hS hy0d
              generalize w7.setCell ⟨gr, y * 4, none⟩ (.int .i64 (moveP l0_1 R xe.f0)) = w8 at HR6N HBN HKQN HR5N ⊢
              go_wp2
              have hyb : ex.f1.length ≤ 1000000 := HESX.out.2
              go_roundg (ex.f1.length - (y + 1))
              case measure => have := HY.out; omega
              case rel => have hwr := wrap_up p0 (show (y : Int) < 9223372036854775807 by omega); exact ⟨y + 1, by rw [hwr]; rfl, ⟨rfl, Nat.succ_le_of_lt hyl⟩, HKQN, HR5N, HR6N, HBN⟩
            · have hye : y = ex.f1.length := by have := HY.out; omega
              have HR6F : Aside0 (Kd.R k51 51 wr w4.heap.size (fun _ => True) (.slice A6 ex.f1.length c6) (ex.f1.map (mvEl l0_1 R))) := ⟨by have h := HR6.out; rw [hye, List.take_length, List.drop_length, List.append_nil] at h; exact h⟩
              clear hye HR6
              have hx0 : wr.cell? ⟨gx, 0, none⟩ = some u := (blk_cell (blk_below HX4.out HB5.out) 0).trans rfl
              have hq0 : wr.cell? ⟨gq, 0, none⟩ = some (.slice A5 ex.f0.length c5) := (blk_cell HKQ.out 0).trans rfl
              have hq1 : wr.cell? ⟨gq, 1, none⟩ = some (.slice A6 ex.f1.length c6) := (blk_cell HKQ.out 1).trans rfl
              have hx0f : wr.frozen? ⟨gx, 0, none⟩ = false := blk_frozen (blk_below HX4.out HB5.out) 0
              have HSW := Aside0.mk (Kd.S_below HS4.out HB5.out)
              have HBW := Aside0.mk (below_step HBB4.out HB5.out)
              have HN := Aside0.mk hN
              have hlen : ((l0_0.take x).map (moveE l0_1 R)).length ≤ 1000000 := by have := HES.out.1; simp; omega
              have HR5' := Aside0.mk (Kd.R_lower (Kd.R_mono (ok' := fun k => gy ≤ k) (Kd.R_bound HR5.out) (fun k hk => Nat.le_trans HN.out hk.2.1)) HBB4.out.size)
              have HR6' := Aside0.mk (Kd.R_lower (Kd.R_mono (ok' := fun k => gy ≤ k) (Kd.R_bound HR6F.out) (fun k hk => Nat.le_trans HN.out hk.2.1)) HBB4.out.size)
              have HLEN := Aside0.mk hlen
              have HBLK : Aside0 (∀ g, g < wr.heap.size → g ≤ gx → some g ≠ u.ownBlock) := ⟨fun g _ hgx' e => by have := HU.out g e.symm; omega⟩
              clear hlen hN
              go_wp2_with (first
                | ((with_reducible refine gate_builtin (b := .append) (xs := #[.tmp 71, .tmp 73]) rfl ?_)
                   at_builtin
                   refine Kd.S_append k49 (w0 := w) w.heap.size rfl (.tmp 71) (.tmp 73) 22 49 (.agg #[(.slice none 0 0), (.slice none 0 0)]) 48 rfl Try.underlying22 info49 rfl (by decide) (by omega) u ((l0_0.take x).map (moveE l0_1 R)) (moveE l0_1 R ex) [.slice A5 ex.f0.length c5, .slice A6 ex.f1.length c6] (fun _ => True) (fun k => gy ≤ k) rfl rfl (k49_mkM _ _ _ (moveE l0_1 R ex) HR5'.out HR6'.out) (fun k hk => ⟨trivial, fun e => by have := HOWN.out k e.symm; omega⟩) (fun _ _ => trivial) (Kd.S_mono HSW.out (fun k hk => ⟨trivial, by have := hk.2; omega⟩)) HBW.out HBW.out.size (by have := HLEN.out; omega) ?_
                   intro v1 w7 ho hb hg hat
                   have hx7 : w7.heap[gx]? = some (.cells #[u, .slice A R.length c, .int .i64 a0_2, .int .i64 a0_3, .int .i64 a0_4] 25 (0, 0)) := (hg.block gx (blk_lt (blk_below HX4.out HB5.out)) (HBLK.out gx (blk_lt (blk_below HX4.out HB5.out)) (Nat.le_refl _))).trans (blk_below HX4.out HB5.out)
                   have hc7 : w7.cell? ⟨gx, 0, none⟩ = some u := (blk_cell hx7 0).trans rfl
                   have hf7 : w7.frozen? ⟨gx, 0, none⟩ = false := blk_frozen hx7 0
                   have hxs : (l0_0.take x).map (moveE l0_1 R) ++ [moveE l0_1 R ex] = (l0_0.take (x + 1)).map (moveE l0_1 R) := by rw [List.take_succ_eq_append_getElem HLT.out, List.map_append, ← HEX.out, rdT49 HLT.out]; rfl
                   rw [hxs] at ho
                   obtain ⟨L1, hL1⟩ : ∃ L1, (l0_0.take (x + 1)).map (moveE l0_1 R) = L1 := ⟨_, rfl⟩
                   rw [hL1] at ho
                   have HL1 := Aside0.mk hL1
                   clear hxs hL1
                   obtain ⟨Ao, co, eo⟩ := Kd.S_slice ho
                   subst eo
                   have HX7 := Aside0.mk hx7
                   have HO7 := Aside0.mk ho
                   have HB7 := Aside0.mk hb
                   have HG7 := Aside0.mk hg
                   have HAT := Aside0.mk hat
                   clear hx7 ho hb hg hat))
              have hxl := HLT.out
              have hxm := HES.out.1
              have hgl : gx < wr.heap.size := blk_lt (blk_below HX4.out HB5.out)
              have hlo := HLO.out
              have hOld : ∀ g, g < gx → (w7.setCell ⟨gx, 0, none⟩ (.slice Ao L1.length co)).heap[g]? = wr.heap[g]? := fun g hg => (Below.heap_setCell w7 _ _ g (by show g ≠ gx; omega)).trans (HG7.out.block g (by omega) (HBLK.out g (by omega) (by omega)))
              go_roundg (l0_0.length - (x + 1))
              case measure => have := HG.out; omega
              case rel =>
                have hwr := wrap_up (show 0 ≤ (x : Int) by omega) (show (x : Int) < 9223372036854775807 by omega)
                exact ⟨x + 1, .slice Ao L1.length co, by rw [hwr]; rfl, ⟨rfl, Nat.succ_le_of_lt hxl⟩, ⟨blk_put HX7.out 0 _ rfl⟩, ⟨by rw [HL1.out]; exact Kd.S_set HO7.out HX7.out (by decide) 0 _⟩, ⟨fun k hk => by
                  rcases HAT.out with h | ⟨b, h, hb⟩
                  · exact HU.out k (h ▸ hk)
                  · rw [h] at hk
                    injection hk with hk
                    omega⟩, ⟨Kd.R_set (Kd.R_over' (Kd.R_below HRR4.out HB5.out) (Kd.S_typed HSW.out) (by decide) HG7.out) HX7.out (by decide) 0 _⟩, ⟨MoverAt.kept (HMV4.out.below HB5.out) (hOld gO hlo.1) (hOld gK hlo.2.1) (hOld gM hlo.2.2.1) (Kd.C_below HR1.out (below_set HB7.out hgx))⟩, ⟨(hOld _ (by omega)).trans (blk_below HKK4.out HB5.out)⟩, ⟨(hOld _ hlo.2.2.2).trans (blk_below HTT4.out HB5.out)⟩, ⟨below_set HB7.out hgx⟩⟩
      · have hxe : x = l0_0.length := by have := HG.out; omega
        have HSF : Aside0 (Kd.S k49 49 wr w.heap.size (fun _ => True) u (l0_0.map (moveE l0_1 R))) := ⟨by have h := HS.out; rw [hxe, List.take_length] at h; exact h⟩
        obtain ⟨L1, hL1⟩ : ∃ L1, l0_0.map (moveE l0_1 R) = L1 := ⟨_, rfl⟩
        rw [hL1] at HSF
        have HL1 := Aside0.mk hL1
        clear hxe hL1 HS
        obtain ⟨Ao, co, eo⟩ := Kd.S_slice HSF.out
        subst eo
        have hx0 : wr.cell? ⟨gx, 0, none⟩ = some (.slice Ao L1.length co) := (blk_cell HX.out 0).trans rfl
        have hx1 : wr.cell? ⟨gx, 1, none⟩ = some (.slice A R.length c) := (blk_cell HX.out 1).trans rfl
        have hx2 : wr.cell? ⟨gx, 2, none⟩ = some (.int .i64 a0_2) := (blk_cell HX.out 2).trans rfl
        have hx3 : wr.cell? ⟨gx, 3, none⟩ = some (.int .i64 a0_3) := (blk_cell HX.out 3).trans rfl
        have hx4 : wr.cell? ⟨gx, 4, none⟩ = some (.int .i64 a0_4) := (blk_cell HX.out 4).trans rfl
        have hz0 : wr.cell? ⟨w.heap.size + 1, 0, none⟩ = some (.slice none 0 0) := (blk_cell HT.out 0).trans rfl
        have hz1 : wr.cell? ⟨w.heap.size + 1, 1, none⟩ = some (.slice none 0 0) := (blk_cell HT.out 1).trans rfl
        have hz2 : wr.cell? ⟨w.heap.size + 1, 2, none⟩ = some (.int .i64 0) := (blk_cell HT.out 2).trans rfl
        have hz3 : wr.cell? ⟨w.heap.size + 1, 3, none⟩ = some (.int .i64 0) := (blk_cell HT.out 3).trans rfl
        have hz4 : wr.cell? ⟨w.heap.size + 1, 4, none⟩ = some (.int .i64 0) := (blk_cell HT.out 4).trans rfl
        have hf0 := blk_frozen HT.out 0
        have hf1 := blk_frozen HT.out 1
        have hf2 := blk_frozen HT.out 2
        have hf3 := blk_frozen HT.out 3
        have hf4 := blk_frozen HT.out 4
        go_wp2
        refine bodyPost_ret (results_ct rfl _ _ (w.heap.size + 1) 25 #[.slice Ao L1.length co, .slice A R.length c, .int .i64 a0_2, .int .i64 a0_3, .int .i64 a0_4] (0, 0) _ rfl (put5 HT.out) Try.underlying25 rfl (by kernel_rfl)) rfl ?_
        exact ⟨_, _, rfl, by rw [HL1.out]; exact S_put5 HSF.out HT.out (by decide), R_put5 HRR.out HT.out (by decide), below_put5 HB.out (by omega)⟩
  · obtain ⟨rfl, rfl, rfl, rfl, rfl, rfl⟩ : [] = r1 ∧ [] = r2 ∧ 0 = r3 ∧ 0 = r4 ∧ 0 = r5 ∧ eo = r6 := by
      have h := H.out
      rw [if_neg he] at h
      simp only [Option.some.injEq, Prod.mk.injEq] at h
      obtain ⟨h1, h2, h3, h4, h5, h6⟩ := h
      exact ⟨h1, h2, h3, h4, h5, h6⟩
    have he2 : (eo != 0) = true := bne_iff_ne.2 he
    have hz0 : w1.cell? ⟨w.heap.size + 1, 0, none⟩ = some (.slice none 0 0) := (blk_cell HT1.out 0).trans rfl
    have hz1 : w1.cell? ⟨w.heap.size + 1, 1, none⟩ = some (.slice none 0 0) := (blk_cell HT1.out 1).trans rfl
    have hz2 : w1.cell? ⟨w.heap.size + 1, 2, none⟩ = some (.int .i64 0) := (blk_cell HT1.out 2).trans rfl
    have hz3 : w1.cell? ⟨w.heap.size + 1, 3, none⟩ = some (.int .i64 0) := (blk_cell HT1.out 3).trans rfl
    have hz4 : w1.cell? ⟨w.heap.size + 1, 4, none⟩ = some (.int .i64 0) := (blk_cell HT1.out 4).trans rfl
    have hf0 := blk_frozen HT1.out 0
    have hf1 := blk_frozen HT1.out 1
    have hf2 := blk_frozen HT1.out 2
    have hf3 := blk_frozen HT1.out 3
    have hf4 := blk_frozen HT1.out 4
    clear H he
    go_wp2
    refine bodyPost_ret (results_ct rfl _ _ (w.heap.size + 1) 25 #[.slice none 0 0, .slice none 0 0, .int .i64 0, .int .i64 0, .int .i64 0] (0, 0) _ rfl (put5 HT1.out) Try.underlying25 rfl (by kernel_rfl)) rfl ?_
    exact ⟨_, _, rfl, Kd.S_nil _ _ _ _ _, Kd.R_nil _ _ _ _ _, below_put5 HB1.out (by omega)⟩
end Go.Proofs.Ytfcpebjjcijgcaa.G
-- unicodetext/unicodetextref43.weight: printed by gprint.py
namespace Go.Proofs.Ytfcpebjjcijgcaa.G
open Go.RowKit Go.Proofs.YtfcpebjjcijgcaaW.PrintWords Go.Proofs.YtfcpebjjcijgcaaW.PrintLast Go.Proofs.YtfcpebjjcijgcaaW.PrintMore
attribute [local go_sem] max2_int min2_int max_two min_two max_three min_three max_four min_four   -- for this text's walks alone
set_option linter.unusedVariables false
set_option linter.unusedSimpArgs false
/-! ### unicodetextref43_weight: function 39 -/
def unicodetextref43_weight.f (a0 : Int) : Option (Bool) := if a0 ≥ 1 then (some (decide (a0 ≤ 65535))) else (some false)
set_option maxHeartbeats 8000000 in
set_option maxRecDepth 100000 in
theorem unicodetextref43_weight.calls (a0 : Int) (r : Bool) (w : World) (h : unicodetextref43_weight.f a0 = some r) :
    Calls Try.prog 39 #[.int .i64 a0] w fun e w' => e = .returned (.bool r) ∧ Drawn0 w w' := by
  have H : (if a0 ≥ 1 then (some (decide (a0 ≤ 65535))) else (some false)) = some r := h
  clear h
  by_cases c2 : a0 ≥ 1
  · rw [if_pos c2] at H
    have c2b0 : decide (1 ≤ a0) = true := decide_eq_true c2
    clear c2
    obtain rfl := Option.some.inj H
    go_enter Try.func39, Try.ntmps39
    go_wp2
    go_ret
    exact ⟨by first | rfl | (simp; done) | (simp [*]; done), by repeat (first | exact Drawn0.refl _ | apply Drawn0.step)⟩
  · rw [if_neg c2] at H
    have c2b0 : decide (1 ≤ a0) = false := decide_eq_false c2
    clear c2
    obtain rfl := Option.some.inj H
    go_enter Try.func39, Try.ntmps39
    go_wp2
    go_ret
    exact ⟨by first | rfl | (simp; done) | (simp [*]; done), by repeat (first | exact Drawn0.refl _ | apply Drawn0.step)⟩
end Go.Proofs.Ytfcpebjjcijgcaa.G
-- unicodetext/unicodetextref01.Valid: printed by gprint.py
namespace Go.Proofs.Ytfcpebjjcijgcaa.G
open Go.RowKit Go.Proofs.YtfcpebjjcijgcaaW.PrintWords Go.Proofs.YtfcpebjjcijgcaaW.PrintLast Go.Proofs.YtfcpebjjcijgcaaW.PrintMore
attribute [local go_sem] max2_int min2_int max_two min_two max_three min_three max_four min_four   -- for this text's walks alone
set_option linter.unusedVariables false
set_option linter.unusedSimpArgs false
/-! ### unicodetextref01_Valid: function 54 -/
def unicodetextref01_Valid.f (a0 : Int) : Option (Bool) := if a0 ≥ 0 then (some (decide (a0 ≤ 1114111))) else (some false)
set_option maxHeartbeats 8000000 in
set_option maxRecDepth 100000 in
theorem unicodetextref01_Valid.calls (a0 : Int) (r : Bool) (w : World) (h : unicodetextref01_Valid.f a0 = some r) :
    Calls Try.prog 54 #[.int .i64 a0] w fun e w' => e = .returned (.bool r) ∧ Drawn0 w w' := by
  have H : (if a0 ≥ 0 then (some (decide (a0 ≤ 1114111))) else (some false)) = some r := h
  clear h
  by_cases c2 : a0 ≥ 0
  · rw [if_pos c2] at H
    have c2b0 : decide (0 ≤ a0) = true := decide_eq_true c2
    clear c2
    obtain rfl := Option.some.inj H
    go_enter Try.func54, Try.ntmps54
    go_wp2
    go_ret
    exact ⟨by first | rfl | (simp; done) | (simp [*]; done), by repeat (first | exact Drawn0.refl _ | apply Drawn0.step)⟩
  · rw [if_neg c2] at H
    have c2b0 : decide (0 ≤ a0) = false := decide_eq_false c2
    clear c2
    obtain rfl := Option.some.inj H
    go_enter Try.func54, Try.ntmps54
    go_wp2
    go_ret
    exact ⟨by first | rfl | (simp; done) | (simp [*]; done), by repeat (first | exact Drawn0.refl _ | apply Drawn0.step)⟩
end Go.Proofs.Ytfcpebjjcijgcaa.G
