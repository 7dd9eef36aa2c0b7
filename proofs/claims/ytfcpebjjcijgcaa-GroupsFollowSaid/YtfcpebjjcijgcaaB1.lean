/- Contracts of Go functions, printed by a program of mine over the kit's printer or proved by hand, and plain laws: what the groups' laws lean on. -/
import Derived.Outline
import Derived.Test.YtfcpebjjcijgcaaB0
-- unicodetext/element.Check: printed by gprint.py
namespace Go.Proofs.Ytfcpebjjcijgcaa.G
open Go.RowKit Go.Proofs.YtfcpebjjcijgcaaW.PrintWords Go.Proofs.YtfcpebjjcijgcaaW.PrintLast Go.Proofs.YtfcpebjjcijgcaaW.PrintMore
attribute [local go_sem] max2_int min2_int max_two min_two max_three min_three max_four min_four   -- for this text's walks alone
set_option linter.unusedVariables false
set_option linter.unusedSimpArgs false

/-! ### element_Check: function 47 -/
def element_Check.j0 : Nat → Bool → Int → Int → Int → Bool → Option (Int)
  | 0, _, _, _, _, _ => none
  | k + 1, x20, x102000, x102001, x102002, x102003 => if x20 = true then (some 1) else (if x102000 = 0 then (if (mn (wrap64 (x102000 + x102001)) 1) > x102002 then (some 11) else (if x102003 = true then (some 11) else (some 0))) else (if x102001 = 0 then (some 11) else (if (mn (wrap64 (x102000 + x102001)) 1) > x102002 then (some 11) else (if x102003 = true then (some 0) else (some 0)))))
def element_Check.f (k : Nat) (a0_0 : Int) (a0_1 : Int) (a0_2 : Int) (a0_3 : Bool) : Option (Int) := if (mn (mn a0_0 a0_1) a0_2) < 0 then (element_Check.j0 k true a0_0 a0_1 a0_2 a0_3) else (element_Check.j0 k (decide ((mx (mx a0_0 a0_1) a0_2) > 65535)) a0_0 a0_1 a0_2 a0_3)
theorem element_Check.mono_l : ∀ k, (∀ y0 y1 y2 y3 y4, LeO (element_Check.j0 k y0 y1 y2 y3 y4) (element_Check.j0 (k + 1) y0 y1 y2 y3 y4))
  | 0 => fun _ _ _ _ _ r h => by simp [element_Check.j0] at h
  | k + 1 => by
    have ih0 := element_Check.mono_l k
    · intro y0 y1 y2 y3 y4
      unfold element_Check.j0
      repeat' first
      | (with_reducible exact ih0 _ _ _ _ _)
      | (with_reducible exact LeO.refl _)
      | (with_reducible exact LeO.none _)
      | (with_reducible refine LeO.ite ?_ ?_)
      | (with_reducible refine LeO.bind ?_ (fun _ => ?_))
      | exact ih0 _ _ _ _ _
      | exact LeO.none _
      | refine LeO.ite ?_ ?_
      | refine LeO.bind ?_ (fun _ => ?_)
theorem element_Check.mono : ∀ a0 a1 a2 a3 k, LeO (element_Check.f k a0 a1 a2 a3) (element_Check.f (k + 1) a0 a1 a2 a3) := by
  intro a0 a1 a2 a3 k
  have ih0 := element_Check.mono_l k
  unfold element_Check.f
  repeat' first
      | (with_reducible exact ih0 _ _ _ _ _)
      | (with_reducible exact LeO.refl _)
      | (with_reducible exact LeO.none _)
      | (with_reducible refine LeO.ite ?_ ?_)
      | (with_reducible refine LeO.bind ?_ (fun _ => ?_))
      | exact ih0 _ _ _ _ _
      | exact LeO.none _
      | refine LeO.ite ?_ ?_
      | refine LeO.bind ?_ (fun _ => ?_)
set_option maxHeartbeats 8000000 in
set_option maxRecDepth 100000 in
theorem element_Check.calls (k : Nat) (a0_0 : Int) (a0_1 : Int) (a0_2 : Int) (a0_3 : Bool) (r : Int) (w : World) (h : element_Check.f k a0_0 a0_1 a0_2 a0_3 = some r) :
    Calls Try.prog 47 #[.agg #[.int .i64 a0_0, .int .i64 a0_1, .int .i64 a0_2, .bool a0_3]] w fun e w' => e = .returned (.int .i64 r) ∧ Below w.heap.size w w' := by
  have hu51 := Try.underlying51
  have HB := Aside0.mk (Below.refl w.heap.size w)
  have H : (if (mn (mn a0_0 a0_1) a0_2) < 0 then (element_Check.j0 k true a0_0 a0_1 a0_2 a0_3) else (element_Check.j0 k (decide ((mx (mx a0_0 a0_1) a0_2) > 65535)) a0_0 a0_1 a0_2 a0_3)) = some r := h
  clear h
  have HC2 := Aside0.mk H
  clear H
  go_enter Try.func47, Try.ntmps47
  go_upto_region 1 with (first | ((with_reducible refine gate_dst (N := 1) rfl ?_); (try (refine gate_guard (by rfl) ?_; dsimp only)); refine box_event ?hg (N := 1) ?hd (cs := #[.int .i64 a0_0, .int .i64 a0_1, .int .i64 a0_2, .bool a0_3]) (t := 51) ?hr ?_; (case hd => rfl); (case hg => rfl); (case hr => first | (go_simp; done) | (go_simp; rfl)); intro gb101 hg w3 hbox hb; have n0_ := Aside0.mk (below_step (by repeat (first | (with_reducible first | exact HB.out | apply below_alloc | apply pw_below_drewN | apply below_drew1) | exact HB.out)) hb); have n1_ := Aside0.mk (hbox); have n2_ := Aside0.mk ((by rw [hg]; exact (below_size (by repeat (first | (with_reducible first | exact HB.out | apply below_alloc | apply pw_below_drewN | apply below_drew1) | exact HB.out))) : w.heap.size ≤ gb101)); have n3_ := Aside0.mk ((by rw [hg]; exact (below_size (by repeat (first | (with_reducible first | exact HB.out | apply below_alloc | apply pw_below_drewN | apply below_drew1) | exact HB.out))) : w.heap.size ≤ gb101)); clear HB; have HB := n0_; have BK101 := n1_; have GW101 := n2_; have GE101 := n3_; clear n0_ n1_ n2_ n3_; clear hb hbox hg))
  (try simp only [Act.put, List.setIfInBounds_toArray, List.set_cons_zero, List.set_cons_succ])
  go_cut [20] (fun v20 wc => ∃ (kq : Nat) (x20_1 : Bool), v20 = .bool x20_1 ∧ Aside0 (element_Check.j0 kq x20_1 a0_0 a0_1 a0_2 a0_3 = some r) ∧ Aside0 (kq ≤ k) ∧ Aside0 (wc.heap[gb101]? = some (.cells #[.int .i64 a0_0, .int .i64 a0_1, .int .i64 a0_2, .bool a0_3] 51 (0, 0))) ∧ Aside0 (Below w.heap.size w wc))
  case first =>
    have H := HC2.out
    clear HC2
    obtain ⟨ji4, hji4⟩ : ∃ j_ : Int, (mn a0_0 a0_1) = j_ := ⟨_, rfl⟩
    replace H : (if (mn (ji4) a0_2) < 0 then (element_Check.j0 k true a0_0 a0_1 a0_2 a0_3) else (element_Check.j0 k (decide ((mx (mx a0_0 a0_1) a0_2) > 65535)) a0_0 a0_1 a0_2 a0_3)) = some r := by first | (rw [hji4] at H; exact H) | (simp only [hji4] at H ⊢; exact H)
    have hji4_ : (if a0_1 < a0_0 then a0_1 else a0_0) = ji4 := hji4
    obtain ⟨ji5, hji5⟩ : ∃ j_ : Int, (mn (ji4) a0_2) = j_ := ⟨_, rfl⟩
    replace H : (if (ji5) < 0 then (element_Check.j0 k true a0_0 a0_1 a0_2 a0_3) else (element_Check.j0 k (decide ((mx (mx a0_0 a0_1) a0_2) > 65535)) a0_0 a0_1 a0_2 a0_3)) = some r := by first | (rw [hji5] at H; exact H) | (simp only [hji5] at H ⊢; exact H)
    have hji5_ : (if a0_2 < (ji4) then a0_2 else (ji4)) = ji5 := hji5
    by_cases c6 : (ji5) < 0
    · rw [if_pos c6] at H
      have c6b0 : decide ((ji5) < 0) = true := decide_eq_true c6
      clear c6
      (first | rw [c6b0] | (simp only [i64_w, i32_w]; rw [c6b0]) | skip)
      have H' := Aside0.mk H
      clear H
      have hcz7_0 : w3.cell? ⟨gb101, 0, none⟩ = some (.int .i64 a0_0) := (blk_cell BK101.out 0).trans rfl
      have hcz7_1 : w3.cell? ⟨gb101, 1, none⟩ = some (.int .i64 a0_1) := (blk_cell BK101.out 1).trans rfl
      have hcz7_2 : w3.cell? ⟨gb101, 2, none⟩ = some (.int .i64 a0_2) := (blk_cell BK101.out 2).trans rfl
      have hcz7_3 : w3.cell? ⟨gb101, 3, none⟩ = some (.bool a0_3) := (blk_cell BK101.out 3).trans rfl
      have hfz7_0 := blk_frozen BK101.out 0
      have hfz7_1 := blk_frozen BK101.out 1
      have hfz7_2 := blk_frozen BK101.out 2
      have hfz7_3 := blk_frozen BK101.out 3
      go_wp2
      go_meet
      case rel => exact ⟨_, (true), (by first | rfl | (simp; done) | (simp [*]; done)), H', ⟨by first | omega | exact Nat.le_refl _⟩, ⟨by (with_reducible repeat (first | refine blk_drewN ?_ _ | refine blk_drew ?_ | refine blk_alloc ?_ _)); exact BK101.out⟩, ⟨by repeat (first | (with_reducible first | exact HB.out | apply below_alloc | apply pw_below_drewN | apply below_drew1 | refine below_set ?_ GE101.out) | exact HB.out)⟩⟩
    · rw [if_neg c6] at H
      have c6b0 : decide ((ji5) < 0) = false := decide_eq_false c6
      clear c6
      (first | rw [c6b0] | (simp only [i64_w, i32_w]; rw [c6b0]) | skip)
      obtain ⟨ji8, hji8⟩ : ∃ j_ : Int, (mx a0_0 a0_1) = j_ := ⟨_, rfl⟩
      replace H : (element_Check.j0 k (decide ((mx (ji8) a0_2) > 65535)) a0_0 a0_1 a0_2 a0_3) = some r := by first | (rw [hji8] at H; exact H) | (simp only [hji8] at H ⊢; exact H)
      have hji8_ : (if a0_0 < a0_1 then a0_1 else a0_0) = ji8 := hji8
      obtain ⟨ji9, hji9⟩ : ∃ j_ : Int, (mx (ji8) a0_2) = j_ := ⟨_, rfl⟩
      replace H : (element_Check.j0 k (decide ((ji9) > 65535)) a0_0 a0_1 a0_2 a0_3) = some r := by first | (rw [hji9] at H; exact H) | (simp only [hji9] at H ⊢; exact H)
      have hji9_ : (if (ji8) < a0_2 then a0_2 else (ji8)) = ji9 := hji9
      have H' := Aside0.mk H
      clear H
      have hcz10_0 : w3.cell? ⟨gb101, 0, none⟩ = some (.int .i64 a0_0) := (blk_cell BK101.out 0).trans rfl
      have hcz10_1 : w3.cell? ⟨gb101, 1, none⟩ = some (.int .i64 a0_1) := (blk_cell BK101.out 1).trans rfl
      have hcz10_2 : w3.cell? ⟨gb101, 2, none⟩ = some (.int .i64 a0_2) := (blk_cell BK101.out 2).trans rfl
      have hcz10_3 : w3.cell? ⟨gb101, 3, none⟩ = some (.bool a0_3) := (blk_cell BK101.out 3).trans rfl
      have hfz10_0 := blk_frozen BK101.out 0
      have hfz10_1 := blk_frozen BK101.out 1
      have hfz10_2 := blk_frozen BK101.out 2
      have hfz10_3 := blk_frozen BK101.out 3
      go_wp2
      go_meet
      case rel => exact ⟨_, (decide ((ji9) > 65535)), (by first | rfl | (simp; done) | (simp only [← hji9] <;> (first | rfl | simp)) | (simp [*]; done)), H', ⟨by first | omega | exact Nat.le_refl _⟩, ⟨by (with_reducible repeat (first | refine blk_drewN ?_ _ | refine blk_drew ?_ | refine blk_alloc ?_ _)); exact BK101.out⟩, ⟨by repeat (first | (with_reducible first | exact HB.out | apply below_alloc | apply pw_below_drewN | apply below_drew1 | refine below_set ?_ GE101.out) | exact HB.out)⟩⟩
  case rest =>
    clear HC2
    try clear p2
    try clear c4
    try clear c6
    try clear c6b0
    try clear hcz10_0
    try clear hcz10_1
    try clear hcz10_2
    try clear hcz10_3
    try clear hcz7_0
    try clear hcz7_1
    try clear hcz7_2
    try clear hcz7_3
    try clear hfz10_0
    try clear hfz10_1
    try clear hfz10_2
    try clear hfz10_3
    try clear hfz7_0
    try clear hfz7_1
    try clear hfz7_2
    try clear hfz7_3
    obtain ⟨kq, x20_1, rfl, HA, HJ1, BK101, HB⟩ := hcut
    cases kq with
    | zero => exact absurd HA.out (by simp [element_Check.j0])
    | succ kj1 =>
      have H := HA.out
      clear HA
      simp only [element_Check.j0] at H
      by_cases c11 : x20_1 = true
      · subst c11
        have H1 : (some 1) = some r := by rw [if_pos rfl] at H; exact H
        clear H
        have H := H1
        clear H1
        obtain rfl := Option.some.inj H
        go_wp2
        go_ret
        exact ⟨by first | rfl | (simp [errW_none, errW_some] <;> rfl) | (simp [*, errW_none, errW_some] <;> rfl), by repeat (first | (with_reducible first | exact HB.out | apply below_alloc | apply pw_below_drewN | apply below_drew1 | refine below_set ?_ GE101.out) | exact HB.out)⟩
      · replace c11 := Bool.eq_false_iff.mpr c11
        subst c11
        have H1 : (if a0_0 = 0 then (if (mn (wrap64 (a0_0 + a0_1)) 1) > a0_2 then (some 11) else (if a0_3 = true then (some 11) else (some 0))) else (if a0_1 = 0 then (some 11) else (if (mn (wrap64 (a0_0 + a0_1)) 1) > a0_2 then (some 11) else (if a0_3 = true then (some 0) else (some 0))))) = some r := by rw [if_neg (show ¬ (false = true) by decide)] at H; exact H
        clear H
        have H := H1
        clear H1
        by_cases c12 : a0_0 = 0
        · rw [if_pos c12] at H
          have c12b0 : (a0_0 == 0) = true := beq_iff_eq.mpr c12
          have c12b1 : (a0_0 != 0) = false := bne_eq_false_iff_eq.mpr c12
          clear c12
          obtain ⟨ji13, hji13⟩ : ∃ j_ : Int, (mn (wrap64 (a0_0 + a0_1)) 1) = j_ := ⟨_, rfl⟩
          replace H : (if (ji13) > a0_2 then (some 11) else (if a0_3 = true then (some 11) else (some 0))) = some r := by first | (rw [hji13] at H; exact H) | (simp only [hji13] at H ⊢; exact H)
          have hji13_ : (if 1 < (wrap64 (a0_0 + a0_1)) then 1 else (wrap64 (a0_0 + a0_1))) = ji13 := hji13
          by_cases c14 : (ji13) > a0_2
          · rw [if_pos c14] at H
            have c14b0 : decide (a0_2 < (ji13)) = true := decide_eq_true c14
            clear c14
            obtain rfl := Option.some.inj H
            have hcz15_0 : wc.cell? ⟨gb101, 0, none⟩ = some (.int .i64 a0_0) := (blk_cell BK101.out 0).trans rfl
            have hcz15_1 : wc.cell? ⟨gb101, 1, none⟩ = some (.int .i64 a0_1) := (blk_cell BK101.out 1).trans rfl
            have hcz15_2 : wc.cell? ⟨gb101, 2, none⟩ = some (.int .i64 a0_2) := (blk_cell BK101.out 2).trans rfl
            have hcz15_3 : wc.cell? ⟨gb101, 3, none⟩ = some (.bool a0_3) := (blk_cell BK101.out 3).trans rfl
            have hfz15_0 := blk_frozen BK101.out 0
            have hfz15_1 := blk_frozen BK101.out 1
            have hfz15_2 := blk_frozen BK101.out 2
            have hfz15_3 := blk_frozen BK101.out 3
            go_wp2
            go_ret
            exact ⟨by first | rfl | (simp [errW_none, errW_some] <;> rfl) | (simp only [← hji13]; first | rfl | (simp [errW_none, errW_some] <;> rfl)) | (simp [*, errW_none, errW_some] <;> rfl), by repeat (first | (with_reducible first | exact HB.out | apply below_alloc | apply pw_below_drewN | apply below_drew1 | refine below_set ?_ GE101.out) | exact HB.out)⟩
          · rw [if_neg c14] at H
            have c14b0 : decide (a0_2 < (ji13)) = false := decide_eq_false c14
            clear c14
            by_cases c16 : a0_3 = true
            · subst c16
              have H1 : (some 11) = some r := by rw [if_pos rfl] at H; exact H
              clear H
              have H := H1
              clear H1
              obtain rfl := Option.some.inj H
              have hcz17_0 : wc.cell? ⟨gb101, 0, none⟩ = some (.int .i64 a0_0) := (blk_cell BK101.out 0).trans rfl
              have hcz17_1 : wc.cell? ⟨gb101, 1, none⟩ = some (.int .i64 a0_1) := (blk_cell BK101.out 1).trans rfl
              have hcz17_2 : wc.cell? ⟨gb101, 2, none⟩ = some (.int .i64 a0_2) := (blk_cell BK101.out 2).trans rfl
              have hcz17_3 : wc.cell? ⟨gb101, 3, none⟩ = some (.bool true) := (blk_cell BK101.out 3).trans rfl
              have hfz17_0 := blk_frozen BK101.out 0
              have hfz17_1 := blk_frozen BK101.out 1
              have hfz17_2 := blk_frozen BK101.out 2
              have hfz17_3 := blk_frozen BK101.out 3
              go_wp2
              go_ret
              exact ⟨by first | rfl | (simp [errW_none, errW_some] <;> rfl) | (simp only [← hji13]; first | rfl | (simp [errW_none, errW_some] <;> rfl)) | (simp [*, errW_none, errW_some] <;> rfl), by repeat (first | (with_reducible first | exact HB.out | apply below_alloc | apply pw_below_drewN | apply below_drew1 | refine below_set ?_ GE101.out) | exact HB.out)⟩
            · replace c16 := Bool.eq_false_iff.mpr c16
              subst c16
              have H1 : (some 0) = some r := by rw [if_neg (show ¬ (false = true) by decide)] at H; exact H
              clear H
              have H := H1
              clear H1
              obtain rfl := Option.some.inj H
              have hcz18_0 : wc.cell? ⟨gb101, 0, none⟩ = some (.int .i64 a0_0) := (blk_cell BK101.out 0).trans rfl
              have hcz18_1 : wc.cell? ⟨gb101, 1, none⟩ = some (.int .i64 a0_1) := (blk_cell BK101.out 1).trans rfl
              have hcz18_2 : wc.cell? ⟨gb101, 2, none⟩ = some (.int .i64 a0_2) := (blk_cell BK101.out 2).trans rfl
              have hcz18_3 : wc.cell? ⟨gb101, 3, none⟩ = some (.bool false) := (blk_cell BK101.out 3).trans rfl
              have hfz18_0 := blk_frozen BK101.out 0
              have hfz18_1 := blk_frozen BK101.out 1
              have hfz18_2 := blk_frozen BK101.out 2
              have hfz18_3 := blk_frozen BK101.out 3
              go_wp2
              go_ret
              exact ⟨by first | rfl | (simp [errW_none, errW_some] <;> rfl) | (simp only [← hji13]; first | rfl | (simp [errW_none, errW_some] <;> rfl)) | (simp [*, errW_none, errW_some] <;> rfl), by repeat (first | (with_reducible first | exact HB.out | apply below_alloc | apply pw_below_drewN | apply below_drew1 | refine below_set ?_ GE101.out) | exact HB.out)⟩
        · rw [if_neg c12] at H
          have c12b0 : (a0_0 == 0) = false := beq_eq_false_iff_ne.mpr c12
          have c12b1 : (a0_0 != 0) = true := bne_iff_ne.mpr c12
          by_cases c19 : a0_1 = 0
          · rw [if_pos c19] at H
            have c19b0 : (a0_1 == 0) = true := beq_iff_eq.mpr c19
            have c19b1 : (a0_1 != 0) = false := bne_eq_false_iff_eq.mpr c19
            clear c19
            obtain rfl := Option.some.inj H
            have hcz20_0 : wc.cell? ⟨gb101, 0, none⟩ = some (.int .i64 a0_0) := (blk_cell BK101.out 0).trans rfl
            have hcz20_1 : wc.cell? ⟨gb101, 1, none⟩ = some (.int .i64 a0_1) := (blk_cell BK101.out 1).trans rfl
            have hcz20_2 : wc.cell? ⟨gb101, 2, none⟩ = some (.int .i64 a0_2) := (blk_cell BK101.out 2).trans rfl
            have hcz20_3 : wc.cell? ⟨gb101, 3, none⟩ = some (.bool a0_3) := (blk_cell BK101.out 3).trans rfl
            have hfz20_0 := blk_frozen BK101.out 0
            have hfz20_1 := blk_frozen BK101.out 1
            have hfz20_2 := blk_frozen BK101.out 2
            have hfz20_3 := blk_frozen BK101.out 3
            go_wp2
            go_ret
            exact ⟨by first | rfl | (simp [errW_none, errW_some] <;> rfl) | (simp [*, errW_none, errW_some] <;> rfl), by repeat (first | (with_reducible first | exact HB.out | apply below_alloc | apply pw_below_drewN | apply below_drew1 | refine below_set ?_ GE101.out) | exact HB.out)⟩
          · rw [if_neg c19] at H
            have c19b0 : (a0_1 == 0) = false := beq_eq_false_iff_ne.mpr c19
            have c19b1 : (a0_1 != 0) = true := bne_iff_ne.mpr c19
            obtain ⟨ji21, hji21⟩ : ∃ j_ : Int, (mn (wrap64 (a0_0 + a0_1)) 1) = j_ := ⟨_, rfl⟩
            replace H : (if (ji21) > a0_2 then (some 11) else (if a0_3 = true then (some 0) else (some 0))) = some r := by first | (rw [hji21] at H; exact H) | (simp only [hji21] at H ⊢; exact H)
            have hji21_ : (if 1 < (wrap64 (a0_0 + a0_1)) then 1 else (wrap64 (a0_0 + a0_1))) = ji21 := hji21
            by_cases c22 : (ji21) > a0_2
            · rw [if_pos c22] at H
              have c22b0 : decide (a0_2 < (ji21)) = true := decide_eq_true c22
              clear c22
              obtain rfl := Option.some.inj H
              have hcz23_0 : wc.cell? ⟨gb101, 0, none⟩ = some (.int .i64 a0_0) := (blk_cell BK101.out 0).trans rfl
              have hcz23_1 : wc.cell? ⟨gb101, 1, none⟩ = some (.int .i64 a0_1) := (blk_cell BK101.out 1).trans rfl
              have hcz23_2 : wc.cell? ⟨gb101, 2, none⟩ = some (.int .i64 a0_2) := (blk_cell BK101.out 2).trans rfl
              have hcz23_3 : wc.cell? ⟨gb101, 3, none⟩ = some (.bool a0_3) := (blk_cell BK101.out 3).trans rfl
              have hfz23_0 := blk_frozen BK101.out 0
              have hfz23_1 := blk_frozen BK101.out 1
              have hfz23_2 := blk_frozen BK101.out 2
              have hfz23_3 := blk_frozen BK101.out 3
              go_wp2
              go_ret
              exact ⟨by first | rfl | (simp [errW_none, errW_some] <;> rfl) | (simp only [← hji21]; first | rfl | (simp [errW_none, errW_some] <;> rfl)) | (simp [*, errW_none, errW_some] <;> rfl), by repeat (first | (with_reducible first | exact HB.out | apply below_alloc | apply pw_below_drewN | apply below_drew1 | refine below_set ?_ GE101.out) | exact HB.out)⟩
            · rw [if_neg c22] at H
              have c22b0 : decide (a0_2 < (ji21)) = false := decide_eq_false c22
              clear c22
              by_cases c24 : a0_3 = true
              · subst c24
                have H1 : (some 0) = some r := by rw [if_pos rfl] at H; exact H
                clear H
                have H := H1
                clear H1
                obtain rfl := Option.some.inj H
                have hcz25_0 : wc.cell? ⟨gb101, 0, none⟩ = some (.int .i64 a0_0) := (blk_cell BK101.out 0).trans rfl
                have hcz25_1 : wc.cell? ⟨gb101, 1, none⟩ = some (.int .i64 a0_1) := (blk_cell BK101.out 1).trans rfl
                have hcz25_2 : wc.cell? ⟨gb101, 2, none⟩ = some (.int .i64 a0_2) := (blk_cell BK101.out 2).trans rfl
                have hcz25_3 : wc.cell? ⟨gb101, 3, none⟩ = some (.bool true) := (blk_cell BK101.out 3).trans rfl
                have hfz25_0 := blk_frozen BK101.out 0
                have hfz25_1 := blk_frozen BK101.out 1
                have hfz25_2 := blk_frozen BK101.out 2
                have hfz25_3 := blk_frozen BK101.out 3
                go_wp2
                go_ret
                exact ⟨by first | rfl | (simp [errW_none, errW_some] <;> rfl) | (simp only [← hji21]; first | rfl | (simp [errW_none, errW_some] <;> rfl)) | (simp [*, errW_none, errW_some] <;> rfl), by repeat (first | (with_reducible first | exact HB.out | apply below_alloc | apply pw_below_drewN | apply below_drew1 | refine below_set ?_ GE101.out) | exact HB.out)⟩
              · replace c24 := Bool.eq_false_iff.mpr c24
                subst c24
                have H1 : (some 0) = some r := by rw [if_neg (show ¬ (false = true) by decide)] at H; exact H
                clear H
                have H := H1
                clear H1
                obtain rfl := Option.some.inj H
                have hcz26_0 : wc.cell? ⟨gb101, 0, none⟩ = some (.int .i64 a0_0) := (blk_cell BK101.out 0).trans rfl
                have hcz26_1 : wc.cell? ⟨gb101, 1, none⟩ = some (.int .i64 a0_1) := (blk_cell BK101.out 1).trans rfl
                have hcz26_2 : wc.cell? ⟨gb101, 2, none⟩ = some (.int .i64 a0_2) := (blk_cell BK101.out 2).trans rfl
                have hcz26_3 : wc.cell? ⟨gb101, 3, none⟩ = some (.bool false) := (blk_cell BK101.out 3).trans rfl
                have hfz26_0 := blk_frozen BK101.out 0
                have hfz26_1 := blk_frozen BK101.out 1
                have hfz26_2 := blk_frozen BK101.out 2
                have hfz26_3 := blk_frozen BK101.out 3
                go_wp2
                go_ret
                exact ⟨by first | rfl | (simp [errW_none, errW_some] <;> rfl) | (simp only [← hji21]; first | rfl | (simp [errW_none, errW_some] <;> rfl)) | (simp [*, errW_none, errW_some] <;> rfl), by repeat (first | (with_reducible first | exact HB.out | apply below_alloc | apply pw_below_drewN | apply below_drew1 | refine below_set ?_ GE101.out) | exact HB.out)⟩

end Go.Proofs.Ytfcpebjjcijgcaa.G
-- slices.IndexFunc[[]unicodetext/api.Element,unicodetext/api.Element]: by hand
namespace Go.Proofs.Ytfcpebjjcijgcaa.G
open Go.RowKit Go.Proofs.YtfcpebjjcijgcaaW.PrintWords Go.Proofs.YtfcpebjjcijgcaaW.PrintLast Go.Proofs.YtfcpebjjcijgcaaW.PrintMore
attribute [local go_sem] max2_int min2_int max_two min_two max_three min_three max_four min_four   -- for this text's walks alone
set_option linter.unusedVariables false
set_option linter.unusedSimpArgs false

set_option maxHeartbeats 400000 in
theorem api_Element_58.calls (p : S51 → Bool) (g : Nat) (lb : Array Value) (eg : ∀ args w, (callFunc g args).run Try.prog w = .ok (.enter g args) w) (A0 : Option Addr) (c0 : Nat) (l0 : List S51) (w : World) (hr0 : Kd.C k51 w A0 l0.length l0) (hp : PredK Try.prog k51 (fun cs => .agg cs.toArray) g lb p l0 w) :
    Calls Try.prog 58 #[.slice A0 l0.length c0, .func (.func g) #[] lb] w fun e w' => e = .returned (.int .i64 (idxP p l0)) ∧ Below w.heap.size w w' := by
  have HR := Aside0.mk hr0
  have HP := Aside0.mk hp
  have hlen : l0.length ≤ 9223372036854775807 := hr0.2.1
  clear hr0 hp
  go_enter Try.func58, Try.ntmps58
  go_wp2
  go_loopg [5, 8] l0.length (fun gg _ s8 wr => ∃ k : Nat, k ≤ l0.length ∧ l0.length - k ≤ gg ∧ s8 = .int .i64 k ∧ Aside0 (Below w.heap.size w wr) ∧ Aside0 (∀ j (hj : j < l0.length), j < k → p l0[j] = false))
  case atStart => exact ⟨0, Nat.zero_le _, by omega, rfl, ⟨Below.refl _ w⟩, ⟨fun j _ hj => absurd hj (Nat.not_lt_zero _)⟩⟩
  case round =>
    obtain ⟨k, hk, hg, rfl, BW, HA⟩ := hrel
    by_cases hlt : k < l0.length
    · have hltz : (k : Int) < (l0.length : Int) := by omega
      obtain ⟨ad, c, e, hcl, hK, hcells⟩ := Kd.row_at HR.out hlt
      cases e
      have hcall := HP.out l0[k] (List.getElem_mem hlt) wr c BW.out (Kd.K_below _ BW.out hK)
      obtain ⟨x, hx⟩ : ∃ x, l0[k] = x := ⟨_, rfl⟩
      rw [hx] at hK hcall
      have HX := Aside0.mk hx
      clear hx
      obtain rfl := k51_open hK
      have hx_0 : wr.cell? (ad.add (k * 4)) = some (.int .i64 x.f0) := pw_cell_below BW.out (hcells 0 _ rfl)
      have hx_1 : wr.cell? ⟨(ad.add (k * 4)).block, (ad.add (k * 4)).off + 1, none⟩ = some (.int .i64 x.f1) := by rw [← add_field _ _ 1 (by omega)]; exact pw_cell_below BW.out (hcells 1 _ rfl)
      have hx_2 : wr.cell? ⟨(ad.add (k * 4)).block, (ad.add (k * 4)).off + 2, none⟩ = some (.int .i64 x.f2) := by rw [← add_field _ _ 2 (by omega)]; exact pw_cell_below BW.out (hcells 2 _ rfl)
      have hx_3 : wr.cell? ⟨(ad.add (k * 4)).block, (ad.add (k * 4)).off + 3, none⟩ = some (.bool x.f3) := by rw [← add_field _ _ 3 (by omega)]; exact pw_cell_below BW.out (hcells 3 _ rfl)
      obtain ⟨b, hb⟩ : ∃ b, p x = b := ⟨_, rfl⟩
      (try simp only [List.headD_cons] at hcall)
      rw [hb] at hcall
      have HBB := Aside0.mk hb
      have HLT := Aside0.mk hlt
      clear hb
      try clear hcells
      try clear hcl
      try clear hK
      cases b with
      | true =>
        go_wp2_with (go_at_fn g; refine hcall.mono ?_; rintro e w' ⟨rfl, hb'⟩)
        go_ret
        refine ⟨?_, BW.out.trans (hb'.mono BW.out.size)⟩
        rw [idxP_hit HLT.out (by rw [HX.out]; exact HBB.out) (fun j hj => HA.out j _ hj)]
        rfl
      | false =>
        go_wp2_with (go_at_fn g; refine hcall.mono ?_; rintro e w' ⟨rfl, hb'⟩)
        go_roundg (l0.length - (k + 1))
        case measure => have := HLT.out; omega
        case rel =>
          refine ⟨k + 1, HLT.out, by omega, by go_num, ⟨BW.out.trans (hb'.mono BW.out.size)⟩, ⟨fun j hj hjk => ?_⟩⟩
          by_cases e : j = k
          · subst e
            rw [HX.out]
            exact HBB.out
          · exact HA.out j hj (by omega)
    · have hltz : ¬ (k : Int) < (l0.length : Int) := by omega
      go_wp2
      go_ret
      refine ⟨?_, BW.out⟩
      rw [idxP_miss (fun j hj => HA.out j hj (by omega))]
      rfl

end Go.Proofs.Ytfcpebjjcijgcaa.G
-- slices.ContainsFunc[[]unicodetext/api.Element,unicodetext/api.Element]: by hand
namespace Go.Proofs.Ytfcpebjjcijgcaa.G
open Go.RowKit Go.Proofs.YtfcpebjjcijgcaaW.PrintWords Go.Proofs.YtfcpebjjcijgcaaW.PrintLast Go.Proofs.YtfcpebjjcijgcaaW.PrintMore
attribute [local go_sem] max2_int min2_int max_two min_two max_three min_three max_four min_four   -- for this text's walks alone
set_option linter.unusedVariables false
set_option linter.unusedSimpArgs false

theorem api_Element_48.calls (p : S51 → Bool) (g : Nat) (lb : Array Value) (eg : ∀ args w, (callFunc g args).run Try.prog w = .ok (.enter g args) w) (A0 : Option Addr) (c0 : Nat) (l0 : List S51) (w : World) (hr0 : Kd.C k51 w A0 l0.length l0) (hp : PredK Try.prog k51 (fun cs => .agg cs.toArray) g lb p l0 w) :
    Calls Try.prog 48 #[.slice A0 l0.length c0, .func (.func g) #[] lb] w fun e w' => e = .returned (.bool (l0.any p)) ∧ Below w.heap.size w w' := by
  rw [← idxP_nonneg (p := p) (l := l0)]
  have HC := Aside0.mk (api_Element_58.calls p g lb eg A0 c0 l0 w hr0 hp)
  clear hr0 hp
  go_enter Try.func48, Try.ntmps48
  go_wp2_with fail
  refine HC.out.mono ?_
  rintro e w' ⟨rfl, hb⟩
  go_wp2
  go_ret
  exact ⟨rfl, hb⟩

end Go.Proofs.Ytfcpebjjcijgcaa.G
-- by hand: lemmas
namespace Go.Proofs.Ytfcpebjjcijgcaa.G
open Go.RowKit Go.Proofs.YtfcpebjjcijgcaaW.PrintWords Go.Proofs.YtfcpebjjcijgcaaW.PrintLast Go.Proofs.YtfcpebjjcijgcaaW.PrintMore
attribute [local go_sem] max2_int min2_int max_two min_two max_three min_three max_four min_four   -- for this text's walks alone
set_option linter.unusedVariables false
set_option linter.unusedSimpArgs false

/-- The error of an element. -/
def elemErr (e : S51) : Int :=
  if 0 ≤ e.f0 ∧ e.f0 ≤ 65535 ∧ 0 ≤ e.f1 ∧ e.f1 ≤ 65535 ∧ 0 ≤ e.f2 ∧ e.f2 ≤ 65535 then (if (e.f0 ≠ 0 ∧ e.f1 = 0) ∨ (1 ≤ e.f0 + e.f1 ∧ e.f2 = 0) ∨ (e.f3 = true ∧ e.f0 = 0) then 11 else 0) else 1
theorem element_at (k : Nat) (e : S51) : element_Check.f (k + 1) e.f0 e.f1 e.f2 e.f3 = some (elemErr e) := by
  obtain ⟨p, s, t, v⟩ := e
  unfold element_Check.f elemErr
  simp only [element_Check.j0]
  by_cases h : 0 ≤ p ∧ p ≤ 65535 ∧ 0 ≤ s ∧ s ≤ 65535 ∧ 0 ≤ t ∧ t ≤ 65535
  · rw [if_pos h, if_neg (by unfold mn; omega)]
    have h1 : decide (mx (mx p s) t > 65535) = false := decide_eq_false (by unfold mx; omega)
    have hw : wrap64 (p + s) = p + s := by unfold wrap64; omega
    rw [h1, hw, if_neg (by simp)]
    by_cases hp : p = 0
    · rw [if_pos hp]
      by_cases hm : mn (p + s) 1 > t
      · rw [if_pos hm, if_pos (.inr (.inl (by unfold mn at hm; omega)))]
      · rw [if_neg hm]
        cases v with
        | true => rw [if_pos rfl, if_pos (.inr (.inr ⟨rfl, hp⟩))]
        | false => rw [if_neg (by simp), if_neg (by unfold mn at hm; simp; omega)]
    · rw [if_neg hp]
      by_cases hs : s = 0
      · rw [if_pos hs, if_pos (.inl ⟨hp, hs⟩)]
      · rw [if_neg hs]
        by_cases hm : mn (p + s) 1 > t
        · rw [if_pos hm, if_pos (.inr (.inl (by unfold mn at hm; omega)))]
        · have hn : ¬ ((p ≠ 0 ∧ s = 0) ∨ (1 ≤ p + s ∧ t = 0) ∨ (v = true ∧ p = 0)) := by
            rintro (h | h | h)
            · exact hs h.2
            · unfold mn at hm; omega
            · exact hp h.2
          rw [if_neg hm, if_neg hn]
          cases v <;> rfl
  · rw [if_neg h]
    by_cases hm : mn (mn p s) t < 0
    · rw [if_pos hm]; simp
    · rw [if_neg hm]
      have h1 : decide (mx (mx p s) t > 65535) = true := decide_eq_true (by unfold mn at hm; unfold mx; omega)
      rw [h1]; simp

end Go.Proofs.Ytfcpebjjcijgcaa.G
-- unicodetext/colltable.ofEntry: by hand
namespace Go.Proofs.Ytfcpebjjcijgcaa.G
open Go.RowKit Go.Proofs.YtfcpebjjcijgcaaW.PrintWords Go.Proofs.YtfcpebjjcijgcaaW.PrintLast Go.Proofs.YtfcpebjjcijgcaaW.PrintMore
attribute [local go_sem] max2_int min2_int max_two min_two max_three min_three max_four min_four   -- for this text's walks alone
set_option linter.unusedVariables false
set_option linter.unusedSimpArgs false

-- BY HAND: function 36 (colltable_ofEntry)
/-- The first error of elements. -/
def elErr : List S51 → Int
  | [] => 0
  | e :: l => if elemErr e ≠ 0 then elemErr e else elErr l
theorem elErr_hit : ∀ (l : List S51) (i : Nat) (x : S51), l[i]? = some x → (∀ (j : Nat) (y : S51), j < i → l[j]? = some y → elemErr y = 0) → elemErr x ≠ 0 → elErr l = elemErr x
  | [], i, x, hx, _, _ => by simp at hx
  | e :: l, 0, x, hx, _, h => by
    obtain rfl : e = x := by simpa using hx
    exact if_pos h
  | e :: l, i + 1, x, hx, hb, h => by
    show (if elemErr e ≠ 0 then elemErr e else elErr l) = elemErr x
    rw [if_neg (by simp [hb 0 e (by omega) rfl])]
    exact elErr_hit l i x (by simpa using hx) (fun j y hj hy => hb (j + 1) y (by omega) (by simpa using hy)) h
theorem elErr_none : ∀ (l : List S51), (∀ (j : Nat) (y : S51), l[j]? = some y → elemErr y = 0) → elErr l = 0
  | [], _ => rfl
  | e :: l, h => by
    show (if elemErr e ≠ 0 then elemErr e else elErr l) = 0
    rw [if_neg (by simp [h 0 e rfl])]
    exact elErr_none l (fun j y hy => h (j + 1) y (by simpa using hy))
/-- A code point? -/
def validP (n : Int) : Bool := decide (0 ≤ n) && decide (n ≤ 1114111)
def enErr (base : Int) (codes : List Int) (els : List S51) : Int :=
  if codes.length < 1 ∨ 8 < codes.length ∨ 16 < els.length then 2 else if codes.any (fun n => !validP n) then 1 else if elErr els ≠ 0 then elErr els else if els.any (fun e => decide (base ≤ e.f0)) then 1 else 0
theorem valid_f (n : Int) : codepoint_Valid.f n = some (validP n) := by
  unfold codepoint_Valid.f validP
  by_cases h : n ≥ 0
  · rw [if_pos h]; simp [h]
  · rw [if_neg h]; simp [h]
theorem ofEntry1_pred (l : List Int) (w : World) : PredK Try.prog (Kd.int .i64) (fun cs => cs.headD undef) 45 #[] (fun n => !validP n) l w := by
  intro x _ W cs _ hK
  obtain rfl : cs = [.int .i64 x] := hK
  have HV := Aside0.mk (valid_f x)
  show Calls Try.prog 45 #[.int .i64 x] W fun e w' => e = .returned (.bool (!validP x)) ∧ Below W.heap.size W w'
  obtain ⟨b, hb⟩ : ∃ b, validP x = b := ⟨_, rfl⟩
  rw [hb] at HV ⊢
  clear hb
  go_enter Try.func45, Try.ntmps45
  go_wp2_with fail
  refine (codepoint_Valid.calls x b _ HV.out).mono ?_
  rintro e w' ⟨rfl, ⟨nd, rfl⟩⟩
  go_wp2
  go_ret
  exact ⟨rfl, pw_below_drewN (Below.refl _ _) _⟩
theorem ofEntry2_pred (l : List S51) (w : World) (g : Nat) (base : Int) (hg : g < w.heap.size) (hc : w.cell? ⟨g, 2, none⟩ = some (.int .i64 base)) : PredK Try.prog k51 (fun cs => .agg cs.toArray) 49 #[.pointer (some ⟨g, 0, none⟩)] (fun e => decide (base ≤ e.f0)) l w := by
  intro x _ W cs hb hK
  obtain rfl := k51_open hK
  show Calls Try.prog 49 #[.agg #[.int .i64 x.f0, .int .i64 x.f1, .int .i64 x.f2, .bool x.f3], .pointer (some ⟨g, 0, none⟩)] W _
  have hc2 : (W.alloc (.cells #[.int .i64 x.f0, .int .i64 x.f1, .int .i64 x.f2, .bool x.f3] 51)).cell? ⟨g, 2, none⟩ = some (.int .i64 base) := pw_cell_below (below_alloc (Below.refl _ _) _) (pw_cell_below hb hc)
  go_enter Try.func49, Try.ntmps49
  go_wp2
  go_ret
  exact ⟨rfl, below_alloc (Below.refl _ _) _⟩
def colltable_ofEntry.f (l0_0 : List (S49)) (l0_1 : List (S36)) (a0_2 : Int) (a0_3 : Int) (a0_4 : Int) (l1_0 : List Int) (l1_1 : List (S51)) : Option (Int) := some (enErr a0_2 l1_0 l1_1)
set_option maxHeartbeats 1000000 in
theorem colltable_ofEntry.calls (A0_0 : Option Addr) (c0_0 : Nat) (l0_0 : List (S49)) (A0_1 : Option Addr) (c0_1 : Nat) (l0_1 : List (S36)) (a0_2 : Int) (a0_3 : Int) (a0_4 : Int) (A1_0 : Option Addr) (c1_0 : Nat) (l1_0 : List Int) (A1_1 : Option Addr) (c1_1 : Nat) (l1_1 : List (S51)) (r : Int) (w : World) (hr0_0 : Kd.C k49 w A0_0 l0_0.length l0_0) (hc0_0 : l0_0.length ≤ c0_0) (hr0_1 : Kd.C k36 w A0_1 l0_1.length l0_1) (hc0_1 : l0_1.length ≤ c0_1) (hr1_0 : Kd.C (Kd.int .i64) w A1_0 l1_0.length l1_0) (hc1_0 : l1_0.length ≤ c1_0) (hr1_1 : Kd.C k51 w A1_1 l1_1.length l1_1) (hc1_1 : l1_1.length ≤ c1_1) (h : colltable_ofEntry.f l0_0 l0_1 a0_2 a0_3 a0_4 l1_0 l1_1 = some r) :
    Calls Try.prog 36 #[.agg #[.slice A0_0 l0_0.length c0_0, .slice A0_1 l0_1.length c0_1, .int .i64 a0_2, .int .i64 a0_3, .int .i64 a0_4], .agg #[.slice A1_0 l1_0.length c1_0, .slice A1_1 l1_1.length c1_1]] w fun e w' => e = .returned (.int .i64 r) ∧ Below w.heap.size w w' := by
  have HRES := Aside0.mk (Option.some.inj h)
  have HR0 := Aside0.mk hr1_0
  have HR1 := Aside0.mk hr1_1
  have HC0 := Aside0.mk hc1_0
  have HC1 := Aside0.mk hc1_1
  have hlen : l1_1.length ≤ 9223372036854775807 := hr1_1.2.1
  clear h hr0_0 hc0_0 hr0_1 hc0_1 hr1_0 hc1_0 hr1_1 hc1_1
  have HL := Aside0.mk (show (l1_0.length < 1 ∨ 8 < l1_0.length ∨ 16 < l1_1.length) → enErr a0_2 l1_0 l1_1 = 2 from fun h => if_pos h)
  by_cases h1 : l1_0.length < 1
  · have f1 : decide ((l1_0.length : Int) < 1) = true := decide_eq_true (by omega)
    have f2 : decide (l1_0.length < 1) = true := decide_eq_true h1
    have HE := Aside0.mk (HL.out (.inl h1))
    clear h1
    go_enter Try.func36, Try.ntmps36
    go_wp2
    go_ret
    exact ⟨by rw [← HRES.out, HE.out]; rfl, below_alloc (below_alloc (Below.refl _ _) _) _⟩
  have f1 : decide ((l1_0.length : Int) < 1) = false := decide_eq_false (by omega)
  have f2 : decide (l1_0.length < 1) = false := decide_eq_false h1
  by_cases h2 : 8 < l1_0.length
  · have f3 : decide (8 < (l1_0.length : Int)) = true := decide_eq_true (by omega)
    have f4 : decide (8 < l1_0.length) = true := decide_eq_true h2
    have HE := Aside0.mk (HL.out (.inr (.inl h2)))
    clear h1 h2
    go_enter Try.func36, Try.ntmps36
    go_wp2
    go_ret
    exact ⟨by rw [← HRES.out, HE.out]; rfl, below_alloc (below_alloc (Below.refl _ _) _) _⟩
  have f3 : decide (8 < (l1_0.length : Int)) = false := decide_eq_false (by omega)
  have f4 : decide (8 < l1_0.length) = false := decide_eq_false h2
  by_cases h3 : 16 < l1_1.length
  · have f5 : decide (16 < (l1_1.length : Int)) = true := decide_eq_true (by omega)
    have f6 : decide (16 < l1_1.length) = true := decide_eq_true h3
    have HE := Aside0.mk (HL.out (.inr (.inr h3)))
    clear h1 h2 h3
    go_enter Try.func36, Try.ntmps36
    go_wp2
    go_ret
    exact ⟨by rw [← HRES.out, HE.out]; rfl, below_alloc (below_alloc (Below.refl _ _) _) _⟩
  have f5 : decide (16 < (l1_1.length : Int)) = false := decide_eq_false (by omega)
  have f6 : decide (16 < l1_1.length) = false := decide_eq_false h3
  have HN := Aside0.mk (show enErr a0_2 l1_0 l1_1 = if l1_0.any (fun n => !validP n) then 1 else if elErr l1_1 ≠ 0 then elErr l1_1 else if l1_1.any (fun e => decide (a0_2 ≤ e.f0)) then 1 else 0 from if_neg (by omega))
  clear h1 h2 h3 HL
  go_enter Try.func36, Try.ntmps36
  go_wp2_with fail
  have hbox : Below w.heap.size w ((w.alloc (.cells #[.slice A0_0 l0_0.length c0_0, .slice A0_1 l0_1.length c0_1, .int .i64 a0_2, .int .i64 a0_3, .int .i64 a0_4] 25)).alloc (.cells #[.slice A1_0 l1_0.length c1_0, .slice A1_1 l1_1.length c1_1] 49)) := below_alloc (below_alloc (Below.refl _ _) _) _
  have hb1 := blk_alloc (blk_new w (.cells #[.slice A0_0 l0_0.length c0_0, .slice A0_1 l0_1.length c0_1, .int .i64 a0_2, .int .i64 a0_3, .int .i64 a0_4] 25)) (.cells #[.slice A1_0 l1_0.length c1_0, .slice A1_1 l1_1.length c1_1] 49)
  have hb2 : ((w.alloc (.cells #[.slice A0_0 l0_0.length c0_0, .slice A0_1 l0_1.length c0_1, .int .i64 a0_2, .int .i64 a0_3, .int .i64 a0_4] 25)).alloc (.cells #[.slice A1_0 l1_0.length c1_0, .slice A1_1 l1_1.length c1_1] 49)).heap[w.heap.size + 1]? = some (.cells #[.slice A1_0 l1_0.length c1_0, .slice A1_1 l1_1.length c1_1] 49) := by
    have := blk_new (w.alloc (.cells #[.slice A0_0 l0_0.length c0_0, .slice A0_1 l0_1.length c0_1, .int .i64 a0_2, .int .i64 a0_3, .int .i64 a0_4] 25)) (.cells #[.slice A1_0 l1_0.length c1_0, .slice A1_1 l1_1.length c1_1] 49)
    simpa using this
  generalize ((w.alloc (.cells #[.slice A0_0 l0_0.length c0_0, .slice A0_1 l0_1.length c0_1, .int .i64 a0_2, .int .i64 a0_3, .int .i64 a0_4] 25)).alloc (.cells #[.slice A1_0 l1_0.length c1_0, .slice A1_1 l1_1.length c1_1] 49)) = w1 at hbox hb1 hb2 ⊢
  have HB := Aside0.mk hbox
  have HB1 := Aside0.mk hb1
  have HB2 := Aside0.mk hb2
  clear hbox hb1 hb2
  refine (slices_ContainsFunc_int_int.calls (fun n => !validP n) 45 #[] (enters_of Try.func45 (by kernel_rfl) rfl) _ _ l1_0 _ (Kd.C_below HR0.out HB.out) (ofEntry1_pred _ _)).mono ?_
  rintro e w2 ⟨rfl, hb⟩
  have HBn := Aside0.mk (HB.out.trans (hb.mono HB.out.size))
  have HB1n := Aside0.mk (blk_below HB1.out hb)
  have HB2n := Aside0.mk (blk_below HB2.out hb)
  clear HB HB1 HB2 hb
  obtain ⟨bv, hbv⟩ : ∃ b, l1_0.any (fun n => !validP n) = b := ⟨_, rfl⟩
  rw [hbv]
  have HBV := Aside0.mk hbv
  clear hbv
  cases bv with
  | true =>
    go_wp2
    go_ret
    exact ⟨by rw [← HRES.out, HN.out, HBV.out]; rfl, HBn.out⟩
  | false =>
    have hc : w2.cell? ⟨w.heap.size + 1, 1, none⟩ = some (.slice A1_1 l1_1.length c1_1) := (blk_cell HB2n.out 1).trans rfl
    go_wp2
    go_loopg [30] l1_1.length (fun g v30 w' => ∃ (x : Int), v30 = .int .i64 x ∧ Aside0 (g = l1_1.length - x.toNat ∧ 0 ≤ x ∧ x ≤ l1_1.length ∧ ∀ j y, j < x.toNat → l1_1[j]? = some y → elemErr y = 0) ∧ Aside0 (w'.heap[w.heap.size]? = some (.cells #[.slice A0_0 l0_0.length c0_0, .slice A0_1 l0_1.length c0_1, .int .i64 a0_2, .int .i64 a0_3, .int .i64 a0_4] 25 (0, 0))) ∧ Aside0 (w'.heap[w.heap.size + 1]? = some (.cells #[.slice A1_0 l1_0.length c1_0, .slice A1_1 l1_1.length c1_1] 49 (0, 0))) ∧ Aside0 (Below w.heap.size w w'))
    case atStart => exact ⟨0, rfl, ⟨by simp, by omega, by omega, fun j y h1 h2 => absurd h1 (by simp)⟩, HB1n, HB2n, HBn⟩
    clear hc HB1n HB2n HBn
    case round =>
      obtain ⟨x, rfl, HG, HB1, HB2, HB⟩ := hrel
      have h0 : 0 ≤ x := HG.out.2.1
      by_cases hlt : x < (l1_1.length : Int)
      · obtain ⟨ad, e, hx0, hx1, hx2, hx3⟩ := at_T51 HR1.out x h0 hlt
        cases e
        replace hx0 := pw_cell_below HB.out hx0
        replace hx1 := pw_cell_below HB.out hx1
        replace hx2 := pw_cell_below HB.out hx2
        replace hx3 := pw_cell_below HB.out hx3
        have hget : l1_1[x.toNat]? = some (rd_T51 l1_1 x) := by
          unfold rd_T51
          rw [List.getD_eq_getElem?_getD, List.getElem?_eq_getElem (by omega)]
          rfl
        have HWR := Aside0.mk (wrap_up h0 (show x < 9223372036854775807 by omega))
        obtain ⟨gx, hgx⟩ : ∃ gx, rd_T51 l1_1 x = gx := ⟨_, rfl⟩
        rw [hgx] at hx0 hx1 hx2 hx3 hget
        have HGET := Aside0.mk hget
        clear hgx hget
        have HEL := Aside0.mk (element_at 0 gx)
        obtain ⟨r1, hr1⟩ : ∃ r1, elemErr gx = r1 := ⟨_, rfl⟩
        rw [hr1] at HEL
        have HR := Aside0.mk hr1
        clear hr1
        go_wp2_with fail
        refine (element_Check.calls 1 gx.f0 gx.f1 gx.f2 gx.f3 r1 _ HEL.out).mono ?_
        rintro e w3 ⟨rfl, hbe⟩
        have HB1n := Aside0.mk (blk_below (blk_alloc HB1.out _) hbe)
        have HB2n := Aside0.mk (blk_below (blk_alloc HB2.out _) hbe)
        have HBn := Aside0.mk (below_step (below_alloc HB.out _) hbe)
        clear hbe
        by_cases hr : r1 = 0
        · subst hr
          go_wp2
          go_roundg (l1_1.length - (x + 1).toNat)
          case measure => have := HG.out; omega
          case rel =>
            refine ⟨x + 1, by rw [← HWR.out], ⟨rfl, by omega, by omega, fun j y h1 h2 => ?_⟩, HB1n, HB2n, HBn⟩
            by_cases h : j < x.toNat
            · exact HG.out.2.2.2 j y h h2
            · obtain rfl : j = x.toNat := by omega
              rw [HGET.out] at h2
              rw [← Option.some.inj h2]
              exact HR.out
        · have hr' : (r1 != 0) = true := by rw [bne_iff_ne]; exact hr
          have HNZ := Aside0.mk hr
          clear hr
          go_wp2
          go_ret
          refine ⟨?_, HBn.out⟩
          have he := elErr_hit l1_1 x.toNat gx HGET.out (fun j y h1 h2 => HG.out.2.2.2 j y h1 h2) (by rw [HR.out]; exact HNZ.out)
          rw [← HRES.out, HN.out, HBV.out, he, HR.out, if_neg (by simp), if_pos HNZ.out]
          rfl
      · have HE0 := Aside0.mk (elErr_none l1_1 (fun j y h => by
          have hj := (List.getElem?_eq_some_iff.1 h).1
          exact HG.out.2.2.2 j y (by omega) h))
        have hc : wr.cell? ⟨w.heap.size + 1, 1, none⟩ = some (.slice A1_1 l1_1.length c1_1) := (blk_cell HB2.out 1).trans rfl
        have hcb : wr.cell? ⟨w.heap.size, 2, none⟩ = some (.int .i64 a0_2) := (blk_cell HB1.out 2).trans rfl
        have HP := Aside0.mk (ofEntry2_pred l1_1 wr w.heap.size a0_2 (blk_lt HB1.out) hcb)
        clear hcb
        go_wp2_with fail
        refine (api_Element_48.calls (fun e => decide (a0_2 ≤ e.f0)) 49 _ (enters_of Try.func49 (by kernel_rfl) rfl) _ _ l1_1 _ (Kd.C_below HR1.out HB.out) HP.out).mono ?_
        rintro e w2 ⟨rfl, hb⟩
        have HBn := Aside0.mk (HB.out.trans (hb.mono HB.out.size))
        clear hb hc
        obtain ⟨bz, hbz⟩ : ∃ b, l1_1.any (fun e => decide (a0_2 ≤ e.f0)) = b := ⟨_, rfl⟩
        rw [hbz]
        have HBZ := Aside0.mk hbz
        clear hbz
        cases bz with
        | true =>
          go_wp2
          go_ret
          exact ⟨by rw [← HRES.out, HN.out, HBV.out, HE0.out, HBZ.out]; rfl, HBn.out⟩
        | false =>
          go_wp2
          go_ret
          exact ⟨by rw [← HRES.out, HN.out, HBV.out, HE0.out, HBZ.out]; rfl, HBn.out⟩

end Go.Proofs.Ytfcpebjjcijgcaa.G
-- unicodetext/codepoint.order: printed by gprint.py
namespace Go.Proofs.Ytfcpebjjcijgcaa.G
open Go.RowKit Go.Proofs.YtfcpebjjcijgcaaW.PrintWords Go.Proofs.YtfcpebjjcijgcaaW.PrintLast Go.Proofs.YtfcpebjjcijgcaaW.PrintMore
attribute [local go_sem] max2_int min2_int max_two min_two max_three min_three max_four min_four   -- for this text's walks alone
set_option linter.unusedVariables false
set_option linter.unusedSimpArgs false

/-! ### codepoint_order: function 50 -/
def codepoint_order.f (a0 : Int) (a1 : Int) : Option (Int) := if a0 < a1 then (some (-1)) else (if a0 > a1 then (some 1) else (some 0))
set_option maxHeartbeats 8000000 in
set_option maxRecDepth 100000 in
theorem codepoint_order.calls (a0 : Int) (a1 : Int) (r : Int) (w : World) (h : codepoint_order.f a0 a1 = some r) :
    Calls Try.prog 50 #[.int .i64 a0, .int .i64 a1] w fun e w' => e = .returned (.int .i64 r) ∧ Drawn0 w w' := by
  have H : (if a0 < a1 then (some (-1)) else (if a0 > a1 then (some 1) else (some 0))) = some r := h
  clear h
  by_cases c3 : a0 < a1
  · rw [if_pos c3] at H
    have c3b0 : decide (a0 < a1) = true := decide_eq_true c3
    clear c3
    obtain rfl := Option.some.inj H
    go_enter Try.func50, Try.ntmps50
    go_wp2
    go_ret
    exact ⟨by first | rfl | (simp; done) | (simp [*]; done), by repeat (first | exact Drawn0.refl _ | apply Drawn0.step)⟩
  · rw [if_neg c3] at H
    have c3b0 : decide (a0 < a1) = false := decide_eq_false c3
    clear c3
    by_cases c4 : a0 > a1
    · rw [if_pos c4] at H
      have c4b0 : decide (a1 < a0) = true := decide_eq_true c4
      clear c4
      obtain rfl := Option.some.inj H
      go_enter Try.func50, Try.ntmps50
      go_wp2
      go_ret
      exact ⟨by first | rfl | (simp; done) | (simp [*]; done), by repeat (first | exact Drawn0.refl _ | apply Drawn0.step)⟩
    · rw [if_neg c4] at H
      have c4b0 : decide (a1 < a0) = false := decide_eq_false c4
      clear c4
      obtain rfl := Option.some.inj H
      go_enter Try.func50, Try.ntmps50
      go_wp2
      go_ret
      exact ⟨by first | rfl | (simp; done) | (simp [*]; done), by repeat (first | exact Drawn0.refl _ | apply Drawn0.step)⟩

end Go.Proofs.Ytfcpebjjcijgcaa.G
-- unicodetext/codepoint.Compare: by hand
namespace Go.Proofs.Ytfcpebjjcijgcaa.G
open Go.RowKit Go.Proofs.YtfcpebjjcijgcaaW.PrintWords Go.Proofs.YtfcpebjjcijgcaaW.PrintLast Go.Proofs.YtfcpebjjcijgcaaW.PrintMore
attribute [local go_sem] max2_int min2_int max_two min_two max_three min_three max_four min_four   -- for this text's walks alone
set_option linter.unusedVariables false
set_option linter.unusedSimpArgs false

-- BY HAND: function 37 (codepoint_Compare)
/-- Which of two sequences is less: -1, 0, 1. -/
def cmpL : List Int → List Int → Int
  | [], [] => 0
  | [], _ :: _ => -1
  | _ :: _, [] => 1
  | a :: l, b :: m => if a = b then cmpL l m else if a < b then -1 else 1
theorem cmpL_drop (l m : List Int) (i : Nat) (h1 : i < l.length) (h2 : i < m.length) : cmpL (l.drop i) (m.drop i) = if rd l i = rd m i then cmpL (l.drop (i + 1)) (m.drop (i + 1)) else if rd l i < rd m i then -1 else 1 := by
  rw [List.drop_eq_getElem_cons h1, List.drop_eq_getElem_cons h2]
  simp only [cmpL, rd, Int.toNat_natCast, List.getD_eq_getElem?_getD, List.getElem?_eq_getElem h1, List.getElem?_eq_getElem h2, Option.getD_some]
theorem cmpL_end (l m : List Int) (i : Nat) (h1 : i ≤ l.length) (h2 : i ≤ m.length) (h : i = l.length ∨ i = m.length) : cmpL (l.drop i) (m.drop i) = if (l.length : Int) < (m.length : Int) then -1 else if (m.length : Int) < (l.length : Int) then 1 else 0 := by
  cases ha : l.drop i with
  | nil =>
    have e1 : l.length ≤ i := by have := congrArg List.length ha; simp at this; omega
    cases hb : m.drop i with
    | nil =>
      have e2 : m.length ≤ i := by have := congrArg List.length hb; simp at this; omega
      rw [if_neg (by omega), if_neg (by omega)]
      rfl
    | cons b mb =>
      have e2 : i < m.length := by have := congrArg List.length hb; simp at this; omega
      rw [if_pos (by omega)]
      rfl
  | cons a la =>
    have e1 : i < l.length := by have := congrArg List.length ha; simp at this; omega
    have e2 : m.length ≤ i := by omega
    rw [List.drop_eq_nil_of_le e2, if_neg (by omega), if_pos (by omega)]
    rfl
theorem order_f (a b : Int) : codepoint_order.f a b = some (if a < b then -1 else if b < a then 1 else 0) := by
  unfold codepoint_order.f
  split
  · rfl
  · split <;> rfl
def codepoint_Compare.f (l0 : List Int) (l1 : List Int) : Option (Int) := some (cmpL l0 l1)
set_option maxHeartbeats 1000000 in
theorem codepoint_Compare.calls (A0 : Option Addr) (c0 : Nat) (l0 : List Int) (A1 : Option Addr) (c1 : Nat) (l1 : List Int) (r : Int) (w : World) (hr0 : Kd.C (Kd.int .i64) w A0 l0.length l0) (hc0 : l0.length ≤ c0) (hr1 : Kd.C (Kd.int .i64) w A1 l1.length l1) (hc1 : l1.length ≤ c1) (h : codepoint_Compare.f l0 l1 = some r) :
    Calls Try.prog 37 #[.slice A0 l0.length c0, .slice A1 l1.length c1] w fun e w' => e = .returned (.int .i64 r) ∧ Below w.heap.size w w' := by
  have HRES := Aside0.mk (Option.some.inj h)
  have HR0 := Aside0.mk hr0
  have HR1 := Aside0.mk hr1
  have hm0 : l0.length ≤ 9223372036854775807 := hr0.2.1
  have hm1 : l1.length ≤ 9223372036854775807 := hr1.2.1
  clear h hr0 hr1 hc0 hc1
  obtain ⟨n, hn⟩ : ∃ n : Nat, (if l1.length < l0.length then l1.length else l0.length) = n := ⟨_, rfl⟩
  have hn1 : n ≤ l0.length := by split at hn <;> omega
  have hn2 : n ≤ l1.length := by split at hn <;> omega
  have hn3 : n = l0.length ∨ n = l1.length := by split at hn <;> omega
  have e1 : (if (l1.length : Int) < (l0.length : Int) then (l1.length : Int) else (l0.length : Int)) = (n : Int) := by split <;> split at hn <;> omega
  have e2 : (if l1.length < l0.length then (l1.length : Int) else (l0.length : Int)) = (n : Int) := by split <;> split at hn <;> omega
  have HN3 := Aside0.mk hn3
  clear hn hn3
  go_enter Try.func37, Try.ntmps37
  go_wp2
  repeat (go_quiet (fail); try go_wp2)
  go_loopg [11] n (fun g v11 w' => ∃ i : Nat, v11 = .int .i64 i ∧ Aside0 (g = n - i ∧ i ≤ n ∧ cmpL (l0.drop i) (l1.drop i) = cmpL l0 l1) ∧ Aside0 (Below w.heap.size w w'))
  case atStart => exact ⟨0, rfl, ⟨by simp, by omega, by simp⟩, ⟨by first | exact Below.refl _ _ | exact pw_below_drewN (Below.refl _ _) _ | exact below_drew (Below.refl _ _)⟩⟩
  case round =>
    obtain ⟨i, rfl, HG, HB⟩ := hrel
    clear e1 e2
    by_cases hlt : i < n
    · have hlz : (i : Int) < (n : Int) := by omega
      have p0 : 0 ≤ (i : Int) := by omega
      have q0 : (i : Int) < (l0.length : Int) := by omega
      have q1 : (i : Int) < (l1.length : Int) := by omega
      obtain ⟨ad, e, hx⟩ := Kd.at_int HR0.out (i : Int) p0 q0
      obtain ⟨ad1, e1, hy⟩ := Kd.at_int HR1.out (i : Int) p0 q1
      cases e
      cases e1
      replace hx := pw_cell_below HB.out hx
      replace hy := pw_cell_below HB.out hy
      rw [Int.toNat_natCast] at hx hy
      have HST := Aside0.mk (cmpL_drop l0 l1 i (by omega) (by omega))
      obtain ⟨a, ha⟩ : ∃ a, rd l0 (i : Int) = a := ⟨_, rfl⟩
      obtain ⟨b, hb⟩ : ∃ b, rd l1 (i : Int) = b := ⟨_, rfl⟩
      rw [ha] at hx HST
      rw [hb] at hy HST
      clear ha hb
      by_cases hab : a = b
      · subst hab
        go_wp2
        repeat (go_quiet (fail); try go_wp2)
        go_roundg (n - (i + 1))
        case measure => have := HG.out; omega
        case rel =>
          refine ⟨i + 1, by go_num, ⟨rfl, by omega, ?_⟩, ⟨by first | exact HB.out | exact pw_below_drewN HB.out _ | exact below_drew HB.out⟩⟩
          rw [← HG.out.2.2, HST.out]
          simp
      · have hab' : (a == b) = false := beq_eq_false_iff_ne.2 hab
        have hab2 : (a != b) = true := bne_iff_ne.2 hab
        obtain ⟨r1, hr1⟩ : ∃ r1 : Int, (if a < b then -1 else if b < a then 1 else 0) = r1 := ⟨_, rfl⟩
        have HORD := Aside0.mk (hr1 ▸ order_f a b)
        have HFIN : Aside0 (cmpL l0 l1 = r1) := ⟨by rw [← HG.out.2.2, HST.out, if_neg hab, ← hr1]; split <;> (try rfl); split <;> (try rfl); omega⟩
        clear hab hr1
        go_wp2
        repeat (go_quiet (fail); try go_wp2)
        go_quiet ((go_at_call 50; (with_reducible refine (codepoint_order.calls a b r1 _ HORD.out).mono ?_); rintro e w' ⟨rfl, ⟨nd, rfl⟩⟩; (try first | exact ⟨rfl, _, World.drewN_drewN _ _ _⟩ | exact ⟨rfl, _, Eq.trans (World.drewN_drewN _ _ _) (congrArg (World.drewN _) (Nat.add_assoc _ _ _))⟩)))
        go_wp2
        go_ret
        exact ⟨by rw [← HRES.out, HFIN.out]; rfl, by repeat (first | exact HB.out | apply pw_below_drewN | apply below_drew1)⟩
    · obtain ⟨r1, hr1⟩ : ∃ r1 : Int, (if (l0.length : Int) < (l1.length : Int) then -1 else if (l1.length : Int) < (l0.length : Int) then 1 else 0) = r1 := ⟨_, rfl⟩
      have HORD := Aside0.mk (hr1 ▸ order_f (l0.length : Int) (l1.length : Int))
      have HFIN : Aside0 (cmpL l0 l1 = r1) := ⟨by rw [← HG.out.2.2, cmpL_end l0 l1 i (by have := HG.out; omega) (by have := HG.out; omega) (by have := HG.out; have := HN3.out; omega), hr1]⟩
      clear hr1
      go_wp2_with fail
      refine (codepoint_order.calls (l0.length : Int) (l1.length : Int) r1 _ HORD.out).mono ?_
      rintro e w' ⟨rfl, ⟨nd, rfl⟩⟩
      go_wp2
      go_ret
      exact ⟨by rw [← HRES.out, HFIN.out]; rfl, pw_below_drewN HB.out _⟩

end Go.Proofs.Ytfcpebjjcijgcaa.G
