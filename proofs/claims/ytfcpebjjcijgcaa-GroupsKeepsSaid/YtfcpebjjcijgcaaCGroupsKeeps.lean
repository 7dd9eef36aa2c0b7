/- PROVED HERE: the law GroupsKeeps of the groups (weights keep their order and their distances within a group) is true for every input. Conditions: none. Out of the printed and hand-made walks and of plain Lean laws. -/
import Derived.Below
import Derived.BigQuiet
import Derived.ChangeOld
import Derived.OpenShut
import Derived.Outline
import Derived.ProofKit
import Derived.ShutString
import Derived.SizedLaws
import Derived.Test.YtfcpebjjcijgcaaB0
import Derived.Test.YtfcpebjjcijgcaaB2
import Derived.Test.YtfcpebjjcijgcaaB3
import Derived.Test.YtfcpebjjcijgcaaB5
import Derived.Test.YtfcpebjjcijgcaaB7
import Derived.Test.YtfcpebjjcijgcaaB8
import Derived.Test.YtfcpebjjcijgcaaRows
import Derived.WalkKit
-- unicodetext/unicodetextlaw47.grouped: printed by gprint.py
namespace Go.Proofs.Ytfcpebjjcijgcaa.G
open Go.RowKit Go.Proofs.YtfcpebjjcijgcaaW.PrintWords Go.Proofs.YtfcpebjjcijgcaaW.PrintLast Go.Proofs.YtfcpebjjcijgcaaW.PrintMore
attribute [local go_sem] max2_int min2_int max_two min_two max_three min_three max_four min_four   -- for this text's walks alone
set_option linter.unusedVariables false
set_option linter.unusedSimpArgs false

/-! ### unicodetextlaw47_grouped: function 17 -/
def unicodetextlaw47_grouped.l0 : Nat → List (S36) → Int → Int → Option (Int)
  | 0, _, _, _ => none
  | k + 1, x0, x1, x5 => if x5 < (x0.length : Int) then (if 0 ≤ x5 then (if x1 ≥ ((rd_T36 x0 x5).f1) then (if x1 ≤ ((rd_T36 x0 x5).f2) then (some x5) else (unicodetextlaw47_grouped.l0 k x0 x1 (wrap64 (x5 + 1)))) else (unicodetextlaw47_grouped.l0 k x0 x1 (wrap64 (x5 + 1)))) else (none)) else (some (-1))
def unicodetextlaw47_grouped.f (k : Nat) (l0 : List (S36)) (a1 : Int) : Option (Int) := unicodetextlaw47_grouped.l0 k l0 a1 0
theorem unicodetextlaw47_grouped.mono_l : ∀ k, (∀ y0 y1 y2, LeO (unicodetextlaw47_grouped.l0 k y0 y1 y2) (unicodetextlaw47_grouped.l0 (k + 1) y0 y1 y2))
  | 0 => fun _ _ _ r h => by simp [unicodetextlaw47_grouped.l0] at h
  | k + 1 => by
    have ih0 := unicodetextlaw47_grouped.mono_l k
    · intro y0 y1 y2
      unfold unicodetextlaw47_grouped.l0
      repeat' first
      | (with_reducible exact ih0 _ _ _)
      | (with_reducible exact LeO.refl _)
      | (with_reducible exact LeO.none _)
      | (with_reducible refine LeO.ite ?_ ?_)
      | (with_reducible refine LeO.bind ?_ (fun _ => ?_))
      | exact ih0 _ _ _
      | exact LeO.none _
      | refine LeO.ite ?_ ?_
      | refine LeO.bind ?_ (fun _ => ?_)
theorem unicodetextlaw47_grouped.mono : ∀ a0 a1 k, LeO (unicodetextlaw47_grouped.f k a0 a1) (unicodetextlaw47_grouped.f (k + 1) a0 a1) := by
  intro a0 a1 k
  have ih0 := unicodetextlaw47_grouped.mono_l k
  unfold unicodetextlaw47_grouped.f
  repeat' first
      | (with_reducible exact ih0 _ _ _)
      | (with_reducible exact LeO.refl _)
      | (with_reducible exact LeO.none _)
      | (with_reducible refine LeO.ite ?_ ?_)
      | (with_reducible refine LeO.bind ?_ (fun _ => ?_))
      | exact ih0 _ _ _
      | exact LeO.none _
      | refine LeO.ite ?_ ?_
      | refine LeO.bind ?_ (fun _ => ?_)
set_option maxHeartbeats 8000000 in
set_option maxRecDepth 100000 in
theorem unicodetextlaw47_grouped.calls (k : Nat) (A0 : Option Addr) (c0 : Nat) (l0 : List (S36)) (a1 : Int) (r : Int) (w : World) (hr0 : Kd.C k36 w A0 l0.length l0) (hc0 : l0.length ≤ c0) (h : unicodetextlaw47_grouped.f k l0 a1 = some r) :
    Calls Try.prog 17 #[.slice A0 l0.length c0, .int .i64 a1] w fun e w' => e = .returned (.int .i64 r) ∧ Drawn0 w w' := by
  have HR0 := Aside0.mk hr0
  have HC0 := Aside0.mk hc0
  clear hr0 hc0
  have H : (unicodetextlaw47_grouped.l0 k l0 a1 0) = some r := h
  clear h
  have H' := Aside0.mk H
  clear H
  go_enter Try.func17, Try.ntmps17
  go_wp2
  go_loopg [5] k (fun kq v5 w' => ∃ (x5_1 : Int), v5 = .int .i64 x5_1 ∧ Aside0 (unicodetextlaw47_grouped.l0 kq l0 a1 x5_1 = some r) ∧ Aside0 (kq ≤ k) ∧ Drawn0 w w')
  case atStart => exact ⟨(0), (by first | rfl | (simp; done) | (simp [*]; done)), H', ⟨Nat.le_refl _⟩, by repeat (first | exact Drawn0.refl _ | apply Drawn0.step)⟩
  case round =>
    clear H'
    try clear c1
    try clear p2
    obtain ⟨x5_1, rfl, HA, HK1, ⟨m1, rfl⟩⟩ := hrel
    cases gk with
    | zero => exact absurd HA.out (by simp [unicodetextlaw47_grouped.l0])
    | succ k1 =>
      have H := HA.out
      clear HA
      simp only [unicodetextlaw47_grouped.l0] at H
      by_cases c3 : x5_1 < (l0.length : Int)
      · rw [if_pos c3] at H
        have c3b0 : decide (x5_1 < (l0.length : Int)) = true := decide_eq_true c3
        clear c3
        by_cases c4 : 0 ≤ x5_1
        · rw [if_pos c4] at H
          have c4b0 : decide (0 ≤ x5_1) = true := decide_eq_true c4
          clear c4
          by_cases c5 : a1 ≥ ((rd_T36 l0 x5_1).f1)
          · rw [if_pos c5] at H
            have c5b0 : decide (((rd_T36 l0 x5_1).f1) ≤ a1) = true := decide_eq_true c5
            clear c5
            by_cases c6 : a1 ≤ ((rd_T36 l0 x5_1).f2)
            · rw [if_pos c6] at H
              have c6b0 : decide (a1 ≤ ((rd_T36 l0 x5_1).f2)) = true := decide_eq_true c6
              clear c6
              obtain rfl := Option.some.inj H
              have p101 : 0 ≤ (x5_1 : Int) := of_decide_eq_true (by first | (with_reducible assumption) | assumption)
              have q101 : x5_1 < (l0.length : Int) := of_decide_eq_true (by first | (with_reducible assumption) | assumption)
              obtain ⟨ad101, e101, hx101_0, hx101_1, hx101_2⟩ := at_T36 HR0.out x5_1 p101 q101
              cases e101
              replace p101 := eq_true p101
              replace q101 := eq_true q101
              have p102 : 0 ≤ (x5_1 : Int) := of_decide_eq_true (by first | (with_reducible assumption) | assumption)
              have q102 : x5_1 < (l0.length : Int) := of_decide_eq_true (by first | (with_reducible assumption) | assumption)
              obtain ⟨ad102, e102, hx102_0, hx102_1, hx102_2⟩ := at_T36 HR0.out x5_1 p102 q102
              obtain rfl : ad101 = ad102 := (by injection e102)
              replace p102 := eq_true p102
              replace q102 := eq_true q102
              go_wp2
              go_ret
              exact ⟨by first | rfl | (simp; done) | (simp [*]; done), by repeat (first | exact Drawn0.refl _ | apply Drawn0.step)⟩
            · rw [if_neg c6] at H
              have c6b0 : decide (a1 ≤ ((rd_T36 l0 x5_1).f2)) = false := decide_eq_false c6
              clear c6
              have H' := Aside0.mk H
              clear H
              have p101 : 0 ≤ (x5_1 : Int) := of_decide_eq_true (by first | (with_reducible assumption) | assumption)
              have q101 : x5_1 < (l0.length : Int) := of_decide_eq_true (by first | (with_reducible assumption) | assumption)
              obtain ⟨ad101, e101, hx101_0, hx101_1, hx101_2⟩ := at_T36 HR0.out x5_1 p101 q101
              cases e101
              replace p101 := eq_true p101
              replace q101 := eq_true q101
              have p102 : 0 ≤ (x5_1 : Int) := of_decide_eq_true (by first | (with_reducible assumption) | assumption)
              have q102 : x5_1 < (l0.length : Int) := of_decide_eq_true (by first | (with_reducible assumption) | assumption)
              obtain ⟨ad102, e102, hx102_0, hx102_1, hx102_2⟩ := at_T36 HR0.out x5_1 p102 q102
              obtain rfl : ad101 = ad102 := (by injection e102)
              replace p102 := eq_true p102
              replace q102 := eq_true q102
              go_wp2
              go_roundg k1
              case measure => have := HK1.out; omega
              case rel => exact ⟨(wrap64 (x5_1 + 1)), (by first | rfl | (simp; done) | (simp [*]; done)), H', ⟨by have := HK1.out; omega⟩, by repeat (first | exact Drawn0.refl _ | apply Drawn0.step)⟩
          · rw [if_neg c5] at H
            have c5b0 : decide (((rd_T36 l0 x5_1).f1) ≤ a1) = false := decide_eq_false c5
            clear c5
            have H' := Aside0.mk H
            clear H
            have p101 : 0 ≤ (x5_1 : Int) := of_decide_eq_true (by first | (with_reducible assumption) | assumption)
            have q101 : x5_1 < (l0.length : Int) := of_decide_eq_true (by first | (with_reducible assumption) | assumption)
            obtain ⟨ad101, e101, hx101_0, hx101_1, hx101_2⟩ := at_T36 HR0.out x5_1 p101 q101
            cases e101
            replace p101 := eq_true p101
            replace q101 := eq_true q101
            go_wp2
            go_roundg k1
            case measure => have := HK1.out; omega
            case rel => exact ⟨(wrap64 (x5_1 + 1)), (by first | rfl | (simp; done) | (simp [*]; done)), H', ⟨by have := HK1.out; omega⟩, by repeat (first | exact Drawn0.refl _ | apply Drawn0.step)⟩
        · rw [if_neg c4] at H
          exact absurd H (by simp)
      · rw [if_neg c3] at H
        have c3b0 : decide (x5_1 < (l0.length : Int)) = false := decide_eq_false c3
        clear c3
        obtain rfl := Option.some.inj H
        go_wp2
        go_ret
        exact ⟨by first | rfl | (simp; done) | (simp [*]; done), by repeat (first | exact Drawn0.refl _ | apply Drawn0.step)⟩

end Go.Proofs.Ytfcpebjjcijgcaa.G
-- unicodetext/unicodetextlaw47.GroupsKeeps: by hand
namespace Go.Proofs.Ytfcpebjjcijgcaa.G
open Go.RowKit Go.Proofs.YtfcpebjjcijgcaaW.PrintWords Go.Proofs.YtfcpebjjcijgcaaW.PrintLast Go.Proofs.YtfcpebjjcijgcaaW.PrintMore
attribute [local go_sem] max2_int min2_int max_two min_two max_three min_three max_four min_four   -- for this text's walks alone
set_option linter.unusedVariables false
set_option linter.unusedSimpArgs false

-- BY HAND: function 6 (unicodetextlaw47_GroupsKeeps)
/-- What is asked of the groups of the two weights. -/
def keepsAt (G lo : List S36) (a b x y i j m : Int) : Prop := (i < 0 ∧ m < 0 ∧ x = a) ∨ (0 ≤ i ∧ i < (G.length : Int) ∧ 0 ≤ m ∧ m < (lo.length : Int) ∧ (rd_T36 lo m).f0 = (rd_T36 G i).f0 ∧ (i = j → wrap64 (y - x) = wrap64 (b - a)))
instance (G lo : List S36) (a b x y i j m : Int) : Decidable (keepsAt G lo a b x y i j m) := by unfold keepsAt; infer_instance
def unicodetextlaw47_GroupsKeeps.f (k : Nat) (l0_0 : List (S49)) (l0_1 : List (S36)) (a0_2 : Int) (a0_3 : Int) (a0_4 : Int) (l0_5 : List ByteArray) (a0_6 : Int) (a0_7 : Int) : Option (Bool) := (unicodetextlaw47_few.f k l0_0 l0_1 a0_2 a0_3 a0_4 l0_5).bind fun t => if t = true then (groups_Order.f k l0_0 l0_1 a0_2 a0_3 a0_4 l0_5).bind fun b => (groups_Move.f k l0_0 l0_1 a0_2 a0_3 a0_4 l0_5 a0_6).bind fun x => (groups_Move.f k l0_0 l0_1 a0_2 a0_3 a0_4 l0_5 a0_7).bind fun y => if (x == y) = (a0_6 == a0_7) then (if b.2 = 0 then (unicodetextlaw47_grouped.f k l0_1 a0_6).bind fun i => (unicodetextlaw47_grouped.f k l0_1 a0_7).bind fun j => (unicodetextlaw47_grouped.f k b.1 x).bind fun m => if keepsAt l0_1 b.1 a0_6 a0_7 x y i j m then unicodetextlaw47_alive.f k else none else (if x = a0_6 ∧ y = a0_7 then unicodetextlaw47_alive.f k else none)) else none else unicodetextlaw47_alive.f k
def unicodetextlaw47_GroupsKeeps.T4 : Bool × List (List Nat × List Nat) := (true, [([], []), ([0], [0]), ([], []), ([2], [2]), ([], []), ([4], [4]), ([1, 3, 5], [1, 3, 5]), ([], []), ([7], [7]), ([], []), ([9], [9]), ([], []), ([11], [11]), ([8, 10, 12, 6], [8, 10, 12]), ([6, 13, 0, 1, 2, 3, 4, 5, 6], [6]), ([13, 14, 0, 1, 2, 3, 4, 5, 6, 7, 8, 9, 10, 11, 12, 13, 14], [13])])
def unicodetextlaw47_GroupsKeeps.B4 : List Nat := [0, 1, 0, 4, 0, 16, 63, 0, 128, 0, 512, 0, 2048, 8191, 16383, 32767]
theorem unicodetextlaw47_GroupsKeeps.tab4 : rtab .any (opsOf Try.f6 4) = unicodetextlaw47_GroupsKeeps.T4 := by kernel_rfl
theorem unicodetextlaw47_GroupsKeeps.bits4 : waitsOk unicodetextlaw47_GroupsKeeps.T4.2 unicodetextlaw47_GroupsKeeps.B4 = true := by kernel_rfl
def unicodetextlaw47_GroupsKeeps.T9 : Bool × List (List Nat × List Nat) := (true, [([], []), ([0], [0]), ([1], [1]), ([], []), ([3], [3]), ([2, 4], [2, 4]), ([], []), ([6], [6]), ([7], [7]), ([], []), ([9], [9]), ([8, 10, 5], [8, 10]), ([5, 11, 0, 1, 2, 3, 4, 5], [5]), ([11, 12, 0, 1, 2, 3, 4, 5, 6, 7, 8, 9, 10, 11, 12], [11])])
def unicodetextlaw47_GroupsKeeps.B9 : List Nat := [0, 1, 3, 0, 8, 31, 0, 64, 192, 0, 512, 2047, 4095, 8191]
theorem unicodetextlaw47_GroupsKeeps.tab9 : rtab .any (opsOf Try.f6 9) = unicodetextlaw47_GroupsKeeps.T9 := by kernel_rfl
theorem unicodetextlaw47_GroupsKeeps.bits9 : waitsOk unicodetextlaw47_GroupsKeeps.T9.2 unicodetextlaw47_GroupsKeeps.B9 = true := by kernel_rfl
set_option maxHeartbeats 8000000 in
set_option maxRecDepth 100000 in
theorem unicodetextlaw47_GroupsKeeps.calls (k : Nat) (A0_0 : Option Addr) (c0_0 : Nat) (l0_0 : List (S49)) (A0_1 : Option Addr) (c0_1 : Nat) (l0_1 : List (S36)) (a0_2 : Int) (a0_3 : Int) (a0_4 : Int) (A0_5 : Option Addr) (c0_5 : Nat) (l0_5 : List ByteArray) (a0_6 : Int) (a0_7 : Int) (r : Bool) (w : World) (hr0_0 : Kd.C k49 w A0_0 l0_0.length l0_0) (hc0_0 : l0_0.length ≤ c0_0) (hr0_1 : Kd.C k36 w A0_1 l0_1.length l0_1) (hc0_1 : l0_1.length ≤ c0_1) (hr0_5 : Kd.C Kd.string w A0_5 l0_5.length l0_5) (hc0_5 : l0_5.length ≤ c0_5) (h : unicodetextlaw47_GroupsKeeps.f k l0_0 l0_1 a0_2 a0_3 a0_4 l0_5 a0_6 a0_7 = some r) :
    Calls Try.prog 6 #[.agg #[.slice A0_0 l0_0.length c0_0, .slice A0_1 l0_1.length c0_1, .int .i64 a0_2, .int .i64 a0_3, .int .i64 a0_4, .slice A0_5 l0_5.length c0_5, .int .i64 a0_6, .int .i64 a0_7]] w fun e w' => e = .returned (.bool r) ∧ Below w.heap.size w w' := by
  have hu38 := Try.underlying38
  have hu25 := Try.underlying25
  have HR0_0 := Aside0.mk hr0_0
  have HC0_0 := Aside0.mk hc0_0
  clear hr0_0 hc0_0
  have HR0_1 := Aside0.mk hr0_1
  have HC0_1 := Aside0.mk hc0_1
  clear hr0_1 hc0_1
  have HR0_5 := Aside0.mk hr0_5
  have HC0_5 := Aside0.mk hc0_5
  clear hr0_5 hc0_5
  have HB := Aside0.mk (Below.refl w.heap.size w)
  unfold unicodetextlaw47_GroupsKeeps.f at h
  obtain ⟨t102, A20, h⟩ := Option.bind_eq_some_iff.mp h
  have A2 := Aside0.mk A20
  clear A20
  cases t102 with
  | false =>
    rw [if_neg (by simp)] at h
    have HAL := Aside0.mk h
    clear h
    go_enter Try.func6, Try.ntmps6
    go_wp2_with fail
    have hb0 : Below w.heap.size w (w.alloc (.cells #[.slice A0_0 l0_0.length c0_0, .slice A0_1 l0_1.length c0_1, .int .i64 a0_2, .int .i64 a0_3, .int .i64 a0_4, .slice A0_5 l0_5.length c0_5, .int .i64 a0_6, .int .i64 a0_7] 38)) := below_alloc (Below.refl _ _) _
    refine (unicodetextlaw47_few.calls k _ _ l0_0 _ _ l0_1 a0_2 a0_3 a0_4 _ _ l0_5 false _ (Kd.C_below HR0_0.out hb0) HC0_0.out (Kd.C_below HR0_1.out hb0) HC0_1.out (Kd.C_below HR0_5.out hb0) HC0_5.out A2.out).mono ?_
    rintro e w1 ⟨rfl, hb1⟩
    have HB1 := Aside0.mk (below_step hb0 hb1)
    clear hb0 hb1
    go_wp2_with fail
    refine (unicodetextlaw47_alive.calls k r _ HAL.out).mono ?_
    rintro e w2 ⟨rfl, hb2⟩
    have HB2 := Aside0.mk (below_step HB1.out hb2)
    clear hb2
    go_wp2
    go_ret
    exact ⟨rfl, HB2.out⟩
  | true =>
    rw [if_pos rfl] at h
    obtain ⟨⟨t104, t107⟩, A40, h⟩ := Option.bind_eq_some_iff.mp h
    have A4 := Aside0.mk A40
    clear A40
    obtain ⟨t108, A50, h⟩ := Option.bind_eq_some_iff.mp h
    have A5 := Aside0.mk A50
    clear A50
    obtain ⟨t109, A60, h⟩ := Option.bind_eq_some_iff.mp h
    have A6 := Aside0.mk A60
    clear A60
    split at h
    case isFalse => cases h
    rename_i c7
    have c7b0 : ((t108 == t109) != (a0_6 == a0_7)) = false := by rw [c7]; simp
    have c7b1 : decide ((t108 == t109) = (a0_6 == a0_7)) = true := decide_eq_true c7
    have c7b2 : ((t108 == t109) == (a0_6 == a0_7)) = true := beq_iff_eq.mpr c7
    clear c7
    by_cases c17 : t107 = 0
    · subst c17
      have h : ((unicodetextlaw47_grouped.f k l0_1 a0_6).bind fun i => (unicodetextlaw47_grouped.f k l0_1 a0_7).bind fun j => (unicodetextlaw47_grouped.f k t104 t108).bind fun m => if keepsAt l0_1 t104 a0_6 a0_7 t108 t109 i j m then unicodetextlaw47_alive.f k else none) = some r := by rw [if_pos rfl] at h; exact h
      have c17b0 : ((0 : Int) == 0) = true := rfl
      have c17b1 : ((0 : Int) != 0) = false := rfl
      obtain ⟨t111, A180, h⟩ := Option.bind_eq_some_iff.mp h
      have A18 := Aside0.mk A180
      clear A180
      obtain ⟨t112, A190, h⟩ := Option.bind_eq_some_iff.mp h
      have A19 := Aside0.mk A190
      clear A190
      obtain ⟨t113, A200, h⟩ := Option.bind_eq_some_iff.mp h
      have A20 := Aside0.mk A200
      clear A200
      split at h
      case isFalse => cases h
      rename_i hkeep
      have HKEEP := Aside0.mk hkeep
      have HAL := Aside0.mk h
      clear hkeep h
      go_enter Try.func6, Try.ntmps6
      try go_wp2_with (first | ((with_reducible refine gate_dst (N := 1) rfl ?_); refine box_event ?hg (N := 1) ?hd (cs := #[.slice A0_0 l0_0.length c0_0, .slice A0_1 l0_1.length c0_1, .int .i64 a0_2, .int .i64 a0_3, .int .i64 a0_4, .slice A0_5 l0_5.length c0_5, .int .i64 a0_6, .int .i64 a0_7]) (t := 38) ?hr ?_; (case hd => rfl); (case hg => rfl); (case hr => first | (go_simp; done) | (go_simp; rfl)); intro gb101 hg w22 hbox hb; have n0_ := Aside0.mk (below_step (by repeat (first | (with_reducible first | exact HB.out | apply below_alloc | apply pw_below_drewN | apply below_drew1) | exact HB.out)) hb); have n1_ := Aside0.mk (hbox); have n2_ := Aside0.mk ((by rw [hg]; exact (below_size (by repeat (first | (with_reducible first | exact HB.out | apply below_alloc | apply pw_below_drewN | apply below_drew1) | exact HB.out))) : w.heap.size ≤ gb101)); have n3_ := Aside0.mk ((by rw [hg]; exact (below_size (by repeat (first | (with_reducible first | exact HB.out | apply below_alloc | apply pw_below_drewN | apply below_drew1) | exact HB.out))) : w.heap.size ≤ gb101)); clear HB; have HB := n0_; have BK101 := n1_; have GW101 := n2_; have GE101 := n3_; clear n0_ n1_ n2_ n3_; clear hb hbox hg; have hcz23_0 : w22.cell? ⟨gb101, 0, none⟩ = some (.slice A0_0 l0_0.length c0_0) := (blk_cell BK101.out 0).trans rfl; have hcz23_1 : w22.cell? ⟨gb101, 1, none⟩ = some (.slice A0_1 l0_1.length c0_1) := (blk_cell BK101.out 1).trans rfl; have hcz23_2 : w22.cell? ⟨gb101, 2, none⟩ = some (.int .i64 a0_2) := (blk_cell BK101.out 2).trans rfl; have hcz23_3 : w22.cell? ⟨gb101, 3, none⟩ = some (.int .i64 a0_3) := (blk_cell BK101.out 3).trans rfl; have hcz23_4 : w22.cell? ⟨gb101, 4, none⟩ = some (.int .i64 a0_4) := (blk_cell BK101.out 4).trans rfl; have hcz23_5 : w22.cell? ⟨gb101, 5, none⟩ = some (.slice A0_5 l0_5.length c0_5) := (blk_cell BK101.out 5).trans rfl; have hcz23_6 : w22.cell? ⟨gb101, 6, none⟩ = some (.int .i64 a0_6) := (blk_cell BK101.out 6).trans rfl; have hcz23_7 : w22.cell? ⟨gb101, 7, none⟩ = some (.int .i64 a0_7) := (blk_cell BK101.out 7).trans rfl; have hfz23_0 := blk_frozen BK101.out 0; have hfz23_1 := blk_frozen BK101.out 1; have hfz23_2 := blk_frozen BK101.out 2; have hfz23_3 := blk_frozen BK101.out 3; have hfz23_4 := blk_frozen BK101.out 4; have hfz23_5 := blk_frozen BK101.out 5; have hfz23_6 := blk_frozen BK101.out 6; have hfz23_7 := blk_frozen BK101.out 7) | ((with_reducible refine gate_callee (f := 10) rfl ?_); refine goesL_ (some 14) rfl rfl Try.func10 (by kernel_rfl) rfl #[.agg #[.slice A0_0 l0_0.length c0_0, .slice A0_1 l0_1.length c0_1, .int .i64 a0_2, .int .i64 a0_3, .int .i64 a0_4], .slice A0_5 l0_5.length c0_5] rfl (by (try simp only [List.map_toArray, List.map_cons, List.map_nil]); first | done | rfl | (simp only [List.length_drop, List.length_take]; rfl)) ?_; (with_reducible refine (unicodetextlaw47_few.calls k _ _ l0_0 _ _ l0_1 a0_2 a0_3 a0_4 _ _ l0_5 true _ ?side1 ?side2 ?side3 ?side4 ?side5 ?side6 A2.out).mono ?_); (case side1 => repeat (first | exact (Kd.C_below HR0_0.out HB.out) | (with_reducible refine Kd.C_alloc ?_ _) | (with_reducible refine Kd.C_drewN ?_ _) | (with_reducible refine Kd.C_drew ?_))); (case side2 => exact HC0_0.out); (case side3 => repeat (first | exact (Kd.C_below HR0_1.out HB.out) | (with_reducible refine Kd.C_alloc ?_ _) | (with_reducible refine Kd.C_drewN ?_ _) | (with_reducible refine Kd.C_drew ?_))); (case side4 => exact HC0_1.out); (case side5 => repeat (first | exact (Kd.C_below HR0_5.out HB.out) | (with_reducible refine Kd.C_alloc ?_ _) | (with_reducible refine Kd.C_drewN ?_ _) | (with_reducible refine Kd.C_drew ?_))); (case side6 => exact HC0_5.out); rintro e w24 ⟨rfl, hb⟩; refine ⟨_, rfl, ?_⟩; have n0_ := Aside0.mk (blk_below (g := gb101) (o := .cells #[.slice A0_0 l0_0.length c0_0, .slice A0_1 l0_1.length c0_1, .int .i64 a0_2, .int .i64 a0_3, .int .i64 a0_4, .slice A0_5 l0_5.length c0_5, .int .i64 a0_6, .int .i64 a0_7] 38 (0, 0)) (by (with_reducible repeat (first | refine blk_drewN ?_ _ | refine blk_drew ?_ | refine blk_alloc ?_ _)); exact BK101.out) hb); have n1_ := Aside0.mk (below_step (by repeat (first | (with_reducible first | exact HB.out | apply below_alloc | apply pw_below_drewN | apply below_drew1 | refine below_set ?_ GE101.out) | exact HB.out)) hb); clear BK101; clear HB; have BK101 := n0_; have HB := n1_; clear n0_ n1_; (try clear hb); (try clear hb2); (try clear hk); (try clear hi); have hcz25_0 : w24.cell? ⟨gb101, 0, none⟩ = some (.slice A0_0 l0_0.length c0_0) := (blk_cell BK101.out 0).trans rfl; have hcz25_1 : w24.cell? ⟨gb101, 1, none⟩ = some (.slice A0_1 l0_1.length c0_1) := (blk_cell BK101.out 1).trans rfl; have hcz25_2 : w24.cell? ⟨gb101, 2, none⟩ = some (.int .i64 a0_2) := (blk_cell BK101.out 2).trans rfl; have hcz25_3 : w24.cell? ⟨gb101, 3, none⟩ = some (.int .i64 a0_3) := (blk_cell BK101.out 3).trans rfl; have hcz25_4 : w24.cell? ⟨gb101, 4, none⟩ = some (.int .i64 a0_4) := (blk_cell BK101.out 4).trans rfl; have hcz25_5 : w24.cell? ⟨gb101, 5, none⟩ = some (.slice A0_5 l0_5.length c0_5) := (blk_cell BK101.out 5).trans rfl; have hcz25_6 : w24.cell? ⟨gb101, 6, none⟩ = some (.int .i64 a0_6) := (blk_cell BK101.out 6).trans rfl; have hcz25_7 : w24.cell? ⟨gb101, 7, none⟩ = some (.int .i64 a0_7) := (blk_cell BK101.out 7).trans rfl; have hfz25_0 := blk_frozen BK101.out 0; have hfz25_1 := blk_frozen BK101.out 1; have hfz25_2 := blk_frozen BK101.out 2; have hfz25_3 := blk_frozen BK101.out 3; have hfz25_4 := blk_frozen BK101.out 4; have hfz25_5 := blk_frozen BK101.out 5; have hfz25_6 := blk_frozen BK101.out 6; have hfz25_7 := blk_frozen BK101.out 7) | ((with_reducible refine gate_callee (f := 12) rfl ?_); refine goesL_ (some 22) rfl rfl Try.func12 (by kernel_rfl) rfl #[.agg #[.slice A0_0 l0_0.length c0_0, .slice A0_1 l0_1.length c0_1, .int .i64 a0_2, .int .i64 a0_3, .int .i64 a0_4], .slice A0_5 l0_5.length c0_5] rfl (by (try simp only [List.map_toArray, List.map_cons, List.map_nil]); first | done | rfl | (simp only [List.length_drop, List.length_take]; rfl)) ?_; (with_reducible refine (groups_Order.calls k _ _ l0_0 _ _ l0_1 a0_2 a0_3 a0_4 _ _ l0_5 t104 (0 : Int) _ ?side1 ?side2 ?side3 ?side4 ?side5 ?side6 A4.out).mono ?_); (case side1 => repeat (first | exact (Kd.C_below HR0_0.out HB.out) | (with_reducible refine Kd.C_alloc ?_ _) | (with_reducible refine Kd.C_drewN ?_ _) | (with_reducible refine Kd.C_drew ?_))); (case side2 => exact HC0_0.out); (case side3 => repeat (first | exact (Kd.C_below HR0_1.out HB.out) | (with_reducible refine Kd.C_alloc ?_ _) | (with_reducible refine Kd.C_drewN ?_ _) | (with_reducible refine Kd.C_drew ?_))); (case side4 => exact HC0_1.out); (case side5 => repeat (first | exact (Kd.C_below HR0_5.out HB.out) | (with_reducible refine Kd.C_alloc ?_ _) | (with_reducible refine Kd.C_drewN ?_ _) | (with_reducible refine Kd.C_drew ?_))); (case side6 => exact HC0_5.out); rintro e w26 ⟨v105, rfl, ho0, hb⟩; refine ⟨_, rfl, ?_⟩; have n0_ := Aside0.mk (Kd.R_lower ho0 (below_size (by repeat (first | (with_reducible first | exact HB.out | apply below_alloc | apply pw_below_drewN | apply below_drew1 | refine below_set ?_ GE101.out) | exact HB.out)))); have n1_ := Aside0.mk (blk_below (g := gb101) (o := .cells #[.slice A0_0 l0_0.length c0_0, .slice A0_1 l0_1.length c0_1, .int .i64 a0_2, .int .i64 a0_3, .int .i64 a0_4, .slice A0_5 l0_5.length c0_5, .int .i64 a0_6, .int .i64 a0_7] 38 (0, 0)) (by (with_reducible repeat (first | refine blk_drewN ?_ _ | refine blk_drew ?_ | refine blk_alloc ?_ _)); exact BK101.out) hb); have n2_ := Aside0.mk (below_step (by repeat (first | (with_reducible first | exact HB.out | apply below_alloc | apply pw_below_drewN | apply below_drew1 | refine below_set ?_ GE101.out) | exact HB.out)) hb); clear BK101; clear HB; have HO106 := n0_; have BK101 := n1_; have HB := n2_; clear n0_ n1_ n2_; (try clear hb); (try clear hb2); (try clear hk); (try clear hi); (try clear ho0)))
      have n0_ := Aside0.mk (Kd.R_drew HO106.out)
      have n1_ := Aside0.mk (blk_drew BK101.out)
      have n2_ := Aside0.mk (below_drew1 HB.out)
      clear HO106
      clear BK101
      clear HB
      have HO106 := n0_
      have BK101 := n1_
      have HB := n2_
      clear n0_ n1_ n2_
      refine start_ (n := 16) (S := fun w' => w'.cell? ⟨gb101, 0, none⟩ = some (.slice A0_0 l0_0.length c0_0) ∧ w'.cell? ⟨gb101, 1, none⟩ = some (.slice A0_1 l0_1.length c0_1) ∧ w'.cell? ⟨gb101, 2, none⟩ = some (.int .i64 a0_2) ∧ w'.cell? ⟨gb101, 3, none⟩ = some (.int .i64 a0_3) ∧ w'.cell? ⟨gb101, 4, none⟩ = some (.int .i64 a0_4) ∧ w'.cell? ⟨gb101, 5, none⟩ = some (.slice A0_5 l0_5.length c0_5) ∧ w'.cell? ⟨gb101, 6, none⟩ = some (.int .i64 a0_6) ∧ w'.cell? ⟨gb101, 7, none⟩ = some (.int .i64 a0_7)) (ds := []) #[false, false, false, false, false, false, false, false, false, false, false, false, false, false, false, false] (by kernel_rfl) rfl rfl ⟨(blk_cell BK101.out 0).trans rfl, (blk_cell BK101.out 1).trans rfl, (blk_cell BK101.out 2).trans rfl, (blk_cell BK101.out 3).trans rfl, (blk_cell BK101.out 4).trans rfl, (blk_cell BK101.out 5).trans rfl, (blk_cell BK101.out 6).trans rfl, (blk_cell BK101.out 7).trans rfl⟩ (fun hHeld => ?_); refine with_tabW unicodetextlaw47_GroupsKeeps.tab4 unicodetextlaw47_GroupsKeeps.bits4 (fun HT_ HW_ => ?_)
      generalize w26.drew = w27 at HO106 BK101 HB hHeld ⊢
      refine pure_ (i := 0) (N := some 25) (v := ?_) (a' := ?_) #[true, false, false, false, false, false, false, false, false, false, false, false, false, false, false, false] rfl rfl (any_of HT_.out (by kernel_rfl)) (fun _ _ _ h => h) (Or.inl ⟨by rfl, ?_⟩) ?_ ?_
      rotate_left
      · intro w'
        go_simp
        with_reducible rfl
      rotate_left
      · simp only [Act.put, List.setIfInBounds_toArray, List.set_cons_zero, List.set_cons_succ, i64_w, i32_w]
        rfl
      refine pure_ (i := 2) (N := some 27) (v := ?_) (a' := ?_) #[true, false, true, false, false, false, false, false, false, false, false, false, false, false, false, false] rfl rfl (any_of HT_.out (by kernel_rfl)) (fun _ _ _ h => h) (Or.inl ⟨by rfl, ?_⟩) ?_ ?_
      rotate_left
      · intro w'
        go_simp
        with_reducible rfl
      rotate_left
      · simp only [Act.put, List.setIfInBounds_toArray, List.set_cons_zero, List.set_cons_succ, i64_w, i32_w]
        rfl
      refine pure_ (i := 4) (N := some 29) (v := ?_) (a' := ?_) #[true, false, true, false, true, false, false, false, false, false, false, false, false, false, false, false] rfl rfl (any_of HT_.out (by kernel_rfl)) (fun _ _ _ h => h) (Or.inl ⟨by rfl, ?_⟩) ?_ ?_
      rotate_left
      · intro w'
        go_simp
        with_reducible rfl
      rotate_left
      · simp only [Act.put, List.setIfInBounds_toArray, List.set_cons_zero, List.set_cons_succ, i64_w, i32_w]
        rfl
      refine pure_ (i := 7) (N := some 32) (v := ?_) (a' := ?_) #[true, false, true, false, true, false, false, true, false, false, false, false, false, false, false, false] rfl rfl (any_of HT_.out (by kernel_rfl)) (fun _ _ _ h => h) (Or.inl ⟨by rfl, ?_⟩) ?_ ?_
      rotate_left
      · intro w'
        go_simp
        with_reducible rfl
      rotate_left
      · simp only [Act.put, List.setIfInBounds_toArray, List.set_cons_zero, List.set_cons_succ, i64_w, i32_w]
        rfl
      refine pure_ (i := 9) (N := some 34) (v := ?_) (a' := ?_) #[true, false, true, false, true, false, false, true, false, true, false, false, false, false, false, false] rfl rfl (any_of HT_.out (by kernel_rfl)) (fun _ _ _ h => h) (Or.inl ⟨by rfl, ?_⟩) ?_ ?_
      rotate_left
      · intro w'
        go_simp
        with_reducible rfl
      rotate_left
      · simp only [Act.put, List.setIfInBounds_toArray, List.set_cons_zero, List.set_cons_succ, i64_w, i32_w]
        rfl
      refine pure_ (i := 11) (N := some 36) (v := ?_) (a' := ?_) #[true, false, true, false, true, false, false, true, false, true, false, true, false, false, false, false] rfl rfl (any_of HT_.out (by kernel_rfl)) (fun _ _ _ h => h) (Or.inl ⟨by rfl, ?_⟩) ?_ ?_
      rotate_left
      · intro w'
        go_simp
        with_reducible rfl
      rotate_left
      · simp only [Act.put, List.setIfInBounds_toArray, List.set_cons_zero, List.set_cons_succ, i64_w, i32_w]
        rfl
      refine take_ (i := 1) (N := some 26) (v := ?_) (a' := ?_) #[true, true, true, false, true, false, false, true, false, true, false, true, false, false, false, false] rfl rfl (take_ofW HT_.out HW_.out (by kernel_rfl)) (fun _ _ _ h => h) (Or.inl ⟨by rfl, ?_⟩) hHeld ?_ ?_
      rotate_left
      · rintro w' ⟨s0, s1, s2, s3, s4, s5, s6, s7⟩
        go_simp
        with_reducible rfl
      rotate_left
      · simp only [Act.put, List.setIfInBounds_toArray, List.set_cons_zero, List.set_cons_succ, i64_w, i32_w]
        rfl
      refine take_ (i := 3) (N := some 28) (v := ?_) (a' := ?_) #[true, true, true, true, true, false, false, true, false, true, false, true, false, false, false, false] rfl rfl (take_ofW HT_.out HW_.out (by kernel_rfl)) (fun _ _ _ h => h) (Or.inl ⟨by rfl, ?_⟩) hHeld ?_ ?_
      rotate_left
      · rintro w' ⟨s0, s1, s2, s3, s4, s5, s6, s7⟩
        go_simp
        with_reducible rfl
      rotate_left
      · simp only [Act.put, List.setIfInBounds_toArray, List.set_cons_zero, List.set_cons_succ, i64_w, i32_w]
        rfl
      refine take_ (i := 5) (N := some 30) (v := ?_) (a' := ?_) #[true, true, true, true, true, true, false, true, false, true, false, true, false, false, false, false] rfl rfl (take_ofW HT_.out HW_.out (by kernel_rfl)) (fun _ _ _ h => h) (Or.inl ⟨by rfl, ?_⟩) hHeld ?_ ?_
      rotate_left
      · rintro w' ⟨s0, s1, s2, s3, s4, s5, s6, s7⟩
        go_simp
        with_reducible rfl
      rotate_left
      · simp only [Act.put, List.setIfInBounds_toArray, List.set_cons_zero, List.set_cons_succ, i64_w, i32_w]
        rfl
      refine take_ (i := 8) (N := some 33) (v := ?_) (a' := ?_) #[true, true, true, true, true, true, false, true, true, true, false, true, false, false, false, false] rfl rfl (take_ofW HT_.out HW_.out (by kernel_rfl)) (fun _ _ _ h => h) (Or.inl ⟨by rfl, ?_⟩) hHeld ?_ ?_
      rotate_left
      · rintro w' ⟨s0, s1, s2, s3, s4, s5, s6, s7⟩
        go_simp
        with_reducible rfl
      rotate_left
      · simp only [Act.put, List.setIfInBounds_toArray, List.set_cons_zero, List.set_cons_succ, i64_w, i32_w]
        rfl
      refine take_ (i := 10) (N := some 35) (v := ?_) (a' := ?_) #[true, true, true, true, true, true, false, true, true, true, true, true, false, false, false, false] rfl rfl (take_ofW HT_.out HW_.out (by kernel_rfl)) (fun _ _ _ h => h) (Or.inl ⟨by rfl, ?_⟩) hHeld ?_ ?_
      rotate_left
      · rintro w' ⟨s0, s1, s2, s3, s4, s5, s6, s7⟩
        go_simp
        with_reducible rfl
      rotate_left
      · simp only [Act.put, List.setIfInBounds_toArray, List.set_cons_zero, List.set_cons_succ, i64_w, i32_w]
        rfl
      refine take_ (i := 12) (N := some 37) (v := ?_) (a' := ?_) #[true, true, true, true, true, true, false, true, true, true, true, true, true, false, false, false] rfl rfl (take_ofW HT_.out HW_.out (by kernel_rfl)) (fun _ _ _ h => h) (Or.inl ⟨by rfl, ?_⟩) hHeld ?_ ?_
      rotate_left
      · rintro w' ⟨s0, s1, s2, s3, s4, s5, s6, s7⟩
        go_simp
        with_reducible rfl
      rotate_left
      · simp only [Act.put, List.setIfInBounds_toArray, List.set_cons_zero, List.set_cons_succ, i64_w, i32_w]
        rfl
      refine one_ (i := 6) (N := some 31) #[true, true, true, true, true, true, true, true, true, true, true, true, true, false, false, false] rfl rfl (one_of HT_.out (by kernel_rfl)) (by decide) (fun K hK => ?_)
      refine goes_ Try.func15 (by kernel_rfl) rfl #[.agg #[.slice A0_0 l0_0.length c0_0, .slice A0_1 l0_1.length c0_1, .int .i64 a0_2, .int .i64 a0_3, .int .i64 a0_4], .slice A0_5 l0_5.length c0_5, .int .i64 a0_6] (by rfl) rfl rfl (by (try simp only [List.map_toArray, List.map_cons, List.map_nil]); first | done | rfl | (simp only [List.length_drop, List.length_take]; rfl)) ?_
      with_reducible refine (groups_Move.calls k _ _ l0_0 _ _ l0_1 a0_2 a0_3 a0_4 _ _ l0_5 a0_6 t108 _ ?side1 ?side2 ?side3 ?side4 ?side5 ?side6 A5.out).mono ?_
      (case side1 => repeat (first | exact (Kd.C_below HR0_0.out HB.out) | (with_reducible refine Kd.C_alloc ?_ _) | (with_reducible refine Kd.C_drewN ?_ _) | (with_reducible refine Kd.C_drew ?_)))
      (case side2 => exact HC0_0.out)
      (case side3 => repeat (first | exact (Kd.C_below HR0_1.out HB.out) | (with_reducible refine Kd.C_alloc ?_ _) | (with_reducible refine Kd.C_drewN ?_ _) | (with_reducible refine Kd.C_drew ?_)))
      (case side4 => exact HC0_1.out)
      (case side5 => repeat (first | exact (Kd.C_below HR0_5.out HB.out) | (with_reducible refine Kd.C_alloc ?_ _) | (with_reducible refine Kd.C_drewN ?_ _) | (with_reducible refine Kd.C_drew ?_)))
      (case side6 => exact HC0_5.out)
      rintro e w28 ⟨rfl, hb⟩
      refine ⟨_, rfl, ?_⟩
      have n0_ := Aside0.mk (Kd.R_below (by (with_reducible repeat (first | apply Kd.R_alloc | apply Kd.R_drewN | apply Kd.R_drew)); exact HO106.out) hb)
      have n1_ := Aside0.mk (blk_below (g := gb101) (o := .cells #[.slice A0_0 l0_0.length c0_0, .slice A0_1 l0_1.length c0_1, .int .i64 a0_2, .int .i64 a0_3, .int .i64 a0_4, .slice A0_5 l0_5.length c0_5, .int .i64 a0_6, .int .i64 a0_7] 38 (0, 0)) (by (with_reducible repeat (first | refine blk_drewN ?_ _ | refine blk_drew ?_ | refine blk_alloc ?_ _)); exact BK101.out) hb)
      have n2_ := Aside0.mk (below_step (by repeat (first | (with_reducible first | exact HB.out | apply below_alloc | apply pw_below_drewN | apply below_drew1 | refine below_set ?_ GE101.out) | exact HB.out)) hb)
      clear HO106
      clear BK101
      clear HB
      have HO106 := n0_
      have BK101 := n1_
      have HB := n2_
      clear n0_ n1_ n2_
      (try clear hb)
      (try clear hb2)
      (try clear hk)
      (try clear hi)
      refine hK.out _ _ ⟨(blk_cell BK101.out 0).trans rfl, (blk_cell BK101.out 1).trans rfl, (blk_cell BK101.out 2).trans rfl, (blk_cell BK101.out 3).trans rfl, (blk_cell BK101.out 4).trans rfl, (blk_cell BK101.out 5).trans rfl, (blk_cell BK101.out 6).trans rfl, (blk_cell BK101.out 7).trans rfl⟩ (fun hHeld => ?_)
      clear hK K
      refine norm_ (a' := ?_) ?_ ?_
      rotate_left
      · show Act.put _ (some 31) _ = _
        simp only [Act.put, List.setIfInBounds_toArray, List.set_cons_zero, List.set_cons_succ, i64_w, i32_w]
        rfl
      refine one_ (i := 13) (N := some 38) #[true, true, true, true, true, true, true, true, true, true, true, true, true, true, false, false] rfl rfl (one_of HT_.out (by kernel_rfl)) (by decide) (fun K hK => ?_)
      refine goes_ Try.func15 (by kernel_rfl) rfl #[.agg #[.slice A0_0 l0_0.length c0_0, .slice A0_1 l0_1.length c0_1, .int .i64 a0_2, .int .i64 a0_3, .int .i64 a0_4], .slice A0_5 l0_5.length c0_5, .int .i64 a0_7] (by rfl) rfl rfl (by (try simp only [List.map_toArray, List.map_cons, List.map_nil]); first | done | rfl | (simp only [List.length_drop, List.length_take]; rfl)) ?_
      with_reducible refine (groups_Move.calls k _ _ l0_0 _ _ l0_1 a0_2 a0_3 a0_4 _ _ l0_5 a0_7 t109 _ ?side1 ?side2 ?side3 ?side4 ?side5 ?side6 A6.out).mono ?_
      (case side1 => repeat (first | exact (Kd.C_below HR0_0.out HB.out) | (with_reducible refine Kd.C_alloc ?_ _) | (with_reducible refine Kd.C_drewN ?_ _) | (with_reducible refine Kd.C_drew ?_)))
      (case side2 => exact HC0_0.out)
      (case side3 => repeat (first | exact (Kd.C_below HR0_1.out HB.out) | (with_reducible refine Kd.C_alloc ?_ _) | (with_reducible refine Kd.C_drewN ?_ _) | (with_reducible refine Kd.C_drew ?_)))
      (case side4 => exact HC0_1.out)
      (case side5 => repeat (first | exact (Kd.C_below HR0_5.out HB.out) | (with_reducible refine Kd.C_alloc ?_ _) | (with_reducible refine Kd.C_drewN ?_ _) | (with_reducible refine Kd.C_drew ?_)))
      (case side6 => exact HC0_5.out)
      rintro e w29 ⟨rfl, hb⟩
      refine ⟨_, rfl, ?_⟩
      have n0_ := Aside0.mk (Kd.R_below (by (with_reducible repeat (first | apply Kd.R_alloc | apply Kd.R_drewN | apply Kd.R_drew)); exact HO106.out) hb)
      have n1_ := Aside0.mk (blk_below (g := gb101) (o := .cells #[.slice A0_0 l0_0.length c0_0, .slice A0_1 l0_1.length c0_1, .int .i64 a0_2, .int .i64 a0_3, .int .i64 a0_4, .slice A0_5 l0_5.length c0_5, .int .i64 a0_6, .int .i64 a0_7] 38 (0, 0)) (by (with_reducible repeat (first | refine blk_drewN ?_ _ | refine blk_drew ?_ | refine blk_alloc ?_ _)); exact BK101.out) hb)
      have n2_ := Aside0.mk (below_step (by repeat (first | (with_reducible first | exact HB.out | apply below_alloc | apply pw_below_drewN | apply below_drew1 | refine below_set ?_ GE101.out) | exact HB.out)) hb)
      clear HO106
      clear BK101
      clear HB
      have HO106 := n0_
      have BK101 := n1_
      have HB := n2_
      clear n0_ n1_ n2_
      (try clear hb)
      (try clear hb2)
      (try clear hk)
      (try clear hi)
      refine hK.out _ _ ⟨(blk_cell BK101.out 0).trans rfl, (blk_cell BK101.out 1).trans rfl, (blk_cell BK101.out 2).trans rfl, (blk_cell BK101.out 3).trans rfl, (blk_cell BK101.out 4).trans rfl, (blk_cell BK101.out 5).trans rfl, (blk_cell BK101.out 6).trans rfl, (blk_cell BK101.out 7).trans rfl⟩ (fun hHeld => ?_)
      clear hK K
      refine norm_ (a' := ?_) ?_ ?_
      rotate_left
      · show Act.put _ (some 38) _ = _
        simp only [Act.put, List.setIfInBounds_toArray, List.set_cons_zero, List.set_cons_succ, i64_w, i32_w]
        rfl
      refine pure_ (i := 14) (N := some 5) (v := ?_) (a' := ?_) #[true, true, true, true, true, true, true, true, true, true, true, true, true, true, true, false] rfl rfl (any_of HT_.out (by kernel_rfl)) (fun _ _ _ h => h) (Or.inl ⟨by rfl, ?_⟩) ?_ ?_
      rotate_left
      · intro w'
        go_simp
        with_reducible rfl
      rotate_left
      · simp only [Act.put, List.setIfInBounds_toArray, List.set_cons_zero, List.set_cons_succ, i64_w, i32_w]
        rfl
      refine pure_ (i := 15) (N := some 6) (v := ?_) (a' := ?_) #[true, true, true, true, true, true, true, true, true, true, true, true, true, true, true, true] rfl rfl (any_of HT_.out (by kernel_rfl)) (fun _ _ _ h => h) (Or.inl ⟨by rfl, ?_⟩) ?_ ?_
      rotate_left
      · intro w'
        go_simp
        with_reducible rfl
      rotate_left
      · simp only [Act.put, List.setIfInBounds_toArray, List.set_cons_zero, List.set_cons_succ, i64_w, i32_w]
        rfl
      refine done_ (done_of HT_.out (by kernel_rfl)) ?_
      have hcz30_0 : w29.cell? ⟨gb101, 0, none⟩ = some (.slice A0_0 l0_0.length c0_0) := (blk_cell BK101.out 0).trans rfl
      have hcz30_1 : w29.cell? ⟨gb101, 1, none⟩ = some (.slice A0_1 l0_1.length c0_1) := (blk_cell BK101.out 1).trans rfl
      have hcz30_2 : w29.cell? ⟨gb101, 2, none⟩ = some (.int .i64 a0_2) := (blk_cell BK101.out 2).trans rfl
      have hcz30_3 : w29.cell? ⟨gb101, 3, none⟩ = some (.int .i64 a0_3) := (blk_cell BK101.out 3).trans rfl
      have hcz30_4 : w29.cell? ⟨gb101, 4, none⟩ = some (.int .i64 a0_4) := (blk_cell BK101.out 4).trans rfl
      have hcz30_5 : w29.cell? ⟨gb101, 5, none⟩ = some (.slice A0_5 l0_5.length c0_5) := (blk_cell BK101.out 5).trans rfl
      have hcz30_6 : w29.cell? ⟨gb101, 6, none⟩ = some (.int .i64 a0_6) := (blk_cell BK101.out 6).trans rfl
      have hcz30_7 : w29.cell? ⟨gb101, 7, none⟩ = some (.int .i64 a0_7) := (blk_cell BK101.out 7).trans rfl
      have hfz30_0 := blk_frozen BK101.out 0
      have hfz30_1 := blk_frozen BK101.out 1
      have hfz30_2 := blk_frozen BK101.out 2
      have hfz30_3 := blk_frozen BK101.out 3
      have hfz30_4 := blk_frozen BK101.out 4
      have hfz30_5 := blk_frozen BK101.out 5
      have hfz30_6 := blk_frozen BK101.out 6
      have hfz30_7 := blk_frozen BK101.out 7
      try go_wp2
      have n0_ := Aside0.mk (Kd.R_drew HO106.out)
      have n1_ := Aside0.mk (blk_drew BK101.out)
      have n2_ := Aside0.mk (below_drew1 HB.out)
      clear HO106
      clear BK101
      clear HB
      have HO106 := n0_
      have BK101 := n1_
      have HB := n2_
      clear n0_ n1_ n2_
      refine start_ (n := 14) (S := fun w' => w'.cell? ⟨gb101, 0, none⟩ = some (.slice A0_0 l0_0.length c0_0) ∧ w'.cell? ⟨gb101, 1, none⟩ = some (.slice A0_1 l0_1.length c0_1) ∧ w'.cell? ⟨gb101, 2, none⟩ = some (.int .i64 a0_2) ∧ w'.cell? ⟨gb101, 3, none⟩ = some (.int .i64 a0_3) ∧ w'.cell? ⟨gb101, 4, none⟩ = some (.int .i64 a0_4) ∧ w'.cell? ⟨gb101, 5, none⟩ = some (.slice A0_5 l0_5.length c0_5) ∧ w'.cell? ⟨gb101, 6, none⟩ = some (.int .i64 a0_6) ∧ w'.cell? ⟨gb101, 7, none⟩ = some (.int .i64 a0_7)) (ds := []) #[false, false, false, false, false, false, false, false, false, false, false, false, false, false] (by kernel_rfl) rfl rfl ⟨(blk_cell BK101.out 0).trans rfl, (blk_cell BK101.out 1).trans rfl, (blk_cell BK101.out 2).trans rfl, (blk_cell BK101.out 3).trans rfl, (blk_cell BK101.out 4).trans rfl, (blk_cell BK101.out 5).trans rfl, (blk_cell BK101.out 6).trans rfl, (blk_cell BK101.out 7).trans rfl⟩ (fun hHeld => ?_); refine with_tabW unicodetextlaw47_GroupsKeeps.tab9 unicodetextlaw47_GroupsKeeps.bits9 (fun HT_ HW_ => ?_)
      generalize w29.drew = w31 at HO106 BK101 HB hHeld ⊢
      refine pure_ (i := 0) (N := some 63) (v := ?_) (a' := ?_) #[true, false, false, false, false, false, false, false, false, false, false, false, false, false] rfl rfl (any_of HT_.out (by kernel_rfl)) (fun _ _ _ h => h) (Or.inl ⟨by rfl, ?_⟩) ?_ ?_
      rotate_left
      · intro w'
        go_simp
        with_reducible rfl
      rotate_left
      · simp only [Act.put, List.setIfInBounds_toArray, List.set_cons_zero, List.set_cons_succ, i64_w, i32_w]
        rfl
      refine pure_ (i := 1) (N := some 64) (v := ?_) (a' := ?_) #[true, true, false, false, false, false, false, false, false, false, false, false, false, false] rfl rfl (any_of HT_.out (by kernel_rfl)) (fun _ _ _ h => h) (Or.inl ⟨by rfl, ?_⟩) ?_ ?_
      rotate_left
      · intro w'
        go_simp
        with_reducible rfl
      rotate_left
      · simp only [Act.put, List.setIfInBounds_toArray, List.set_cons_zero, List.set_cons_succ, i64_w, i32_w]
        rfl
      refine pure_ (i := 3) (N := some 66) (v := ?_) (a' := ?_) #[true, true, false, true, false, false, false, false, false, false, false, false, false, false] rfl rfl (any_of HT_.out (by kernel_rfl)) (fun _ _ _ h => h) (Or.inl ⟨by rfl, ?_⟩) ?_ ?_
      rotate_left
      · intro w'
        go_simp
        with_reducible rfl
      rotate_left
      · simp only [Act.put, List.setIfInBounds_toArray, List.set_cons_zero, List.set_cons_succ, i64_w, i32_w]
        rfl
      refine pure_ (i := 6) (N := some 69) (v := ?_) (a' := ?_) #[true, true, false, true, false, false, true, false, false, false, false, false, false, false] rfl rfl (any_of HT_.out (by kernel_rfl)) (fun _ _ _ h => h) (Or.inl ⟨by rfl, ?_⟩) ?_ ?_
      rotate_left
      · intro w'
        go_simp
        with_reducible rfl
      rotate_left
      · simp only [Act.put, List.setIfInBounds_toArray, List.set_cons_zero, List.set_cons_succ, i64_w, i32_w]
        rfl
      refine pure_ (i := 7) (N := some 70) (v := ?_) (a' := ?_) #[true, true, false, true, false, false, true, true, false, false, false, false, false, false] rfl rfl (any_of HT_.out (by kernel_rfl)) (fun _ _ _ h => h) (Or.inl ⟨by rfl, ?_⟩) ?_ ?_
      rotate_left
      · intro w'
        go_simp
        with_reducible rfl
      rotate_left
      · simp only [Act.put, List.setIfInBounds_toArray, List.set_cons_zero, List.set_cons_succ, i64_w, i32_w]
        rfl
      refine pure_ (i := 9) (N := some 72) (v := ?_) (a' := ?_) #[true, true, false, true, false, false, true, true, false, true, false, false, false, false] rfl rfl (any_of HT_.out (by kernel_rfl)) (fun _ _ _ h => h) (Or.inl ⟨by rfl, ?_⟩) ?_ ?_
      rotate_left
      · intro w'
        go_simp
        with_reducible rfl
      rotate_left
      · simp only [Act.put, List.setIfInBounds_toArray, List.set_cons_zero, List.set_cons_succ, i64_w, i32_w]
        rfl
      refine take_ (i := 2) (N := some 65) (v := ?_) (a' := ?_) #[true, true, true, true, false, false, true, true, false, true, false, false, false, false] rfl rfl (take_ofW HT_.out HW_.out (by kernel_rfl)) (fun _ _ _ h => h) (Or.inl ⟨by rfl, ?_⟩) hHeld ?_ ?_
      rotate_left
      · rintro w' ⟨s0, s1, s2, s3, s4, s5, s6, s7⟩
        go_simp
        with_reducible rfl
      rotate_left
      · simp only [Act.put, List.setIfInBounds_toArray, List.set_cons_zero, List.set_cons_succ, i64_w, i32_w]
        rfl
      refine take_ (i := 4) (N := some 67) (v := ?_) (a' := ?_) #[true, true, true, true, true, false, true, true, false, true, false, false, false, false] rfl rfl (take_ofW HT_.out HW_.out (by kernel_rfl)) (fun _ _ _ h => h) (Or.inl ⟨by rfl, ?_⟩) hHeld ?_ ?_
      rotate_left
      · rintro w' ⟨s0, s1, s2, s3, s4, s5, s6, s7⟩
        go_simp
        with_reducible rfl
      rotate_left
      · simp only [Act.put, List.setIfInBounds_toArray, List.set_cons_zero, List.set_cons_succ, i64_w, i32_w]
        rfl
      refine take_ (i := 8) (N := some 71) (v := ?_) (a' := ?_) #[true, true, true, true, true, false, true, true, true, true, false, false, false, false] rfl rfl (take_ofW HT_.out HW_.out (by kernel_rfl)) (fun _ _ _ h => h) (Or.inl ⟨by rfl, ?_⟩) hHeld ?_ ?_
      rotate_left
      · rintro w' ⟨s0, s1, s2, s3, s4, s5, s6, s7⟩
        go_simp
        with_reducible rfl
      rotate_left
      · simp only [Act.put, List.setIfInBounds_toArray, List.set_cons_zero, List.set_cons_succ, i64_w, i32_w]
        rfl
      refine take_ (i := 10) (N := some 73) (v := ?_) (a' := ?_) #[true, true, true, true, true, false, true, true, true, true, true, false, false, false] rfl rfl (take_ofW HT_.out HW_.out (by kernel_rfl)) (fun _ _ _ h => h) (Or.inl ⟨by rfl, ?_⟩) hHeld ?_ ?_
      rotate_left
      · rintro w' ⟨s0, s1, s2, s3, s4, s5, s6, s7⟩
        go_simp
        with_reducible rfl
      rotate_left
      · simp only [Act.put, List.setIfInBounds_toArray, List.set_cons_zero, List.set_cons_succ, i64_w, i32_w]
        rfl
      refine one_ (i := 5) (N := some 68) #[true, true, true, true, true, true, true, true, true, true, true, false, false, false] rfl rfl (one_of HT_.out (by kernel_rfl)) (by decide) (fun K hK => ?_)
      refine goes_ Try.func17 (by kernel_rfl) rfl #[.slice A0_1 l0_1.length c0_1, .int .i64 a0_6] (by rfl) rfl rfl (by (try simp only [List.map_toArray, List.map_cons, List.map_nil]); first | done | rfl | (simp only [List.length_drop, List.length_take]; rfl)) ?_
      with_reducible refine (unicodetextlaw47_grouped.calls k _ _ l0_1 a0_6 t111 _ ?side1 ?side2 A18.out).mono ?_
      (case side1 => repeat (first | exact (Kd.C_below HR0_1.out HB.out) | (with_reducible refine Kd.C_alloc ?_ _) | (with_reducible refine Kd.C_drewN ?_ _) | (with_reducible refine Kd.C_drew ?_)))
      (case side2 => exact HC0_1.out)
      rintro e w' ⟨rfl, ⟨nd, rfl⟩⟩
      refine ⟨_, rfl, ?_⟩
      refine hK.out _ _ ⟨(blk_cell BK101.out 0).trans rfl, (blk_cell BK101.out 1).trans rfl, (blk_cell BK101.out 2).trans rfl, (blk_cell BK101.out 3).trans rfl, (blk_cell BK101.out 4).trans rfl, (blk_cell BK101.out 5).trans rfl, (blk_cell BK101.out 6).trans rfl, (blk_cell BK101.out 7).trans rfl⟩ (fun hHeld => ?_)
      clear hK K
      refine norm_ (a' := ?_) ?_ ?_
      rotate_left
      · show Act.put _ (some 68) _ = _
        simp only [Act.put, List.setIfInBounds_toArray, List.set_cons_zero, List.set_cons_succ, i64_w, i32_w]
        rfl
      refine one_ (i := 11) (N := some 74) #[true, true, true, true, true, true, true, true, true, true, true, true, false, false] rfl rfl (one_of HT_.out (by kernel_rfl)) (by decide) (fun K hK => ?_)
      refine goes_ Try.func17 (by kernel_rfl) rfl #[.slice A0_1 l0_1.length c0_1, .int .i64 a0_7] (by rfl) rfl rfl (by (try simp only [List.map_toArray, List.map_cons, List.map_nil]); first | done | rfl | (simp only [List.length_drop, List.length_take]; rfl)) ?_
      with_reducible refine (unicodetextlaw47_grouped.calls k _ _ l0_1 a0_7 t112 _ ?side1 ?side2 A19.out).mono ?_
      (case side1 => repeat (first | exact (Kd.C_below HR0_1.out (by repeat (first | (with_reducible first | exact HB.out | apply below_alloc | apply pw_below_drewN | apply below_drew1 | refine below_set ?_ GE101.out) | exact HB.out))) | (with_reducible refine Kd.C_alloc ?_ _) | (with_reducible refine Kd.C_drewN ?_ _) | (with_reducible refine Kd.C_drew ?_)))
      (case side2 => exact HC0_1.out)
      rintro e w' ⟨rfl, ⟨nd, rfl⟩⟩
      refine ⟨_, rfl, ?_⟩
      refine hK.out _ _ ⟨(blk_cell BK101.out 0).trans rfl, (blk_cell BK101.out 1).trans rfl, (blk_cell BK101.out 2).trans rfl, (blk_cell BK101.out 3).trans rfl, (blk_cell BK101.out 4).trans rfl, (blk_cell BK101.out 5).trans rfl, (blk_cell BK101.out 6).trans rfl, (blk_cell BK101.out 7).trans rfl⟩ (fun hHeld => ?_)
      clear hK K
      refine norm_ (a' := ?_) ?_ ?_
      rotate_left
      · show Act.put _ (some 74) _ = _
        simp only [Act.put, List.setIfInBounds_toArray, List.set_cons_zero, List.set_cons_succ, i64_w, i32_w]
        rfl
      refine pure_ (i := 12) (N := some 7) (v := ?_) (a' := ?_) #[true, true, true, true, true, true, true, true, true, true, true, true, true, false] rfl rfl (any_of HT_.out (by kernel_rfl)) (fun _ _ _ h => h) (Or.inl ⟨by rfl, ?_⟩) ?_ ?_
      rotate_left
      · intro w'
        go_simp
        with_reducible rfl
      rotate_left
      · simp only [Act.put, List.setIfInBounds_toArray, List.set_cons_zero, List.set_cons_succ, i64_w, i32_w]
        rfl
      refine pure_ (i := 13) (N := some 8) (v := ?_) (a' := ?_) #[true, true, true, true, true, true, true, true, true, true, true, true, true, true] rfl rfl (any_of HT_.out (by kernel_rfl)) (fun _ _ _ h => h) (Or.inl ⟨by rfl, ?_⟩) ?_ ?_
      rotate_left
      · intro w'
        go_simp
        with_reducible rfl
      rotate_left
      · simp only [Act.put, List.setIfInBounds_toArray, List.set_cons_zero, List.set_cons_succ, i64_w, i32_w]
        rfl
      refine done_ (done_of HT_.out (by kernel_rfl)) ?_
      obtain ⟨Ao32, co32, eo32⟩ := Kd.R_slice HO106.out
      subst eo32
      have hcz0 : w31.cell? ⟨gb101, 0, none⟩ = some (.slice A0_0 l0_0.length c0_0) := (blk_cell BK101.out 0).trans rfl
      have hcz1 : w31.cell? ⟨gb101, 1, none⟩ = some (.slice A0_1 l0_1.length c0_1) := (blk_cell BK101.out 1).trans rfl
      have hcz6 : w31.cell? ⟨gb101, 6, none⟩ = some (.int .i64 a0_6) := (blk_cell BK101.out 6).trans rfl
      have hcz7 : w31.cell? ⟨gb101, 7, none⟩ = some (.int .i64 a0_7) := (blk_cell BK101.out 7).trans rfl
      rcases HKEEP.out with hk | hk
      · obtain ⟨hi, hm, hx⟩ := hk
        have f1 : decide (t111 < 0) = true := decide_eq_true hi
        have f2 : decide (t113 < 0) = true := decide_eq_true hm
        have f3 : decide ((t104.length : Int) ≤ t113) = false := decide_eq_false (by omega)
        have f4 : decide (0 ≤ t113) = false := decide_eq_false (by omega)
        have f5 : (t108 != a0_6) = false := by rw [hx]; simp
        clear hi hm hx HKEEP
        go_wp2_with (first | ((with_reducible refine gate_callee (f := 17) rfl ?_); refine goesL_ (some 77) rfl rfl Try.func17 (by kernel_rfl) rfl #[.slice Ao32 t104.length co32, .int .i64 t108] rfl (by (try simp only [List.map_toArray, List.map_cons, List.map_nil]); first | done | rfl | (simp only [List.length_drop, List.length_take]; rfl)) ?_; (with_reducible refine (unicodetextlaw47_grouped.calls k _ _ t104 t108 t113 _ ?side1 ?side2 A20.out).mono ?_); (case side1 => repeat (first | exact (Kd.R_reads' HO106.out).2.2 | (with_reducible refine Kd.C_alloc ?_ _) | (with_reducible refine Kd.C_drewN ?_ _) | (with_reducible refine Kd.C_drew ?_))); (case side2 => exact (Kd.R_reads' HO106.out).2.1); rintro e w' ⟨rfl, ⟨nd, rfl⟩⟩; refine ⟨_, rfl, ?_⟩))
        go_quiet (fail)
        go_wp2_with fail
        refine (unicodetextlaw47_alive.calls k r _ HAL.out).mono ?_
        rintro e w40 ⟨rfl, hb40⟩
        have HB40 := Aside0.mk (below_step (by repeat (first | exact HB.out | apply pw_below_drewN | apply below_drew1)) hb40)
        clear hb40
        go_wp2
        go_ret
        exact ⟨rfl, HB40.out⟩
      · obtain ⟨hi0, hi1, hm0, hm1, hs, hij⟩ := hk
        obtain ⟨ad114, e114, hx114_0, _, _⟩ := at_T36 (Kd.R_reads' HO106.out).2.2 t113 hm0 hm1
        cases e114
        obtain ⟨ad115, e115, hx115_0, _, _⟩ := at_T36 HR0_1.out t111 hi0 hi1
        cases e115
        replace hx115_0 := (HB.out.cell (World.block_lt_of_cell? w _ hx115_0)).trans hx115_0
        rw [hs] at hx114_0
        generalize (rd_T36 l0_1 t111).f0 = s at hx114_0 hx115_0
        have f1 : decide (t111 < 0) = false := decide_eq_false (by omega)
        have f2 : decide (t113 < 0) = false := decide_eq_false (by omega)
        have f3 : decide ((t104.length : Int) ≤ t113) = false := decide_eq_false (by omega)
        have f4 : decide (0 ≤ t113) = true := decide_eq_true hm0
        by_cases he : t111 = t112
        · have f6 : (t111 != t112) = false := by rw [he]; simp
          have f7 : (wrap64 (t109 - t108) == wrap64 (a0_7 - a0_6)) = true := by rw [hij he]; simp
          clear he hij hs HKEEP
          go_wp2_with (first | ((with_reducible refine gate_callee (f := 17) rfl ?_); refine goesL_ (some 77) rfl rfl Try.func17 (by kernel_rfl) rfl #[.slice (some ad114) t104.length co32, .int .i64 t108] rfl (by (try simp only [List.map_toArray, List.map_cons, List.map_nil]); first | done | rfl | (simp only [List.length_drop, List.length_take]; rfl)) ?_; (with_reducible refine (unicodetextlaw47_grouped.calls k _ _ t104 t108 t113 _ ?side1 ?side2 A20.out).mono ?_); (case side1 => repeat (first | exact (Kd.R_reads' HO106.out).2.2 | (with_reducible refine Kd.C_alloc ?_ _) | (with_reducible refine Kd.C_drewN ?_ _) | (with_reducible refine Kd.C_drew ?_))); (case side2 => exact (Kd.R_reads' HO106.out).2.1); rintro e w' ⟨rfl, ⟨nd, rfl⟩⟩; refine ⟨_, rfl, ?_⟩))
          go_quiet (fail)
          go_wp2_with fail
          refine (unicodetextlaw47_alive.calls k r _ HAL.out).mono ?_
          rintro e w40 ⟨rfl, hb40⟩
          have HB40 := Aside0.mk (below_step (by repeat (first | exact HB.out | apply pw_below_drewN | apply below_drew1)) hb40)
          clear hb40
          go_wp2
          go_ret
          exact ⟨rfl, HB40.out⟩
        · have f6 : (t111 != t112) = true := bne_iff_ne.2 he
          clear he hij hs HKEEP
          go_wp2_with (first | ((with_reducible refine gate_callee (f := 17) rfl ?_); refine goesL_ (some 77) rfl rfl Try.func17 (by kernel_rfl) rfl #[.slice (some ad114) t104.length co32, .int .i64 t108] rfl (by (try simp only [List.map_toArray, List.map_cons, List.map_nil]); first | done | rfl | (simp only [List.length_drop, List.length_take]; rfl)) ?_; (with_reducible refine (unicodetextlaw47_grouped.calls k _ _ t104 t108 t113 _ ?side1 ?side2 A20.out).mono ?_); (case side1 => repeat (first | exact (Kd.R_reads' HO106.out).2.2 | (with_reducible refine Kd.C_alloc ?_ _) | (with_reducible refine Kd.C_drewN ?_ _) | (with_reducible refine Kd.C_drew ?_))); (case side2 => exact (Kd.R_reads' HO106.out).2.1); rintro e w' ⟨rfl, ⟨nd, rfl⟩⟩; refine ⟨_, rfl, ?_⟩))
          go_quiet (fail)
          go_wp2_with fail
          refine (unicodetextlaw47_alive.calls k r _ HAL.out).mono ?_
          rintro e w40 ⟨rfl, hb40⟩
          have HB40 := Aside0.mk (below_step (by repeat (first | exact HB.out | apply pw_below_drewN | apply below_drew1)) hb40)
          clear hb40
          go_wp2
          go_ret
          exact ⟨rfl, HB40.out⟩
    · have h : (if t108 = a0_6 ∧ t109 = a0_7 then unicodetextlaw47_alive.f k else none) = some r := by rw [if_neg c17] at h; exact h
      have c17b0 : (t107 == 0) = false := beq_eq_false_iff_ne.mpr c17
      have c17b1 : (t107 != 0) = true := bne_iff_ne.mpr c17
      clear c17
      split at h
      case isFalse => cases h
      rename_i hkeep
      have c75b0 : (t108 == a0_6) = true := beq_iff_eq.mpr hkeep.1
      have c76b0 : (t109 == a0_7) = true := beq_iff_eq.mpr hkeep.2
      clear hkeep
      have HAL := Aside0.mk h
      clear h
      go_enter Try.func6, Try.ntmps6
      try go_wp2_with (first | ((with_reducible refine gate_dst (N := 1) rfl ?_); refine box_event ?hg (N := 1) ?hd (cs := #[.slice A0_0 l0_0.length c0_0, .slice A0_1 l0_1.length c0_1, .int .i64 a0_2, .int .i64 a0_3, .int .i64 a0_4, .slice A0_5 l0_5.length c0_5, .int .i64 a0_6, .int .i64 a0_7]) (t := 38) ?hr ?_; (case hd => rfl); (case hg => rfl); (case hr => first | (go_simp; done) | (go_simp; rfl)); intro gb101 hg w78 hbox hb; have n0_ := Aside0.mk (below_step (by repeat (first | (with_reducible first | exact HB.out | apply below_alloc | apply pw_below_drewN | apply below_drew1) | exact HB.out)) hb); have n1_ := Aside0.mk (hbox); have n2_ := Aside0.mk ((by rw [hg]; exact (below_size (by repeat (first | (with_reducible first | exact HB.out | apply below_alloc | apply pw_below_drewN | apply below_drew1) | exact HB.out))) : w.heap.size ≤ gb101)); have n3_ := Aside0.mk ((by rw [hg]; exact (below_size (by repeat (first | (with_reducible first | exact HB.out | apply below_alloc | apply pw_below_drewN | apply below_drew1) | exact HB.out))) : w.heap.size ≤ gb101)); clear HB; have HB := n0_; have BK101 := n1_; have GW101 := n2_; have GE101 := n3_; clear n0_ n1_ n2_ n3_; clear hb hbox hg; have hcz79_0 : w78.cell? ⟨gb101, 0, none⟩ = some (.slice A0_0 l0_0.length c0_0) := (blk_cell BK101.out 0).trans rfl; have hcz79_1 : w78.cell? ⟨gb101, 1, none⟩ = some (.slice A0_1 l0_1.length c0_1) := (blk_cell BK101.out 1).trans rfl; have hcz79_2 : w78.cell? ⟨gb101, 2, none⟩ = some (.int .i64 a0_2) := (blk_cell BK101.out 2).trans rfl; have hcz79_3 : w78.cell? ⟨gb101, 3, none⟩ = some (.int .i64 a0_3) := (blk_cell BK101.out 3).trans rfl; have hcz79_4 : w78.cell? ⟨gb101, 4, none⟩ = some (.int .i64 a0_4) := (blk_cell BK101.out 4).trans rfl; have hcz79_5 : w78.cell? ⟨gb101, 5, none⟩ = some (.slice A0_5 l0_5.length c0_5) := (blk_cell BK101.out 5).trans rfl; have hcz79_6 : w78.cell? ⟨gb101, 6, none⟩ = some (.int .i64 a0_6) := (blk_cell BK101.out 6).trans rfl; have hcz79_7 : w78.cell? ⟨gb101, 7, none⟩ = some (.int .i64 a0_7) := (blk_cell BK101.out 7).trans rfl; have hfz79_0 := blk_frozen BK101.out 0; have hfz79_1 := blk_frozen BK101.out 1; have hfz79_2 := blk_frozen BK101.out 2; have hfz79_3 := blk_frozen BK101.out 3; have hfz79_4 := blk_frozen BK101.out 4; have hfz79_5 := blk_frozen BK101.out 5; have hfz79_6 := blk_frozen BK101.out 6; have hfz79_7 := blk_frozen BK101.out 7) | ((with_reducible refine gate_callee (f := 10) rfl ?_); refine goesL_ (some 14) rfl rfl Try.func10 (by kernel_rfl) rfl #[.agg #[.slice A0_0 l0_0.length c0_0, .slice A0_1 l0_1.length c0_1, .int .i64 a0_2, .int .i64 a0_3, .int .i64 a0_4], .slice A0_5 l0_5.length c0_5] rfl (by (try simp only [List.map_toArray, List.map_cons, List.map_nil]); first | done | rfl | (simp only [List.length_drop, List.length_take]; rfl)) ?_; (with_reducible refine (unicodetextlaw47_few.calls k _ _ l0_0 _ _ l0_1 a0_2 a0_3 a0_4 _ _ l0_5 true _ ?side1 ?side2 ?side3 ?side4 ?side5 ?side6 A2.out).mono ?_); (case side1 => repeat (first | exact (Kd.C_below HR0_0.out HB.out) | (with_reducible refine Kd.C_alloc ?_ _) | (with_reducible refine Kd.C_drewN ?_ _) | (with_reducible refine Kd.C_drew ?_))); (case side2 => exact HC0_0.out); (case side3 => repeat (first | exact (Kd.C_below HR0_1.out HB.out) | (with_reducible refine Kd.C_alloc ?_ _) | (with_reducible refine Kd.C_drewN ?_ _) | (with_reducible refine Kd.C_drew ?_))); (case side4 => exact HC0_1.out); (case side5 => repeat (first | exact (Kd.C_below HR0_5.out HB.out) | (with_reducible refine Kd.C_alloc ?_ _) | (with_reducible refine Kd.C_drewN ?_ _) | (with_reducible refine Kd.C_drew ?_))); (case side6 => exact HC0_5.out); rintro e w80 ⟨rfl, hb⟩; refine ⟨_, rfl, ?_⟩; have n0_ := Aside0.mk (blk_below (g := gb101) (o := .cells #[.slice A0_0 l0_0.length c0_0, .slice A0_1 l0_1.length c0_1, .int .i64 a0_2, .int .i64 a0_3, .int .i64 a0_4, .slice A0_5 l0_5.length c0_5, .int .i64 a0_6, .int .i64 a0_7] 38 (0, 0)) (by (with_reducible repeat (first | refine blk_drewN ?_ _ | refine blk_drew ?_ | refine blk_alloc ?_ _)); exact BK101.out) hb); have n1_ := Aside0.mk (below_step (by repeat (first | (with_reducible first | exact HB.out | apply below_alloc | apply pw_below_drewN | apply below_drew1 | refine below_set ?_ GE101.out) | exact HB.out)) hb); clear BK101; clear HB; have BK101 := n0_; have HB := n1_; clear n0_ n1_; (try clear hb); (try clear hb2); (try clear hk); (try clear hi); have hcz81_0 : w80.cell? ⟨gb101, 0, none⟩ = some (.slice A0_0 l0_0.length c0_0) := (blk_cell BK101.out 0).trans rfl; have hcz81_1 : w80.cell? ⟨gb101, 1, none⟩ = some (.slice A0_1 l0_1.length c0_1) := (blk_cell BK101.out 1).trans rfl; have hcz81_2 : w80.cell? ⟨gb101, 2, none⟩ = some (.int .i64 a0_2) := (blk_cell BK101.out 2).trans rfl; have hcz81_3 : w80.cell? ⟨gb101, 3, none⟩ = some (.int .i64 a0_3) := (blk_cell BK101.out 3).trans rfl; have hcz81_4 : w80.cell? ⟨gb101, 4, none⟩ = some (.int .i64 a0_4) := (blk_cell BK101.out 4).trans rfl; have hcz81_5 : w80.cell? ⟨gb101, 5, none⟩ = some (.slice A0_5 l0_5.length c0_5) := (blk_cell BK101.out 5).trans rfl; have hcz81_6 : w80.cell? ⟨gb101, 6, none⟩ = some (.int .i64 a0_6) := (blk_cell BK101.out 6).trans rfl; have hcz81_7 : w80.cell? ⟨gb101, 7, none⟩ = some (.int .i64 a0_7) := (blk_cell BK101.out 7).trans rfl; have hfz81_0 := blk_frozen BK101.out 0; have hfz81_1 := blk_frozen BK101.out 1; have hfz81_2 := blk_frozen BK101.out 2; have hfz81_3 := blk_frozen BK101.out 3; have hfz81_4 := blk_frozen BK101.out 4; have hfz81_5 := blk_frozen BK101.out 5; have hfz81_6 := blk_frozen BK101.out 6; have hfz81_7 := blk_frozen BK101.out 7) | ((with_reducible refine gate_callee (f := 12) rfl ?_); refine goesL_ (some 22) rfl rfl Try.func12 (by kernel_rfl) rfl #[.agg #[.slice A0_0 l0_0.length c0_0, .slice A0_1 l0_1.length c0_1, .int .i64 a0_2, .int .i64 a0_3, .int .i64 a0_4], .slice A0_5 l0_5.length c0_5] rfl (by (try simp only [List.map_toArray, List.map_cons, List.map_nil]); first | done | rfl | (simp only [List.length_drop, List.length_take]; rfl)) ?_; (with_reducible refine (groups_Order.calls k _ _ l0_0 _ _ l0_1 a0_2 a0_3 a0_4 _ _ l0_5 t104 t107 _ ?side1 ?side2 ?side3 ?side4 ?side5 ?side6 A4.out).mono ?_); (case side1 => repeat (first | exact (Kd.C_below HR0_0.out HB.out) | (with_reducible refine Kd.C_alloc ?_ _) | (with_reducible refine Kd.C_drewN ?_ _) | (with_reducible refine Kd.C_drew ?_))); (case side2 => exact HC0_0.out); (case side3 => repeat (first | exact (Kd.C_below HR0_1.out HB.out) | (with_reducible refine Kd.C_alloc ?_ _) | (with_reducible refine Kd.C_drewN ?_ _) | (with_reducible refine Kd.C_drew ?_))); (case side4 => exact HC0_1.out); (case side5 => repeat (first | exact (Kd.C_below HR0_5.out HB.out) | (with_reducible refine Kd.C_alloc ?_ _) | (with_reducible refine Kd.C_drewN ?_ _) | (with_reducible refine Kd.C_drew ?_))); (case side6 => exact HC0_5.out); rintro e w82 ⟨v105, rfl, ho0, hb⟩; refine ⟨_, rfl, ?_⟩; have n0_ := Aside0.mk (Kd.R_lower ho0 (below_size (by repeat (first | (with_reducible first | exact HB.out | apply below_alloc | apply pw_below_drewN | apply below_drew1 | refine below_set ?_ GE101.out) | exact HB.out)))); have n1_ := Aside0.mk (blk_below (g := gb101) (o := .cells #[.slice A0_0 l0_0.length c0_0, .slice A0_1 l0_1.length c0_1, .int .i64 a0_2, .int .i64 a0_3, .int .i64 a0_4, .slice A0_5 l0_5.length c0_5, .int .i64 a0_6, .int .i64 a0_7] 38 (0, 0)) (by (with_reducible repeat (first | refine blk_drewN ?_ _ | refine blk_drew ?_ | refine blk_alloc ?_ _)); exact BK101.out) hb); have n2_ := Aside0.mk (below_step (by repeat (first | (with_reducible first | exact HB.out | apply below_alloc | apply pw_below_drewN | apply below_drew1 | refine below_set ?_ GE101.out) | exact HB.out)) hb); clear BK101; clear HB; have HO106 := n0_; have BK101 := n1_; have HB := n2_; clear n0_ n1_ n2_; (try clear hb); (try clear hb2); (try clear hk); (try clear hi); (try clear ho0)))
      have n0_ := Aside0.mk (Kd.R_drew HO106.out)
      have n1_ := Aside0.mk (blk_drew BK101.out)
      have n2_ := Aside0.mk (below_drew1 HB.out)
      clear HO106
      clear BK101
      clear HB
      have HO106 := n0_
      have BK101 := n1_
      have HB := n2_
      clear n0_ n1_ n2_
      refine start_ (n := 16) (S := fun w' => w'.cell? ⟨gb101, 0, none⟩ = some (.slice A0_0 l0_0.length c0_0) ∧ w'.cell? ⟨gb101, 1, none⟩ = some (.slice A0_1 l0_1.length c0_1) ∧ w'.cell? ⟨gb101, 2, none⟩ = some (.int .i64 a0_2) ∧ w'.cell? ⟨gb101, 3, none⟩ = some (.int .i64 a0_3) ∧ w'.cell? ⟨gb101, 4, none⟩ = some (.int .i64 a0_4) ∧ w'.cell? ⟨gb101, 5, none⟩ = some (.slice A0_5 l0_5.length c0_5) ∧ w'.cell? ⟨gb101, 6, none⟩ = some (.int .i64 a0_6) ∧ w'.cell? ⟨gb101, 7, none⟩ = some (.int .i64 a0_7)) (ds := []) #[false, false, false, false, false, false, false, false, false, false, false, false, false, false, false, false] (by kernel_rfl) rfl rfl ⟨(blk_cell BK101.out 0).trans rfl, (blk_cell BK101.out 1).trans rfl, (blk_cell BK101.out 2).trans rfl, (blk_cell BK101.out 3).trans rfl, (blk_cell BK101.out 4).trans rfl, (blk_cell BK101.out 5).trans rfl, (blk_cell BK101.out 6).trans rfl, (blk_cell BK101.out 7).trans rfl⟩ (fun hHeld => ?_); refine with_tabW unicodetextlaw47_GroupsKeeps.tab4 unicodetextlaw47_GroupsKeeps.bits4 (fun HT_ HW_ => ?_)
      generalize w82.drew = w83 at HO106 BK101 HB hHeld ⊢
      refine pure_ (i := 0) (N := some 25) (v := ?_) (a' := ?_) #[true, false, false, false, false, false, false, false, false, false, false, false, false, false, false, false] rfl rfl (any_of HT_.out (by kernel_rfl)) (fun _ _ _ h => h) (Or.inl ⟨by rfl, ?_⟩) ?_ ?_
      rotate_left
      · intro w'
        go_simp
        with_reducible rfl
      rotate_left
      · simp only [Act.put, List.setIfInBounds_toArray, List.set_cons_zero, List.set_cons_succ, i64_w, i32_w]
        rfl
      refine pure_ (i := 2) (N := some 27) (v := ?_) (a' := ?_) #[true, false, true, false, false, false, false, false, false, false, false, false, false, false, false, false] rfl rfl (any_of HT_.out (by kernel_rfl)) (fun _ _ _ h => h) (Or.inl ⟨by rfl, ?_⟩) ?_ ?_
      rotate_left
      · intro w'
        go_simp
        with_reducible rfl
      rotate_left
      · simp only [Act.put, List.setIfInBounds_toArray, List.set_cons_zero, List.set_cons_succ, i64_w, i32_w]
        rfl
      refine pure_ (i := 4) (N := some 29) (v := ?_) (a' := ?_) #[true, false, true, false, true, false, false, false, false, false, false, false, false, false, false, false] rfl rfl (any_of HT_.out (by kernel_rfl)) (fun _ _ _ h => h) (Or.inl ⟨by rfl, ?_⟩) ?_ ?_
      rotate_left
      · intro w'
        go_simp
        with_reducible rfl
      rotate_left
      · simp only [Act.put, List.setIfInBounds_toArray, List.set_cons_zero, List.set_cons_succ, i64_w, i32_w]
        rfl
      refine pure_ (i := 7) (N := some 32) (v := ?_) (a' := ?_) #[true, false, true, false, true, false, false, true, false, false, false, false, false, false, false, false] rfl rfl (any_of HT_.out (by kernel_rfl)) (fun _ _ _ h => h) (Or.inl ⟨by rfl, ?_⟩) ?_ ?_
      rotate_left
      · intro w'
        go_simp
        with_reducible rfl
      rotate_left
      · simp only [Act.put, List.setIfInBounds_toArray, List.set_cons_zero, List.set_cons_succ, i64_w, i32_w]
        rfl
      refine pure_ (i := 9) (N := some 34) (v := ?_) (a' := ?_) #[true, false, true, false, true, false, false, true, false, true, false, false, false, false, false, false] rfl rfl (any_of HT_.out (by kernel_rfl)) (fun _ _ _ h => h) (Or.inl ⟨by rfl, ?_⟩) ?_ ?_
      rotate_left
      · intro w'
        go_simp
        with_reducible rfl
      rotate_left
      · simp only [Act.put, List.setIfInBounds_toArray, List.set_cons_zero, List.set_cons_succ, i64_w, i32_w]
        rfl
      refine pure_ (i := 11) (N := some 36) (v := ?_) (a' := ?_) #[true, false, true, false, true, false, false, true, false, true, false, true, false, false, false, false] rfl rfl (any_of HT_.out (by kernel_rfl)) (fun _ _ _ h => h) (Or.inl ⟨by rfl, ?_⟩) ?_ ?_
      rotate_left
      · intro w'
        go_simp
        with_reducible rfl
      rotate_left
      · simp only [Act.put, List.setIfInBounds_toArray, List.set_cons_zero, List.set_cons_succ, i64_w, i32_w]
        rfl
      refine take_ (i := 1) (N := some 26) (v := ?_) (a' := ?_) #[true, true, true, false, true, false, false, true, false, true, false, true, false, false, false, false] rfl rfl (take_ofW HT_.out HW_.out (by kernel_rfl)) (fun _ _ _ h => h) (Or.inl ⟨by rfl, ?_⟩) hHeld ?_ ?_
      rotate_left
      · rintro w' ⟨s0, s1, s2, s3, s4, s5, s6, s7⟩
        go_simp
        with_reducible rfl
      rotate_left
      · simp only [Act.put, List.setIfInBounds_toArray, List.set_cons_zero, List.set_cons_succ, i64_w, i32_w]
        rfl
      refine take_ (i := 3) (N := some 28) (v := ?_) (a' := ?_) #[true, true, true, true, true, false, false, true, false, true, false, true, false, false, false, false] rfl rfl (take_ofW HT_.out HW_.out (by kernel_rfl)) (fun _ _ _ h => h) (Or.inl ⟨by rfl, ?_⟩) hHeld ?_ ?_
      rotate_left
      · rintro w' ⟨s0, s1, s2, s3, s4, s5, s6, s7⟩
        go_simp
        with_reducible rfl
      rotate_left
      · simp only [Act.put, List.setIfInBounds_toArray, List.set_cons_zero, List.set_cons_succ, i64_w, i32_w]
        rfl
      refine take_ (i := 5) (N := some 30) (v := ?_) (a' := ?_) #[true, true, true, true, true, true, false, true, false, true, false, true, false, false, false, false] rfl rfl (take_ofW HT_.out HW_.out (by kernel_rfl)) (fun _ _ _ h => h) (Or.inl ⟨by rfl, ?_⟩) hHeld ?_ ?_
      rotate_left
      · rintro w' ⟨s0, s1, s2, s3, s4, s5, s6, s7⟩
        go_simp
        with_reducible rfl
      rotate_left
      · simp only [Act.put, List.setIfInBounds_toArray, List.set_cons_zero, List.set_cons_succ, i64_w, i32_w]
        rfl
      refine take_ (i := 8) (N := some 33) (v := ?_) (a' := ?_) #[true, true, true, true, true, true, false, true, true, true, false, true, false, false, false, false] rfl rfl (take_ofW HT_.out HW_.out (by kernel_rfl)) (fun _ _ _ h => h) (Or.inl ⟨by rfl, ?_⟩) hHeld ?_ ?_
      rotate_left
      · rintro w' ⟨s0, s1, s2, s3, s4, s5, s6, s7⟩
        go_simp
        with_reducible rfl
      rotate_left
      · simp only [Act.put, List.setIfInBounds_toArray, List.set_cons_zero, List.set_cons_succ, i64_w, i32_w]
        rfl
      refine take_ (i := 10) (N := some 35) (v := ?_) (a' := ?_) #[true, true, true, true, true, true, false, true, true, true, true, true, false, false, false, false] rfl rfl (take_ofW HT_.out HW_.out (by kernel_rfl)) (fun _ _ _ h => h) (Or.inl ⟨by rfl, ?_⟩) hHeld ?_ ?_
      rotate_left
      · rintro w' ⟨s0, s1, s2, s3, s4, s5, s6, s7⟩
        go_simp
        with_reducible rfl
      rotate_left
      · simp only [Act.put, List.setIfInBounds_toArray, List.set_cons_zero, List.set_cons_succ, i64_w, i32_w]
        rfl
      refine take_ (i := 12) (N := some 37) (v := ?_) (a' := ?_) #[true, true, true, true, true, true, false, true, true, true, true, true, true, false, false, false] rfl rfl (take_ofW HT_.out HW_.out (by kernel_rfl)) (fun _ _ _ h => h) (Or.inl ⟨by rfl, ?_⟩) hHeld ?_ ?_
      rotate_left
      · rintro w' ⟨s0, s1, s2, s3, s4, s5, s6, s7⟩
        go_simp
        with_reducible rfl
      rotate_left
      · simp only [Act.put, List.setIfInBounds_toArray, List.set_cons_zero, List.set_cons_succ, i64_w, i32_w]
        rfl
      refine one_ (i := 6) (N := some 31) #[true, true, true, true, true, true, true, true, true, true, true, true, true, false, false, false] rfl rfl (one_of HT_.out (by kernel_rfl)) (by decide) (fun K hK => ?_)
      refine goes_ Try.func15 (by kernel_rfl) rfl #[.agg #[.slice A0_0 l0_0.length c0_0, .slice A0_1 l0_1.length c0_1, .int .i64 a0_2, .int .i64 a0_3, .int .i64 a0_4], .slice A0_5 l0_5.length c0_5, .int .i64 a0_6] (by rfl) rfl rfl (by (try simp only [List.map_toArray, List.map_cons, List.map_nil]); first | done | rfl | (simp only [List.length_drop, List.length_take]; rfl)) ?_
      with_reducible refine (groups_Move.calls k _ _ l0_0 _ _ l0_1 a0_2 a0_3 a0_4 _ _ l0_5 a0_6 t108 _ ?side1 ?side2 ?side3 ?side4 ?side5 ?side6 A5.out).mono ?_
      (case side1 => repeat (first | exact (Kd.C_below HR0_0.out HB.out) | (with_reducible refine Kd.C_alloc ?_ _) | (with_reducible refine Kd.C_drewN ?_ _) | (with_reducible refine Kd.C_drew ?_)))
      (case side2 => exact HC0_0.out)
      (case side3 => repeat (first | exact (Kd.C_below HR0_1.out HB.out) | (with_reducible refine Kd.C_alloc ?_ _) | (with_reducible refine Kd.C_drewN ?_ _) | (with_reducible refine Kd.C_drew ?_)))
      (case side4 => exact HC0_1.out)
      (case side5 => repeat (first | exact (Kd.C_below HR0_5.out HB.out) | (with_reducible refine Kd.C_alloc ?_ _) | (with_reducible refine Kd.C_drewN ?_ _) | (with_reducible refine Kd.C_drew ?_)))
      (case side6 => exact HC0_5.out)
      rintro e w84 ⟨rfl, hb⟩
      refine ⟨_, rfl, ?_⟩
      have n0_ := Aside0.mk (Kd.R_below (by (with_reducible repeat (first | apply Kd.R_alloc | apply Kd.R_drewN | apply Kd.R_drew)); exact HO106.out) hb)
      have n1_ := Aside0.mk (blk_below (g := gb101) (o := .cells #[.slice A0_0 l0_0.length c0_0, .slice A0_1 l0_1.length c0_1, .int .i64 a0_2, .int .i64 a0_3, .int .i64 a0_4, .slice A0_5 l0_5.length c0_5, .int .i64 a0_6, .int .i64 a0_7] 38 (0, 0)) (by (with_reducible repeat (first | refine blk_drewN ?_ _ | refine blk_drew ?_ | refine blk_alloc ?_ _)); exact BK101.out) hb)
      have n2_ := Aside0.mk (below_step (by repeat (first | (with_reducible first | exact HB.out | apply below_alloc | apply pw_below_drewN | apply below_drew1 | refine below_set ?_ GE101.out) | exact HB.out)) hb)
      clear HO106
      clear BK101
      clear HB
      have HO106 := n0_
      have BK101 := n1_
      have HB := n2_
      clear n0_ n1_ n2_
      (try clear hb)
      (try clear hb2)
      (try clear hk)
      (try clear hi)
      refine hK.out _ _ ⟨(blk_cell BK101.out 0).trans rfl, (blk_cell BK101.out 1).trans rfl, (blk_cell BK101.out 2).trans rfl, (blk_cell BK101.out 3).trans rfl, (blk_cell BK101.out 4).trans rfl, (blk_cell BK101.out 5).trans rfl, (blk_cell BK101.out 6).trans rfl, (blk_cell BK101.out 7).trans rfl⟩ (fun hHeld => ?_)
      clear hK K
      refine norm_ (a' := ?_) ?_ ?_
      rotate_left
      · show Act.put _ (some 31) _ = _
        simp only [Act.put, List.setIfInBounds_toArray, List.set_cons_zero, List.set_cons_succ, i64_w, i32_w]
        rfl
      refine one_ (i := 13) (N := some 38) #[true, true, true, true, true, true, true, true, true, true, true, true, true, true, false, false] rfl rfl (one_of HT_.out (by kernel_rfl)) (by decide) (fun K hK => ?_)
      refine goes_ Try.func15 (by kernel_rfl) rfl #[.agg #[.slice A0_0 l0_0.length c0_0, .slice A0_1 l0_1.length c0_1, .int .i64 a0_2, .int .i64 a0_3, .int .i64 a0_4], .slice A0_5 l0_5.length c0_5, .int .i64 a0_7] (by rfl) rfl rfl (by (try simp only [List.map_toArray, List.map_cons, List.map_nil]); first | done | rfl | (simp only [List.length_drop, List.length_take]; rfl)) ?_
      with_reducible refine (groups_Move.calls k _ _ l0_0 _ _ l0_1 a0_2 a0_3 a0_4 _ _ l0_5 a0_7 t109 _ ?side1 ?side2 ?side3 ?side4 ?side5 ?side6 A6.out).mono ?_
      (case side1 => repeat (first | exact (Kd.C_below HR0_0.out HB.out) | (with_reducible refine Kd.C_alloc ?_ _) | (with_reducible refine Kd.C_drewN ?_ _) | (with_reducible refine Kd.C_drew ?_)))
      (case side2 => exact HC0_0.out)
      (case side3 => repeat (first | exact (Kd.C_below HR0_1.out HB.out) | (with_reducible refine Kd.C_alloc ?_ _) | (with_reducible refine Kd.C_drewN ?_ _) | (with_reducible refine Kd.C_drew ?_)))
      (case side4 => exact HC0_1.out)
      (case side5 => repeat (first | exact (Kd.C_below HR0_5.out HB.out) | (with_reducible refine Kd.C_alloc ?_ _) | (with_reducible refine Kd.C_drewN ?_ _) | (with_reducible refine Kd.C_drew ?_)))
      (case side6 => exact HC0_5.out)
      rintro e w85 ⟨rfl, hb⟩
      refine ⟨_, rfl, ?_⟩
      have n0_ := Aside0.mk (Kd.R_below (by (with_reducible repeat (first | apply Kd.R_alloc | apply Kd.R_drewN | apply Kd.R_drew)); exact HO106.out) hb)
      have n1_ := Aside0.mk (blk_below (g := gb101) (o := .cells #[.slice A0_0 l0_0.length c0_0, .slice A0_1 l0_1.length c0_1, .int .i64 a0_2, .int .i64 a0_3, .int .i64 a0_4, .slice A0_5 l0_5.length c0_5, .int .i64 a0_6, .int .i64 a0_7] 38 (0, 0)) (by (with_reducible repeat (first | refine blk_drewN ?_ _ | refine blk_drew ?_ | refine blk_alloc ?_ _)); exact BK101.out) hb)
      have n2_ := Aside0.mk (below_step (by repeat (first | (with_reducible first | exact HB.out | apply below_alloc | apply pw_below_drewN | apply below_drew1 | refine below_set ?_ GE101.out) | exact HB.out)) hb)
      clear HO106
      clear BK101
      clear HB
      have HO106 := n0_
      have BK101 := n1_
      have HB := n2_
      clear n0_ n1_ n2_
      (try clear hb)
      (try clear hb2)
      (try clear hk)
      (try clear hi)
      refine hK.out _ _ ⟨(blk_cell BK101.out 0).trans rfl, (blk_cell BK101.out 1).trans rfl, (blk_cell BK101.out 2).trans rfl, (blk_cell BK101.out 3).trans rfl, (blk_cell BK101.out 4).trans rfl, (blk_cell BK101.out 5).trans rfl, (blk_cell BK101.out 6).trans rfl, (blk_cell BK101.out 7).trans rfl⟩ (fun hHeld => ?_)
      clear hK K
      refine norm_ (a' := ?_) ?_ ?_
      rotate_left
      · show Act.put _ (some 38) _ = _
        simp only [Act.put, List.setIfInBounds_toArray, List.set_cons_zero, List.set_cons_succ, i64_w, i32_w]
        rfl
      refine pure_ (i := 14) (N := some 5) (v := ?_) (a' := ?_) #[true, true, true, true, true, true, true, true, true, true, true, true, true, true, true, false] rfl rfl (any_of HT_.out (by kernel_rfl)) (fun _ _ _ h => h) (Or.inl ⟨by rfl, ?_⟩) ?_ ?_
      rotate_left
      · intro w'
        go_simp
        with_reducible rfl
      rotate_left
      · simp only [Act.put, List.setIfInBounds_toArray, List.set_cons_zero, List.set_cons_succ, i64_w, i32_w]
        rfl
      refine pure_ (i := 15) (N := some 6) (v := ?_) (a' := ?_) #[true, true, true, true, true, true, true, true, true, true, true, true, true, true, true, true] rfl rfl (any_of HT_.out (by kernel_rfl)) (fun _ _ _ h => h) (Or.inl ⟨by rfl, ?_⟩) ?_ ?_
      rotate_left
      · intro w'
        go_simp
        with_reducible rfl
      rotate_left
      · simp only [Act.put, List.setIfInBounds_toArray, List.set_cons_zero, List.set_cons_succ, i64_w, i32_w]
        rfl
      refine done_ (done_of HT_.out (by kernel_rfl)) ?_
      have hcz86_0 : w85.cell? ⟨gb101, 0, none⟩ = some (.slice A0_0 l0_0.length c0_0) := (blk_cell BK101.out 0).trans rfl
      have hcz86_1 : w85.cell? ⟨gb101, 1, none⟩ = some (.slice A0_1 l0_1.length c0_1) := (blk_cell BK101.out 1).trans rfl
      have hcz86_2 : w85.cell? ⟨gb101, 2, none⟩ = some (.int .i64 a0_2) := (blk_cell BK101.out 2).trans rfl
      have hcz86_3 : w85.cell? ⟨gb101, 3, none⟩ = some (.int .i64 a0_3) := (blk_cell BK101.out 3).trans rfl
      have hcz86_4 : w85.cell? ⟨gb101, 4, none⟩ = some (.int .i64 a0_4) := (blk_cell BK101.out 4).trans rfl
      have hcz86_5 : w85.cell? ⟨gb101, 5, none⟩ = some (.slice A0_5 l0_5.length c0_5) := (blk_cell BK101.out 5).trans rfl
      have hcz86_6 : w85.cell? ⟨gb101, 6, none⟩ = some (.int .i64 a0_6) := (blk_cell BK101.out 6).trans rfl
      have hcz86_7 : w85.cell? ⟨gb101, 7, none⟩ = some (.int .i64 a0_7) := (blk_cell BK101.out 7).trans rfl
      have hfz86_0 := blk_frozen BK101.out 0
      have hfz86_1 := blk_frozen BK101.out 1
      have hfz86_2 := blk_frozen BK101.out 2
      have hfz86_3 := blk_frozen BK101.out 3
      have hfz86_4 := blk_frozen BK101.out 4
      have hfz86_5 := blk_frozen BK101.out 5
      have hfz86_6 := blk_frozen BK101.out 6
      have hfz86_7 := blk_frozen BK101.out 7
      go_wp2_with fail
      refine (unicodetextlaw47_alive.calls k r _ HAL.out).mono ?_
      rintro e w90 ⟨rfl, hb90⟩
      have HB90 := Aside0.mk (below_step (by repeat (first | exact HB.out | apply pw_below_drewN | apply below_drew1)) hb90)
      clear hb90
      go_wp2
      go_ret
      exact ⟨rfl, HB90.out⟩

end Go.Proofs.Ytfcpebjjcijgcaa.G
-- unicodetext/unicodetextref47.Move: by hand
namespace Go.Proofs.Ytfcpebjjcijgcaa.G
open Go.RowKit Go.Proofs.YtfcpebjjcijgcaaW.PrintWords Go.Proofs.YtfcpebjjcijgcaaW.PrintLast Go.Proofs.YtfcpebjjcijgcaaW.PrintMore
attribute [local go_sem] max2_int min2_int max_two min_two max_three min_three max_four min_four   -- for this text's walks alone
set_option linter.unusedVariables false
set_option linter.unusedSimpArgs false

-- BY HAND: function 16 (unicodetextref47_Move)
/-- The group that a weight lies in. -/
def inG (x : Int) (g : S36) : Bool := decide (g.f1 ≤ x) && decide (x ≤ g.f2)
def unicodetextref47_Move.f (k : Nat) (l0_0 : List (S49)) (l0_1 : List (S36)) (a0_2 : Int) (a0_3 : Int) (a0_4 : Int) (l1 : List ByteArray) (a2 : Int) : Option (Int) := (unicodetextref47_Order.f k l0_0 l0_1 a0_2 a0_3 a0_4 l1).bind fun b => if b.2 = 0 then (if fits l0_1 = true then (match l0_1.find? (inG a2) with | some g => (unicodetextref47_index.f k b.1 g.f0).bind fun j => if 0 ≤ j ∧ j < (b.1.length : Int) then some (wrap64 (wrap64 ((rd_T36 b.1 j).f1 + a2) - g.f1)) else none | none => some a2) else none) else some a2
theorem unicodetextref47_Move.mono : ∀ a0 a1 a2 a3 a4 a5 a6 k, LeO (unicodetextref47_Move.f k a0 a1 a2 a3 a4 a5 a6) (unicodetextref47_Move.f (k + 1) a0 a1 a2 a3 a4 a5 a6) := by
  intro a0 a1 a2 a3 a4 a5 a6 k
  unfold unicodetextref47_Move.f
  refine LeO.bind (unicodetextref47_Order.mono _ _ _ _ _ _ k) fun b => ?_
  refine LeO.ite (LeO.ite ?_ (LeO.refl _)) (LeO.refl _)
  split
  · exact LeO.bind (unicodetextref47_index.mono _ _ k) fun _ => LeO.refl _
  · exact LeO.refl _
set_option maxHeartbeats 1000000 in
theorem unicodetextref47_Move.calls (k : Nat) (A0_0 : Option Addr) (c0_0 : Nat) (l0_0 : List (S49)) (A0_1 : Option Addr) (c0_1 : Nat) (l0_1 : List (S36)) (a0_2 : Int) (a0_3 : Int) (a0_4 : Int) (A1 : Option Addr) (c1 : Nat) (l1 : List ByteArray) (a2 : Int) (r : Int) (w : World) (hr0_0 : Kd.C k49 w A0_0 l0_0.length l0_0) (hc0_0 : l0_0.length ≤ c0_0) (hr0_1 : Kd.C k36 w A0_1 l0_1.length l0_1) (hc0_1 : l0_1.length ≤ c0_1) (hr1 : Kd.C Kd.string w A1 l1.length l1) (hc1 : l1.length ≤ c1) (h : unicodetextref47_Move.f k l0_0 l0_1 a0_2 a0_3 a0_4 l1 a2 = some r) :
    Calls Try.prog 16 #[.agg #[.slice A0_0 l0_0.length c0_0, .slice A0_1 l0_1.length c0_1, .int .i64 a0_2, .int .i64 a0_3, .int .i64 a0_4], .slice A1 l1.length c1, .int .i64 a2] w fun e w' => e = .returned (.int .i64 r) ∧ Below w.heap.size w w' := by
  unfold unicodetextref47_Move.f at h
  obtain ⟨⟨lo, eo⟩, hE, h⟩ := Option.bind_eq_some_iff.mp h
  have HE := Aside0.mk hE
  have H := Aside0.mk h
  have HR0 := Aside0.mk hr0_0
  have HC0 := Aside0.mk hc0_0
  have HR1 := Aside0.mk hr0_1
  have HC1 := Aside0.mk hc0_1
  have HRN := Aside0.mk hr1
  have HCN := Aside0.mk hc1
  clear hE h hr0_0 hc0_0 hr0_1 hc0_1 hr1 hc1
  go_enter Try.func16, Try.ntmps16
  go_wp2_with fail
  have hb0 : Below w.heap.size w (w.alloc (.cells #[.slice A0_0 l0_0.length c0_0, .slice A0_1 l0_1.length c0_1, .int .i64 a0_2, .int .i64 a0_3, .int .i64 a0_4] 25)) := below_alloc (Below.refl _ _) _
  have hk0 := blk_new w (.cells #[.slice A0_0 l0_0.length c0_0, .slice A0_1 l0_1.length c0_1, .int .i64 a0_2, .int .i64 a0_3, .int .i64 a0_4] 25)
  refine (unicodetextref47_Order.calls k _ _ l0_0 _ _ l0_1 a0_2 a0_3 a0_4 _ _ l1 lo eo _ (Kd.C_below HR0.out hb0) HC0.out (Kd.C_below HR1.out hb0) HC1.out (Kd.C_below HRN.out hb0) HCN.out HE.out).mono ?_
  rintro e w1 ⟨v0, rfl, hR, hbc⟩
  have HB := Aside0.mk (below_step hb0 hbc)
  have HBK := Aside0.mk (blk_below hk0 hbc)
  obtain ⟨A, c, rfl, hlc, hC⟩ := Kd.R_reads hR
  have HC := Aside0.mk hC
  have HLC := Aside0.mk hlc
  clear hb0 hk0 hbc hR hC hlc
  by_cases he : eo = 0
  · subst he
    obtain ⟨hfit, hrest⟩ : fits l0_1 = true ∧ (match l0_1.find? (inG a2) with | some g => (unicodetextref47_index.f k lo g.f0).bind fun j => if 0 ≤ j ∧ j < (lo.length : Int) then some (wrap64 (wrap64 ((rd_T36 lo j).f1 + a2) - g.f1)) else none | none => some a2) = some r := by
      have h := H.out
      rw [if_pos rfl] at h
      by_cases hf : fits l0_1 = true
      · rw [if_pos hf] at h
        exact ⟨hf, h⟩
      · rw [if_neg hf] at h
        cases h
    have HF := Aside0.mk hfit
    have HRES := Aside0.mk hrest
    have hln := fits_len hfit
    have hca : w1.cell? ⟨w.heap.size, 1, none⟩ = some (.slice A0_1 l0_1.length c0_1) := (blk_cell HBK.out 1).trans rfl
    clear H hfit hrest
    go_wp2
    clear hca
    go_loopg [9] l0_1.length (fun g v9 w' => ∃ i : Nat, v9 = .int .i64 i ∧ Aside0 (g = l0_1.length - i ∧ i ≤ l0_1.length ∧ ∀ g, g ∈ l0_1.take i → inG a2 g = false) ∧ Aside0 (Below w1.heap.size w1 w'))
    case atStart => exact ⟨0, rfl, ⟨by simp, by omega, fun g hg => by simp at hg⟩, ⟨Below.refl _ _⟩⟩
    case round =>
      obtain ⟨i, rfl, HG, HBL⟩ := hrel
      have hca : wr.cell? ⟨w.heap.size, 1, none⟩ = some (.slice A0_1 l0_1.length c0_1) := (blk_cell (blk_below HBK.out HBL.out) 1).trans rfl
      by_cases hlt : i < l0_1.length
      · have hltz : (i : Int) < (l0_1.length : Int) := by omega
        have p0 : 0 ≤ (i : Int) := by omega
        obtain ⟨ad, e, hx0, hx1, hx2⟩ := at_T36 HR1.out (i : Int) p0 hltz
        cases e
        replace hx0 := pw_cell_below HBL.out (pw_cell_below HB.out hx0)
        replace hx1 := pw_cell_below HBL.out (pw_cell_below HB.out hx1)
        replace hx2 := pw_cell_below HBL.out (pw_cell_below HB.out hx2)
        have htk := take_rd p0 hltz
        have hgt := rd_get p0 hltz
        rw [show ((i : Int) + 1).toNat = i + 1 by omega, Int.toNat_natCast] at htk
        rw [Int.toNat_natCast] at hx0 hx1 hx2 hgt
        obtain ⟨gx, hgx⟩ : ∃ gx, rd_T36 l0_1 (i : Int) = gx := ⟨_, rfl⟩
        rw [hgx] at hx0 hx1 hx2 htk hgt
        have HTK := Aside0.mk htk
        have HGT := Aside0.mk hgt
        clear hgx htk hgt
        have hfind : inG a2 gx = true → l0_1.find? (inG a2) = some gx := fun hp => by
          rw [List.find?_eq_some_iff_getElem]
          obtain ⟨hi2, he⟩ := List.getElem?_eq_some_iff.1 HGT.out
          refine ⟨hp, i, hi2, he, fun j hj => ?_⟩
          have := HG.out.2.2 l0_1[j] (by
            have h2 : j < (l0_1.take i).length := by rw [List.length_take]; omega
            have := List.getElem_mem h2
            rwa [List.getElem_take] at this)
          rw [this]
          rfl
        have HFD := Aside0.mk hfind
        clear hfind
        by_cases h1 : gx.f1 ≤ a2
        · have h1' : decide (gx.f1 ≤ a2) = true := decide_eq_true h1
          by_cases h2 : a2 ≤ gx.f2
          · have h2' : decide (a2 ≤ gx.f2) = true := decide_eq_true h2
            obtain ⟨j, hij, hj0, hj1, hjr⟩ : ∃ j, unicodetextref47_index.f k lo gx.f0 = some j ∧ 0 ≤ j ∧ j < (lo.length : Int) ∧ wrap64 (wrap64 ((rd_T36 lo j).f1 + a2) - gx.f1) = r := by
              have h := HRES.out
              rw [HFD.out (by unfold inG; rw [h1', h2']; rfl)] at h
              obtain ⟨j, hj, h⟩ := Option.bind_eq_some_iff.mp h
              split at h
              · rename_i hc
                exact ⟨j, hj, hc.1, hc.2, Option.some.inj h⟩
              · cases h
            have HIJ := Aside0.mk hij
            have HJR := Aside0.mk hjr
            clear hij hjr
            obtain ⟨adj, ej, hy0, hy1, hy2⟩ := at_T36 HC.out j hj0 hj1
            cases ej
            replace hy1 := pw_cell_below (below_alloc HBL.out (Obj.cells #[Value.string gx.f0, Value.int IntKind.i64 gx.f1, Value.int IntKind.i64 gx.f2] 36)) hy1
            clear hy0 hy2
            go_wp2_with fail
            go_quiet ((go_at_call 28; (with_reducible refine (unicodetextref47_index.calls k _ _ lo gx.f0 j _ (Kd.C_below HC.out (by repeat (first | exact HBL.out | apply pw_below_drewN | apply below_alloc))) HLC.out HIJ.out).mono ?_); rintro e w' ⟨rfl, ⟨nd, rfl⟩⟩; (try first | exact ⟨rfl, _, World.drewN_drewN _ _ _⟩ | exact ⟨rfl, _, Eq.trans (World.drewN_drewN _ _ _) (congrArg (World.drewN _) (Nat.add_assoc _ _ _))⟩)))
            go_wp2
            go_ret
            exact ⟨by rw [← HJR.out]; rfl, below_step HB.out (by repeat (first | exact HBL.out | apply pw_below_drewN | apply below_alloc))⟩
          · have h2' : decide (a2 ≤ gx.f2) = false := decide_eq_false h2
            go_wp2
            go_roundg (l0_1.length - (i + 1))
            case measure => have := HG.out; omega
            case rel =>
              refine ⟨i + 1, by go_num, ⟨rfl, by omega, fun g hg => ?_⟩, ⟨below_alloc HBL.out _⟩⟩
              rw [HTK.out] at hg
              rcases List.mem_append.1 hg with hg | hg
              · exact HG.out.2.2 g hg
              · rw [List.mem_singleton.1 hg]; unfold inG; rw [h2', Bool.and_false]
        · have h1' : decide (gx.f1 ≤ a2) = false := decide_eq_false h1
          go_wp2
          go_roundg (l0_1.length - (i + 1))
          case measure => have := HG.out; omega
          case rel =>
            refine ⟨i + 1, by go_num, ⟨rfl, by omega, fun g hg => ?_⟩, ⟨below_alloc HBL.out _⟩⟩
            rw [HTK.out] at hg
            rcases List.mem_append.1 hg with hg | hg
            · exact HG.out.2.2 g hg
            · rw [List.mem_singleton.1 hg]; unfold inG; rw [h1', Bool.false_and]
      · have hres : r = a2 := by
          have h := HRES.out
          rw [List.find?_eq_none.2 (fun g hg => by
            rw [HG.out.2.2 g (by rw [List.take_of_length_le (by have := HG.out; omega)]; exact hg)]
            simp)] at h
          exact (Option.some.inj h).symm
        subst hres
        go_wp2
        go_ret
        exact ⟨rfl, below_step HB.out HBL.out⟩
  · have hres : a2 = r := by
      have h := H.out
      rw [if_neg he] at h
      exact Option.some.inj h
    have he2 : (eo != 0) = true := bne_iff_ne.2 he
    have HRES := Aside0.mk hres
    clear H he hres
    go_wp2
    go_ret
    exact ⟨by rw [← HRES.out]; rfl, HB.out⟩

end Go.Proofs.Ytfcpebjjcijgcaa.G
-- by hand: lemmas
namespace Go.Proofs.Ytfcpebjjcijgcaa.G
open Go.RowKit Go.Proofs.YtfcpebjjcijgcaaW.PrintWords Go.Proofs.YtfcpebjjcijgcaaW.PrintLast Go.Proofs.YtfcpebjjcijgcaaW.PrintMore
attribute [local go_sem] max2_int min2_int max_two min_two max_three min_three max_four min_four   -- for this text's walks alone
set_option linter.unusedVariables false
set_option linter.unusedSimpArgs false

/-! What the new order is -/
theorem nms_renum : ∀ (p : Int) (l : List S36), nms (renum p l) = nms l
  | _, [] => rfl
  | _, g :: l => by
    show g.f0 :: nms (renum _ l) = g.f0 :: nms l
    rw [nms_renum _ l]
theorem gOf_mem {G : List S36} {s : ByteArray} (h : memB s (nms G) = true) : gOf G s ∈ G ∧ (gOf G s).f0 = s := by
  obtain ⟨j, hj, he, hf, _⟩ := posI_get h
  unfold gOf
  rw [he, rdT36 hj]
  exact ⟨List.getElem_mem hj, hf⟩
theorem refRow_mem {G : List S36} {names : List ByteArray} (hall : ∀ s, s ∈ names → memB s (nms G) = true) {g : S36} (h : g ∈ refRow G names) : g ∈ G := by
  rcases List.mem_append.1 h with h | h
  · obtain ⟨s, hs, rfl⟩ := List.mem_map.1 h
    exact (gOf_mem (hall s hs)).1
  · exact (List.mem_filter.1 h).1
theorem nms_refRow {G : List S36} {names : List ByteArray} (hall : ∀ s, s ∈ names → memB s (nms G) = true) : nms (refRow G names) = names ++ (nms G).filter fun s => !memB s names := by
  unfold refRow nms
  rw [List.map_append, List.map_map, List.filter_map]
  congr 1
  conv => rhs; rw [← List.map_id names]
  exact List.map_congr_left fun s hs => (gOf_mem (hall s hs)).2
theorem refRow_nodup {G : List S36} {names : List ByteArray} (hall : ∀ s, s ∈ names → memB s (nms G) = true) (hn : names.Nodup) (hG : (nms G).Nodup) : (nms (refRow G names)).Nodup := by
  rw [nms_refRow hall, List.nodup_append]
  refine ⟨hn, (List.filter_sublist).nodup hG, fun a ha b hb e => ?_⟩
  subst e
  have := (List.mem_filter.1 hb).2
  rw [memB_iff.2 ha] at this
  cases this
theorem refRow_has {G : List S36} {names : List ByteArray} (hall : ∀ s, s ∈ names → memB s (nms G) = true) (s : ByteArray) : memB s (nms (refRow G names)) = memB s (nms G) := by
  rw [Bool.eq_iff_iff, memB_iff, memB_iff, nms_refRow hall, List.mem_append, List.mem_filter]
  constructor
  · rintro (h | h)
    · exact memB_iff.1 (hall s h)
    · exact h.1
  · intro h
    by_cases hm : memB s names = true
    · exact .inl (memB_iff.1 hm)
    · exact .inr ⟨h, by rw [Bool.eq_false_iff.2 hm]; rfl⟩
/-- Order has answered with no error. -/
structure Ordered (E : List S49) (G : List S36) (base b3 b4 : Int) (names : List ByteArray) (R : List S36) : Prop where
  c : chk E G base b3 b4 = 0
  all : ∀ s, s ∈ names → memB s (nms G) = true
  nd : names.Nodup
  r : R = renum (rd_T36 G 0).f1 (refRow G names)
theorem ordA_zero {E : List S49} {G : List S36} {base b3 b4 : Int} {names : List ByteArray} (h : (ordA E G base b3 b4 names).2 = 0) : Ordered E G base b3 b4 names (ordA E G base b3 b4 names).1 := by
  unfold ordA at h ⊢
  by_cases hc : chk E G base b3 b4 = 0
  · rw [if_pos hc] at h ⊢
    unfold rordP at h ⊢
    by_cases h1 : names.any (fun s => !memB s (nms G)) = true
    · rw [if_pos h1] at h
      cases h
    · rw [if_neg h1] at h ⊢
      by_cases h2 : names.Nodup
      · rw [if_pos h2]
        refine ⟨hc, fun s hs => ?_, h2, rfl⟩
        cases hm : memB s (nms G) with
        | true => rfl
        | false => exact absurd (List.any_eq_true.2 ⟨s, hs, by rw [hm]; rfl⟩) h1
      · rw [if_neg h2] at h
        cases h
  · rw [if_neg hc] at h
    exact absurd h hc
theorem ordA_bad {E : List S49} {G : List S36} {base b3 b4 : Int} {names : List ByteArray} (h : (ordA E G base b3 b4 names).2 ≠ 0) : (ordA E G base b3 b4 names).1 = [] := by
  unfold ordA at h ⊢
  by_cases hc : chk E G base b3 b4 = 0
  · rw [if_pos hc] at h ⊢
    unfold rordP at h ⊢
    by_cases h1 : names.any (fun s => !memB s (nms G)) = true
    · rw [if_pos h1]
    · rw [if_neg h1] at h ⊢
      by_cases h2 : names.Nodup
      · rw [if_pos h2] at h
        exact absurd rfl h
      · rw [if_neg h2]
  · rw [if_neg hc]
theorem Ordered.gr {E : List S49} {G : List S36} {base b3 b4 : Int} {names : List ByteArray} {R : List S36} (h : Ordered E G base b3 b4 names R) : (∀ g, g ∈ G → nameP g.f0 = true) ∧ (nms G).Nodup ∧ (∀ g, g ∈ G → 1 ≤ g.f1 ∧ g.f1 ≤ g.f2 ∧ g.f2 < base) ∧ inRow G = true := grErr_zero (chk_zero h.c).2.2
theorem Ordered.nms_eq {E : List S49} {G : List S36} {base b3 b4 : Int} {names : List ByteArray} {R : List S36} (h : Ordered E G base b3 b4 names R) : nms R = nms (refRow G names) := by rw [h.r, nms_renum]
theorem Ordered.nodup {E : List S49} {G : List S36} {base b3 b4 : Int} {names : List ByteArray} {R : List S36} (h : Ordered E G base b3 b4 names R) : (nms R).Nodup := by rw [h.nms_eq]; exact refRow_nodup h.all h.nd h.gr.2.1
theorem Ordered.has {E : List S49} {G : List S36} {base b3 b4 : Int} {names : List ByteArray} {R : List S36} (h : Ordered E G base b3 b4 names R) (s : ByteArray) : memB s (nms R) = memB s (nms G) := by rw [h.nms_eq]; exact refRow_has h.all s
theorem Ordered.row_len {E : List S49} {G : List S36} {base b3 b4 : Int} {names : List ByteArray} {R : List S36} (h : Ordered E G base b3 b4 names R) : (refRow G names).length = G.length := by rw [← sortG_row h.gr.2.1 h.nd h.all, sortG_length]
theorem Ordered.len {E : List S49} {G : List S36} {base b3 b4 : Int} {names : List ByteArray} {R : List S36} (h : Ordered E G base b3 b4 names R) : R.length = G.length := by rw [h.r, renum_length, h.row_len]
theorem fits_iff {l : List S36} : fits l = true ↔ l.length ≤ 1099511627776 ∧ ∀ s, s ∈ nms l → s.size ≤ 9223372036854775807 := by
  simp only [fits, Bool.and_eq_true, List.all_eq_true, decide_eq_true_eq, nms, List.mem_map]
  constructor
  · rintro ⟨h1, h2⟩
    exact ⟨h1, fun s ⟨g, hg, e⟩ => e ▸ h2 g hg⟩
  · rintro ⟨h1, h2⟩
    exact ⟨h1, fun g hg => h2 _ ⟨g, hg, rfl⟩⟩
theorem ordA_fits (E : List S49) (G : List S36) (base b3 b4 : Int) (names : List ByteArray) (hG : fits G = true) : fits (ordA E G base b3 b4 names).1 = true := by
  by_cases h : (ordA E G base b3 b4 names).2 = 0
  · have ho := ordA_zero h
    rw [fits_iff] at hG ⊢
    refine ⟨by rw [ho.len]; exact hG.1, fun s hs => hG.2 s ?_⟩
    rw [← memB_iff, ← ho.has, memB_iff]
    exact hs
  · rw [ordA_bad h]
    rfl
theorem loL_last : ∀ (l : List S36) (s : ByteArray), memB s (nms l) = false → ∀ a : Int, l.foldl (fun acc g => if g.f0 = s then g.f1 else acc) a = a
  | [], _, _, _ => rfl
  | g :: l, s, h, a => by
    have h : (decide (g.f0 = s) || memB s (nms l)) = false := h
    rw [Bool.or_eq_false_iff, decide_eq_false_iff_not] at h
    rw [List.foldl_cons, if_neg h.1]
    exact loL_last l s h.2 a
theorem loL_fold : ∀ (l : List S36) (_ : (nms l).Nodup) (j : Nat) (hj : j < l.length) (a : Int), l.foldl (fun acc g => if g.f0 = l[j].f0 then g.f1 else acc) a = l[j].f1
  | [], _, _, hj, _ => by simp at hj
  | g :: l, hd, j, hj, a => by
    have hd : ¬ g.f0 ∈ nms l ∧ (nms l).Nodup := List.nodup_cons.1 hd
    cases j with
    | zero =>
      rw [List.foldl_cons]
      simp only [List.getElem_cons_zero, if_true]
      exact loL_last l g.f0 (memB_false.2 hd.1) _
    | succ j =>
      rw [List.foldl_cons]
      simp only [List.getElem_cons_succ]
      exact loL_fold l hd.2 j (by simpa using hj) _
theorem loL_get {l : List S36} (hd : (nms l).Nodup) {j : Nat} (hj : j < l.length) : loL l l[j].f0 = l[j].f1 := loL_fold l hd j hj 0
/-- The group of a name begins where loL says. -/
theorem loL_pos {l : List S36} (hd : (nms l).Nodup) {s : ByteArray} (hs : memB s (nms l) = true) : loL l s = (rd_T36 l (posI l s)).f1 := by
  obtain ⟨j, hj, he, hf, _⟩ := posI_get hs
  rw [he, rdT36 hj, ← hf, loL_get hd hj]
section
variable (E : List S49) (G : List S36) (base b3 b4 : Int) (names : List ByteArray) (hE : eFits E) (hG : fits G = true) (h8 : G.length ≤ 8) (hN : namesFit names = true)
include hE hG h8 hN
/-- The answer to Move. -/
def movA (E : List S49) (G : List S36) (base b3 b4 : Int) (names : List ByteArray) (x : Int) : Int := if (ordA E G base b3 b4 names).2 = 0 then moveP G (ordA E G base b3 b4 names).1 x else x
theorem gmove_ev (x : Int) : Ev (fun k => groups_Move.f k E G base b3 b4 names x) (movA E G base b3 b4 names x) := move_ev E G base b3 b4 names x hE hG h8 hN (ordA_fits E G base b3 b4 names hG)
theorem rmove_ev (x : Int) : Ev (fun k => unicodetextref47_Move.f k E G base b3 b4 names x) (movA E G base b3 b4 names x) := by
  refine Ev.bind (rorder_ev' E G base b3 b4 names hE hG h8 hN) ?_
  unfold movA
  by_cases h : (ordA E G base b3 b4 names).2 = 0
  · have ho := ordA_zero h
    generalize (ordA E G base b3 b4 names).1 = R at ho
    simp only [h, if_true, if_pos hG]
    unfold moveP
    show Ev (fun k => match G.find? (inG x) with | some g => (unicodetextref47_index.f k R g.f0).bind fun j => if 0 ≤ j ∧ j < (R.length : Int) then some (wrap64 (wrap64 ((rd_T36 R j).f1 + x) - g.f1)) else none | none => some x) (match G.find? (inG x) with | some g => wrap64 (wrap64 (x - g.f1) + if memB g.f0 (nms R) = true then loL R g.f0 else 0) | none => x)
    cases hf : G.find? (inG x) with
    | none => exact Ev.now _
    | some g =>
      have hg : g ∈ G := List.mem_of_find?_eq_some hf
      have hm : memB g.f0 (nms R) = true := by
        rw [ho.has]
        exact memB_iff.2 (List.mem_map.2 ⟨g, hg, rfl⟩)
      obtain ⟨j, hj, he, hf2, _⟩ := posI_get hm
      refine Ev.bind (rindex_ev R g.f0 (by rw [ho.len]; omega)) ?_
      simp only [hm, if_true]
      rw [if_pos ⟨by omega, by omega⟩, loL_pos ho.nodup hm]
      rw [show wrap64 (wrap64 (x - g.f1) + (rd_T36 R (posI R g.f0)).f1) = wrap64 (wrap64 ((rd_T36 R (posI R g.f0)).f1 + x) - g.f1) by unfold wrap64; omega]
      exact Ev.now _
  · simp only [h, if_false]
    exact Ev.now _
end
/-- What a small collation and few names bring along. -/
theorem few_fits {E : List S49} {G : List S36} {names : List ByteArray} (hsG : ∀ g, g ∈ G → g.f0.size ≤ 9223372036854775807) (hsN : ∀ s, s ∈ names → s.size ≤ 9223372036854775807) (hf : (smallP E G && decide (names.length ≤ 12)) = true) : eFits E ∧ fits G = true ∧ G.length ≤ 8 ∧ namesFit names = true ∧ names.length ≤ 12 := by
  simp only [Bool.and_eq_true, decide_eq_true_eq] at hf
  obtain ⟨hE, h8⟩ := small_fits hf.1
  refine ⟨hE, ?_, h8, ?_, hf.2⟩
  · simp only [fits, Bool.and_eq_true, List.all_eq_true, decide_eq_true_eq]
    exact ⟨by omega, hsG⟩
  · simp only [namesFit, Bool.and_eq_true, List.all_eq_true, decide_eq_true_eq]
    exact ⟨by omega, hsN⟩

end Go.Proofs.Ytfcpebjjcijgcaa.G
-- by hand: lemmas
namespace Go.Proofs.Ytfcpebjjcijgcaa.G
open Go.RowKit Go.Proofs.YtfcpebjjcijgcaaW.PrintWords Go.Proofs.YtfcpebjjcijgcaaW.PrintLast Go.Proofs.YtfcpebjjcijgcaaW.PrintMore
attribute [local go_sem] max2_int min2_int max_two min_two max_three min_three max_four min_four   -- for this text's walks alone
set_option linter.unusedVariables false
set_option linter.unusedSimpArgs false

/-! GroupsKeeps -/
/-- How many weights a group has. -/
def wid (g : S36) : Int := g.f2 - g.f1 + 1
def sumW : List S36 → Int
  | [] => 0
  | g :: l => wid g + sumW l
/-- Numbered anew with no wrap. -/
def renumZ : Int → List S36 → List S36
  | _, [] => []
  | p, g :: l => ⟨g.f0, p, p + g.f2 - g.f1⟩ :: renumZ (p + wid g) l
def posW (l : List S36) : Prop := ∀ g, g ∈ l → 1 ≤ wid g
theorem sumW_pos : ∀ {l : List S36}, posW l → 0 ≤ sumW l
  | [], _ => by simp [sumW]
  | g :: l, h => by
    have h1 := h g List.mem_cons_self
    have h2 := sumW_pos (l := l) fun x hx => h x (List.mem_cons_of_mem _ hx)
    unfold sumW
    omega
theorem renum_Z : ∀ (l : List S36) (p : Int), posW l → (∀ g, g ∈ l → 0 ≤ g.f1 ∧ g.f2 ≤ 1000000) → 0 ≤ p → p + sumW l ≤ 1000000 → renum p l = renumZ p l
  | [], _, _, _, _, _ => rfl
  | g :: l, p, hp, hb, h0, h1 => by
    have hg := hp g List.mem_cons_self
    have hg2 := hb g List.mem_cons_self
    have hp2 : posW l := fun x hx => hp x (List.mem_cons_of_mem _ hx)
    have hs := sumW_pos hp2
    unfold sumW at h1
    have hw := hg
    unfold wid at hw h1
    have e1 : wrap64 (wrap64 (p + g.f2) - g.f1) = p + g.f2 - g.f1 := by unfold wrap64; omega
    have e2 : wrap64 (wrap64 (wrap64 (p + g.f2) - g.f1) + 1) = p + wid g := by rw [e1]; unfold wrap64 wid; omega
    unfold renum renumZ
    rw [e2, e1, renum_Z l (p + wid g) hp2 (fun x hx => hb x (List.mem_cons_of_mem _ hx)) (by unfold wid; omega) (by unfold wid; omega)]
theorem renumZ_mem : ∀ (l : List S36) (p : Int), posW l → ∀ g, g ∈ renumZ p l → p ≤ g.f1 ∧ g.f1 ≤ g.f2 ∧ g.f2 < p + sumW l
  | [], _, _, g, hg => by cases hg
  | a :: l, p, hp, g, hg => by
    have ha := hp a List.mem_cons_self
    have hp2 : posW l := fun x hx => hp x (List.mem_cons_of_mem _ hx)
    have hs := sumW_pos hp2
    unfold sumW
    unfold wid at ha ⊢
    rcases List.mem_cons.1 hg with rfl | hg
    · show p ≤ p ∧ p ≤ p + a.f2 - a.f1 ∧ p + a.f2 - a.f1 < _
      omega
    · have := renumZ_mem l (p + wid a) hp2 g hg
      unfold wid at this
      omega
theorem inG_iff {x : Int} {g : S36} : inG x g = true ↔ g.f1 ≤ x ∧ x ≤ g.f2 := by simp [inG]
theorem renumZ_cover : ∀ (l : List S36) (p : Int), posW l → ∀ x, p ≤ x → x < p + sumW l → ∃ i, ∃ hi : i < (renumZ p l).length, inG x (renumZ p l)[i] = true
  | [], p, _, x, h0, h1 => by simp [sumW] at h1; omega
  | a :: l, p, hp, x, h0, h1 => by
    have ha := hp a List.mem_cons_self
    have hp2 : posW l := fun x hx => hp x (List.mem_cons_of_mem _ hx)
    by_cases hx : x ≤ p + a.f2 - a.f1
    · exact ⟨0, by simp [renumZ], inG_iff.2 ⟨h0, hx⟩⟩
    · obtain ⟨i, hi, h⟩ := renumZ_cover l (p + wid a) hp2 x (by unfold wid; omega) (by unfold sumW at h1; omega)
      exact ⟨i + 1, by simpa [renumZ] using hi, h⟩
theorem renumZ_find : ∀ (l : List S36) (p : Int), posW l → ∀ (x : Int) (i : Nat) (hi : i < (renumZ p l).length), inG x (renumZ p l)[i] = true → ∀ j (hj : j < i), inG x ((renumZ p l)[j]'(by omega)) = false
  | [], _, _, _, i, hi, _, _, _ => by simp [renumZ] at hi
  | a :: l, p, hp, x, i, hi, h, j, hj => by
    have ha := hp a List.mem_cons_self
    have hp2 : posW l := fun x hx => hp x (List.mem_cons_of_mem _ hx)
    obtain ⟨i, rfl⟩ : ∃ m, i = m + 1 := ⟨i - 1, by omega⟩
    have hi2 : i < (renumZ (p + wid a) l).length := by simpa [renumZ] using hi
    have h2 : inG x (renumZ (p + wid a) l)[i] = true := h
    cases j with
    | zero =>
      have h3 := renumZ_mem l (p + wid a) hp2 _ (List.getElem_mem hi2)
      have h4 := (inG_iff.1 h2).1
      rw [← Bool.not_eq_true]
      intro h5
      have h5 : p ≤ x ∧ x ≤ p + a.f2 - a.f1 := inG_iff.1 h5
      have hw : wid a = a.f2 - a.f1 + 1 := rfl
      omega
    | succ j => exact renumZ_find l (p + wid a) hp2 x i hi2 h2 j (by omega)
theorem renumZ_length : ∀ (p : Int) (l : List S36), (renumZ p l).length = l.length
  | _, [] => rfl
  | _, _ :: l => by
    show (renumZ _ l).length + 1 = l.length + 1
    rw [renumZ_length _ l]
theorem renumZ_wid : ∀ (l : List S36) (p : Int) (i : Nat) (hi : i < (renumZ p l).length) (hl : i < l.length), (renumZ p l)[i].f0 = l[i].f0 ∧ wid (renumZ p l)[i] = wid l[i]
  | [], _, _, hi, _ => by simp [renumZ] at hi
  | g :: l, p, i, hi, hl => by
    cases i with
    | zero =>
      refine ⟨rfl, ?_⟩
      show p + g.f2 - g.f1 - p + 1 = g.f2 - g.f1 + 1
      omega
    | succ i => exact renumZ_wid l (p + wid g) i (by simpa [renumZ] using hi) (by simpa using hl)
/-- The groups of a valid collation follow each other. -/
theorem inRow_Z : ∀ (l : List S36) (a : S36), (∀ g, g ∈ a :: l → 1 ≤ g.f1 ∧ g.f1 ≤ g.f2 ∧ g.f2 < 1000000) → inRow (a :: l) = true → a :: l = renumZ a.f1 (a :: l)
  | [], a, _, _ => by
    show [a] = [⟨a.f0, a.f1, a.f1 + a.f2 - a.f1⟩]
    rw [show a.f1 + a.f2 - a.f1 = a.f2 by omega]
  | b :: l, a, hb, h => by
    have ha := hb a List.mem_cons_self
    unfold inRow at h
    rw [Bool.and_eq_true, decide_eq_true_iff] at h
    have ih := inRow_Z l b (fun g hg => hb g (List.mem_cons_of_mem _ hg)) h.2
    have e1 : b.f1 = a.f1 + wid a := by
      rw [h.1]
      unfold wrap64 wid
      omega
    show a :: b :: l = ⟨a.f0, a.f1, a.f1 + a.f2 - a.f1⟩ :: renumZ (a.f1 + wid a) (b :: l)
    rw [← e1, ← ih, show a.f1 + a.f2 - a.f1 = a.f2 by omega]
theorem sumW_append : ∀ (l m : List S36), sumW (l ++ m) = sumW l + sumW m
  | [], m => by simp [sumW]
  | g :: l, m => by
    show wid g + sumW (l ++ m) = wid g + sumW l + sumW m
    rw [sumW_append l m]
    omega
theorem sumW_bucket (key : S36 → Nat) (l : List S36) : ∀ N, sumW (bucket key N l) = sumW (l.filter fun g => decide (key g < N))
  | 0 => by
    unfold bucket
    rw [List.range_zero, List.flatMap_nil]
    have : (l.filter fun g => decide (key g < 0)) = [] := List.filter_eq_nil_iff.2 fun g _ => by simp
    rw [this]
  | N + 1 => by
    have ih := sumW_bucket key l N
    unfold bucket at ih ⊢
    rw [filter_range, sumW_append, ih]
    clear ih
    induction l with
    | nil => rfl
    | cons g l ih =>
      rcases Nat.lt_trichotomy (key g) N with h | h | h
      · rw [List.filter_cons_of_pos (by simpa using h), List.filter_cons_of_neg (by simp; omega), List.filter_cons_of_pos (by simp; omega)]
        show wid g + sumW _ + sumW _ = wid g + sumW _
        omega
      · rw [List.filter_cons_of_neg (by simp; omega), List.filter_cons_of_pos (by simpa using h), List.filter_cons_of_pos (by simp; omega)]
        show sumW _ + (wid g + sumW _) = wid g + sumW _
        omega
      · rw [List.filter_cons_of_neg (by simp; omega), List.filter_cons_of_neg (by simp; omega), List.filter_cons_of_neg (by simp; omega)]
        exact ih
theorem refRow_sum {G : List S36} {names : List ByteArray} (hd : (nms G).Nodup) (hn : names.Nodup) (hall : ∀ s, s ∈ names → memB s (nms G) = true) : sumW (refRow G names) = sumW G := by
  rw [← sortG_row hd hn hall]
  unfold sortG
  rw [sumW_bucket]
  congr 1
  rw [List.filter_eq_self]
  intro g _
  have := idxN_le names g.f0
  simp
  omega
/-- Which group a weight lies in. -/
def grpI (l : List S36) (x : Int) : Int := match l.findIdx? (inG x) with | some i => (i : Int) | none => -1
theorem grouped_loop (l : List S36) (x : Int) (hl : l.length ≤ 1099511627776) : ∀ (d i : Nat), l.length - i = d → (∀ j (hj : j < i) (hjl : j < l.length), inG x l[j] = false) → Ev (fun k => unicodetextlaw47_grouped.l0 k l x (i : Int)) (grpI l x) := by
  intro d
  induction d with
  | zero =>
    intro i hd hj
    have hn : l.findIdx? (inG x) = none := by
      rw [List.findIdx?_eq_none_iff]
      intro g hg
      obtain ⟨j, hjl, rfl⟩ := List.mem_iff_getElem.1 hg
      exact hj j (by omega) hjl
    unfold grpI
    rw [hn]
    refine Ev.step (f := fun _ => some (-1)) (fun k => ?_) (Ev.now _)
    simp only [unicodetextlaw47_grouped.l0]
    rw [if_neg (by omega)]
  | succ d ih =>
    intro i hd hj
    have hi : i < l.length := by omega
    by_cases hg : inG x l[i] = true
    · have hs : l.findIdx? (inG x) = some i := by
        rw [List.findIdx?_eq_some_iff_getElem]
        exact ⟨hi, hg, fun j hji => by rw [hj j hji (by omega)]; simp⟩
      unfold grpI
      rw [hs]
      have h2 := inG_iff.1 hg
      refine Ev.step (f := fun _ => some (i : Int)) (fun k => ?_) (Ev.now _)
      simp only [unicodetextlaw47_grouped.l0]
      rw [rdT36 hi, if_pos (by omega), if_pos (by omega), if_pos (by omega), if_pos (by omega)]
    · have h2 : ¬ (l[i].f1 ≤ x ∧ x ≤ l[i].f2) := fun e => hg (inG_iff.2 e)
      refine Ev.step (f := fun k => unicodetextlaw47_grouped.l0 k l x ((i + 1 : Nat) : Int)) (fun k => ?_) (ih (i + 1) (by omega) (fun j hji hjl => ?_))
      · simp only [unicodetextlaw47_grouped.l0]
        rw [rdT36 hi, if_pos (by omega), if_pos (by omega), wrap_nat (by omega)]
        repeat' split
        all_goals first | rfl | (exfalso; omega)
      · by_cases e : j = i
        · subst e
          exact Bool.eq_false_iff.2 hg
        · exact hj j (by omega) hjl
theorem grouped_ev (l : List S36) (x : Int) (hl : l.length ≤ 1099511627776) : Ev (fun k => unicodetextlaw47_grouped.f k l x) (grpI l x) := grouped_loop l x hl _ 0 rfl (fun j hj => by omega)
/-- Two lists of groups that follow each other, of the same names and widths: what keeps the weights. -/
structure Moved (G R : List S36) (a0 S : Int) : Prop where
  cov : ∀ x, (∃ i, ∃ hi : i < G.length, inG x G[i] = true) ↔ a0 ≤ x ∧ x < a0 + S
  covR : ∀ x, (∃ i, ∃ hi : i < R.length, inG x R[i] = true) ↔ a0 ≤ x ∧ x < a0 + S
  one : ∀ (x : Int) (i : Nat) (hi : i < G.length), inG x G[i] = true → G.findIdx? (inG x) = some i
  oneR : ∀ (x : Int) (i : Nat) (hi : i < R.length), inG x R[i] = true → R.findIdx? (inG x) = some i
  same : ∀ (i : Nat) (hi : i < G.length), ∃ j, ∃ hj : j < R.length, R[j].f0 = G[i].f0 ∧ wid R[j] = wid G[i] ∧ posI R G[i].f0 = (j : Int) ∧ ∀ k (hk : k < G.length), posI R G[k].f0 = (j : Int) → k = i
  small : 0 ≤ a0 ∧ a0 + S ≤ 1000000
theorem Z_cov {l : List S36} {p : Int} (hp : posW l) (x : Int) : (∃ i, ∃ hi : i < (renumZ p l).length, inG x (renumZ p l)[i] = true) ↔ p ≤ x ∧ x < p + sumW l := by
  constructor
  · rintro ⟨i, hi, h⟩
    have h1 := renumZ_mem l p hp _ (List.getElem_mem hi)
    have h2 := inG_iff.1 h
    omega
  · rintro ⟨h0, h1⟩
    exact renumZ_cover l p hp x h0 h1
theorem Z_one {l : List S36} {p : Int} (hp : posW l) (x : Int) (i : Nat) (hi : i < (renumZ p l).length) (h : inG x (renumZ p l)[i] = true) : (renumZ p l).findIdx? (inG x) = some i := by
  rw [List.findIdx?_eq_some_iff_getElem]
  exact ⟨hi, h, fun j hj => by rw [renumZ_find l p hp x i hi h j hj]; simp⟩
theorem nms_inj {l : List S36} (hd : (nms l).Nodup) {i j : Nat} (hi : i < l.length) (hj : j < l.length) (h : l[i].f0 = l[j].f0) : i = j := by
  have hi2 : i < (nms l).length := by simpa [nms] using hi
  have hj2 : j < (nms l).length := by simpa [nms] using hj
  refine (List.getElem_inj (h₀ := hi2) (h₁ := hj2) hd).1 ?_
  simpa [nms] using h
theorem ordered_moved {E : List S49} {G : List S36} {base b3 b4 : Int} {names : List ByteArray} {R : List S36} (h : Ordered E G base b3 b4 names R) (hne : G ≠ []) : ∃ a0 S, Moved G R a0 S := by
  obtain ⟨_, hnd, hval, hrow⟩ := h.gr
  have hbase := (chk_zero h.c).2.1
  have hlen := h.len
  have hrl := h.row_len
  obtain ⟨a, l, rfl⟩ : ∃ a l, G = a :: l := by
    cases G with
    | nil => exact absurd rfl hne
    | cons a l => exact ⟨a, l, rfl⟩
  have hb : ∀ g, g ∈ a :: l → 1 ≤ g.f1 ∧ g.f1 ≤ g.f2 ∧ g.f2 < 1000000 := fun g hg => by
    have := hval g hg
    omega
  have hGZ := inRow_Z l a hb hrow
  have hpG : posW (a :: l) := fun g hg => by
    have := hb g hg
    unfold wid
    omega
  have hpR : posW (refRow (a :: l) names) := fun g hg => hpG g (refRow_mem h.all hg)
  have hsum := refRow_sum hnd h.nd h.all
  have ha := hb a List.mem_cons_self
  have hend : a.f1 + sumW (a :: l) ≤ 1000000 := by
    have := (Z_cov (p := a.f1) hpG (a.f1 + sumW (a :: l) - 1)).2 (by
      have : 1 ≤ sumW (a :: l) := by
        have h1 := hpG a List.mem_cons_self
        have h2 := sumW_pos (l := l) fun x hx => hpG x (List.mem_cons_of_mem _ hx)
        unfold sumW
        omega
      omega)
    rw [← hGZ] at this
    obtain ⟨i, hi, hx⟩ := this
    have h1 := (inG_iff.1 hx).2
    have h2 := hb _ (List.getElem_mem hi)
    omega
  have hRZ : R = renumZ a.f1 (refRow (a :: l) names) := by
    rw [h.r]
    exact renum_Z _ _ hpR (fun g hg => by
      have := hb g (refRow_mem h.all hg)
      omega) (by show 0 ≤ a.f1; omega) (by rw [hsum]; exact hend)
  have covG := fun x => Z_cov (p := a.f1) hpG x
  have oneG := fun x => Z_one (p := a.f1) hpG x
  rw [← hGZ] at covG oneG
  have covR := fun x => Z_cov (p := a.f1) hpR x
  have oneR := fun x => Z_one (p := a.f1) hpR x
  rw [← hRZ] at covR oneR
  refine ⟨a.f1, sumW (a :: l), ⟨covG, fun x => by rw [covR x, hsum], oneG, oneR, fun i hi => ?_, by omega, hend⟩⟩
  have hm : memB (a :: l)[i].f0 (nms R) = true := by
    rw [h.has]
    exact memB_iff.2 (List.mem_map.2 ⟨_, List.getElem_mem hi, rfl⟩)
  obtain ⟨j, hj, hpos, hf, _⟩ := posI_get hm
  refine ⟨j, hj, hf, ?_, hpos, fun k hk hk2 => ?_⟩
  · have hj2 : j < (refRow (a :: l) names).length := by omega
    subst hRZ
    obtain ⟨w0, w1⟩ := renumZ_wid (refRow (a :: l) names) a.f1 j hj hj2
    rw [w1]
    obtain ⟨i2, hi2, he⟩ := List.mem_iff_getElem.1 (refRow_mem h.all (List.getElem_mem hj2))
    rw [← he]
    congr 1
    have : i2 = i := nms_inj hnd hi2 hi (by rw [he, ← w0, hf])
    subst this
    rfl
  · have hm2 : memB (a :: l)[k].f0 (nms R) = true := by
      rw [h.has]
      exact memB_iff.2 (List.mem_map.2 ⟨_, List.getElem_mem hk, rfl⟩)
    obtain ⟨j2, hj2, hpos2, hf2, _⟩ := posI_get hm2
    have e : j2 = j := by omega
    subst e
    exact nms_inj hnd hk hi (by rw [← hf2, hf])
theorem find_of_idx {l : List S36} {p : S36 → Bool} {i : Nat} (hi : i < l.length) (h : l.findIdx? p = some i) : l.find? p = some l[i] := by
  rw [List.findIdx?_eq_some_iff_getElem] at h
  obtain ⟨_, h1, h2⟩ := h
  rw [List.find?_eq_some_iff_getElem]
  refine ⟨h1, i, hi, rfl, fun j hj => ?_⟩
  have := h2 j hj
  rw [Bool.not_eq_true] at this
  rw [this]
  rfl
theorem moved_in {G R : List S36} {a0 S : Int} (h : Moved G R a0 S) (hd : (nms R).Nodup) {x : Int} {i : Nat} (hi : i < G.length) (hx : inG x G[i] = true) : ∃ j, ∃ hj : j < R.length, moveP G R x = x - G[i].f1 + R[j].f1 ∧ inG (moveP G R x) R[j] = true ∧ R[j].f0 = G[i].f0 ∧ posI R G[i].f0 = (j : Int) := by
  obtain ⟨j, hj, hf, hw, hpos, _⟩ := h.same i hi
  have hx2 := inG_iff.1 hx
  have hsm := h.small
  have c1 := (h.cov x).1 ⟨i, hi, hx⟩
  have c2 := (h.cov G[i].f1).1 ⟨i, hi, inG_iff.2 (by omega)⟩
  unfold wid at hw
  have c3 := (h.covR R[j].f1).1 ⟨j, hj, inG_iff.2 (by omega)⟩
  have hm : memB G[i].f0 (nms R) = true := by
    rw [← hf]
    exact memB_iff.2 (List.mem_map.2 ⟨_, List.getElem_mem hj, rfl⟩)
  have e : moveP G R x = x - G[i].f1 + R[j].f1 := by
    unfold moveP
    show (match G.find? (inG x) with | some g => wrap64 (wrap64 (x - g.f1) + if memB g.f0 (nms R) = true then loL R g.f0 else 0) | none => x) = _
    rw [find_of_idx hi (h.one x i hi hx)]
    show wrap64 (wrap64 (x - G[i].f1) + if memB G[i].f0 (nms R) = true then loL R G[i].f0 else 0) = _
    rw [if_pos hm, loL_pos hd hm, hpos, rdT36 hj]
    unfold wrap64
    omega
  refine ⟨j, hj, e, ?_, hf, hpos⟩
  rw [e, inG_iff]
  omega
theorem moved_out {G R : List S36} {x : Int} (hx : ¬ ∃ i, ∃ hi : i < G.length, inG x G[i] = true) : moveP G R x = x ∧ grpI G x = -1 := by
  have h1 : G.find? (inG x) = none := by
    rw [List.find?_eq_none]
    intro g hg h
    obtain ⟨j, hj, rfl⟩ := List.mem_iff_getElem.1 hg
    exact hx ⟨j, hj, h⟩
  have h2 : G.findIdx? (inG x) = none := by
    rw [List.findIdx?_eq_none_iff]
    intro g hg
    obtain ⟨j, hj, rfl⟩ := List.mem_iff_getElem.1 hg
    exact Bool.eq_false_iff.2 fun h => hx ⟨j, hj, h⟩
  constructor
  · unfold moveP
    show (match G.find? (inG x) with | some g => wrap64 (wrap64 (x - g.f1) + if memB g.f0 (nms R) = true then loL R g.f0 else 0) | none => x) = _
    rw [h1]
  · unfold grpI
    rw [h2]
theorem grpI_in {l : List S36} {x : Int} {i : Nat} (h : l.findIdx? (inG x) = some i) : grpI l x = (i : Int) := by
  unfold grpI
  rw [h]
theorem grpI_at {l : List S36} {x : Int} {i : Nat} (h : grpI l x = (i : Int)) : ∃ hi : i < l.length, inG x l[i] = true := by
  unfold grpI at h
  split at h
  · rename_i j hj
    rw [List.findIdx?_eq_some_iff_getElem] at hj
    obtain ⟨hi, h1, _⟩ := hj
    have e : j = i := by omega
    subst e
    exact ⟨hi, h1⟩
  · omega
theorem moved_keeps {G R : List S36} {a0 S : Int} (h : Moved G R a0 S) (hd : (nms R).Nodup) (a b : Int) : keepsAt G R a b (moveP G R a) (moveP G R b) (grpI G a) (grpI G b) (grpI R (moveP G R a)) := by
  by_cases ha : ∃ i, ∃ hi : i < G.length, inG a G[i] = true
  · obtain ⟨i, hi, hx⟩ := ha
    obtain ⟨j, hj, e, hin, hf, hpos⟩ := moved_in h hd hi hx
    have gi := grpI_in (h.one a i hi hx)
    have gj := grpI_in (h.oneR _ j hj hin)
    refine .inr ⟨by omega, by omega, by omega, by omega, by rw [gi, gj, rdT36 hi, rdT36 hj, hf], fun hij => ?_⟩
    rw [gi] at hij
    obtain ⟨_, hb⟩ := grpI_at hij.symm
    obtain ⟨j2, hj2, e2, _, _, hpos2⟩ := moved_in h hd hi hb
    have ej : j2 = j := by omega
    subst ej
    rw [e, e2]
    congr 1
    omega
  · obtain ⟨e, gi⟩ := moved_out (R := R) ha
    have hr : ¬ ∃ i, ∃ hi : i < R.length, inG a R[i] = true := fun hh => ha ((h.cov a).2 ((h.covR a).1 hh))
    refine .inl ⟨by omega, ?_, e⟩
    rw [e, (moved_out (R := R) hr).2]
    omega
theorem moved_inj {G R : List S36} {a0 S : Int} (h : Moved G R a0 S) (hd : (nms R).Nodup) (a b : Int) : (moveP G R a == moveP G R b) = (a == b) := by
  rw [Bool.eq_iff_iff, beq_iff_eq, beq_iff_eq]
  constructor
  · intro he
    by_cases ha : ∃ i, ∃ hi : i < G.length, inG a G[i] = true
    · obtain ⟨i, hi, hx⟩ := ha
      obtain ⟨j, hj, e, hin, hf, hpos⟩ := moved_in h hd hi hx
      by_cases hb : ∃ i, ∃ hi : i < G.length, inG b G[i] = true
      · obtain ⟨i2, hi2, hx2⟩ := hb
        obtain ⟨j2, hj2, e2, hin2, hf2, hpos2⟩ := moved_in h hd hi2 hx2
        have o1 := h.oneR _ j hj hin
        have o2 := h.oneR _ j2 hj2 hin2
        rw [he] at o1
        have ej : j = j2 := Option.some.inj (o1.symm.trans o2)
        subst ej
        obtain ⟨j3, hj3, _, _, hpos3, huniq⟩ := h.same i hi
        have ei : i2 = i := huniq i2 hi2 (by omega)
        subst ei
        omega
      · have c1 := (h.covR _).1 ⟨j, hj, hin⟩
        rw [he, (moved_out (R := R) hb).1] at c1
        exact absurd ((h.cov b).2 c1) hb
    · have ea := (moved_out (R := R) ha).1
      by_cases hb : ∃ i, ∃ hi : i < G.length, inG b G[i] = true
      · obtain ⟨i2, hi2, hx2⟩ := hb
        obtain ⟨j2, hj2, e2, hin2, _, _⟩ := moved_in h hd hi2 hx2
        have c1 := (h.covR _).1 ⟨j2, hj2, hin2⟩
        rw [← he, ea] at c1
        exact absurd ((h.cov a).2 c1) ha
      · rw [ea, (moved_out (R := R) hb).1] at he
        exact he
  · rintro rfl
    rfl
theorem ordered_moved' {E : List S49} {G : List S36} {base b3 b4 : Int} {names : List ByteArray} {R : List S36} (h : Ordered E G base b3 b4 names R) : ∃ a0 S, Moved G R a0 S := by
  by_cases hne : G = []
  · subst hne
    have hR : R = [] := List.length_eq_zero_iff.1 h.len
    subst hR
    refine ⟨0, 0, ⟨fun x => ⟨?_, fun hx => by omega⟩, fun x => ⟨?_, fun hx => by omega⟩, fun _ i hi => by simp at hi, fun _ i hi => by simp at hi, fun i hi => by simp at hi, by omega, by omega⟩⟩
    · rintro ⟨i, hi, _⟩
      simp at hi
    · rintro ⟨i, hi, _⟩
      simp at hi
  · exact ordered_moved h hne
theorem keeps_law (E : List S49) (G : List S36) (base b3 b4 : Int) (names : List ByteArray) (a b : Int) (hsG : ∀ g, g ∈ G → g.f0.size ≤ 9223372036854775807) (hsN : ∀ s, s ∈ names → s.size ≤ 9223372036854775807) : ∃ k, unicodetextlaw47_GroupsKeeps.f k E G base b3 b4 names a b = some true := by
  refine Ev.rounds ?_
  refine Ev.bind (few_ev E G base b3 b4 names) ?_
  by_cases hf : (smallP E G && decide (names.length ≤ 12)) = true
  · simp only [hf, if_true]
    obtain ⟨hE, hG, h8, hN, _⟩ := few_fits hsG hsN hf
    refine Ev.bind (order_ev E G base b3 b4 names hE hG h8 hN) ?_
    refine Ev.bind (gmove_ev E G base b3 b4 names hE hG h8 hN a) ?_
    refine Ev.bind (gmove_ev E G base b3 b4 names hE hG h8 hN b) ?_
    unfold movA
    by_cases h : (ordA E G base b3 b4 names).2 = 0
    · have ho := ordA_zero h
      obtain ⟨a0, S, hM⟩ := ordered_moved' ho
      simp only [h, if_true]
      generalize (ordA E G base b3 b4 names).1 = R at ho hM
      have hk := moved_keeps hM ho.nodup a b
      simp only [if_pos (moved_inj hM ho.nodup a b)]
      refine Ev.bind (grouped_ev G a (fits_len hG)) ?_
      refine Ev.bind (grouped_ev G b (fits_len hG)) ?_
      refine Ev.bind (grouped_ev R _ (by rw [ho.len]; exact fits_len hG)) ?_
      simp only [if_pos hk]
      exact alive_ev
    · simp only [h, if_false, if_true, and_self]
      exact alive_ev
  · simp only [hf, if_false]
    exact alive_ev
/-- A collation, names and two weights that came in. -/
theorem opens_two {H : Type} {enc : TypeId × Value → H} {w : World} {sp : Nat → Bool} {held : Bool} {fuel : Nat} {cs : List Value} {y : DataW H × List MemPlace} (h : DataW.trod enc Try.prog w 0 sp held fuel 38 cs = some y) :
    ∃ A0 c0, ∃ E : List S49, ∃ A1 c1, ∃ G : List S36, ∃ b2 b3 b4 : Int, ∃ A2 c2, ∃ L : List ByteArray, ∃ x z : Int, cs = [.slice A0 E.length c0, .slice A1 G.length c1, .int .i64 b2, .int .i64 b3, .int .i64 b4, .slice A2 L.length c2, .int .i64 x, .int .i64 z] ∧ E.length ≤ c0 ∧ Kd.C k49 w A0 E.length E ∧ G.length ≤ c1 ∧ Kd.C k36 w A1 G.length G ∧ (∀ g, g ∈ G → g.f0.size ≤ 9223372036854775807) ∧ L.length ≤ c2 ∧ Kd.C Kd.string w A2 L.length L ∧ ∀ s, s ∈ L → s.size ≤ 9223372036854775807 := by
  obtain ⟨xs, n, rfl, _, hl, hxl, hx⟩ := DataW.trod_struct Try.underlying38 h
  have hl : cs.length = 8 := hl
  have hxl : xs.length = 4 := hxl
  have t0 := hx 0 _ rfl
  have t1 := hx 1 _ rfl
  have t2 := hx 2 _ rfl
  have t3 := hx 3 _ rfl
  rw [List.getElem?_eq_getElem (by omega)] at t0 t1 t2 t3
  obtain ⟨A0, c0, E, A1, c1, G, b2, b3, b4, e0, l0, g0, l1, g1, hs⟩ := opens_coll t0
  obtain ⟨A2, c2, L, e1, l2, g2, hs2⟩ := opens_names t1
  obtain ⟨x, e2, _, _⟩ := DataW.trod_int Try.underlying3 t2
  obtain ⟨z, e3, _, _⟩ := DataW.trod_int Try.underlying3 t3
  match cs, hl with
  | [d0, d1, d2, d3, d4, d5, d6, d7], _ =>
    have e0 : [d0, d1, d2, d3, d4] = [.slice A0 E.length c0, .slice A1 G.length c1, .int .i64 b2, .int .i64 b3, .int .i64 b4] := e0
    have e1 : [d5] = [.slice A2 L.length c2] := e1
    have e2 : [d6] = [.int .i64 x] := e2
    have e3 : [d7] = [.int .i64 z] := e3
    exact ⟨A0, c0, E, A1, c1, G, b2, b3, b4, A2, c2, L, x, z, by rw [show [d0, d1, d2, d3, d4, d5, d6, d7] = [d0, d1, d2, d3, d4] ++ [d5] ++ [d6] ++ [d7] from rfl, e0, e1, e2, e3]; rfl, l0, g0, l1, g1, hs, l2, g2, hs2⟩

end Go.Proofs.Ytfcpebjjcijgcaa.G
namespace Go.Proofs.Ytfcpebjjcijgcaa.groupsKeeps
open Go.ChangeShapes Go.WideShapes Go.ChangeAt Go.RowKit Go.Proofs.YtfcpebjjcijgcaaW.PrintWords Go.Proofs.YtfcpebjjcijgcaaW.PrintLast Go.Proofs.YtfcpebjjcijgcaaW.PrintMore Go.Proofs.Ytfcpebjjcijgcaa.G
theorem own : ownKnob Try.prog.godebug = none := by kernel_rfl
theorem laidOut : laidOutB Try.prog = true := by kernel_rfl
set_option maxRecDepth 100000 in
theorem lifted (os : Os) (started : os.Started) (H : Type) (enc : TypeId × Value → H) :
    ReturnsInHanded {} Try.checked os 6 .any (Rows.groupsKeepsSpec.pre6 enc Try.prog Try.f6 Rows.groupsKeepsRow.domain false) (Rows.groupsKeepsSpec.post enc Try.prog Try.f6 false true false false) := by
  refine returnsInHanded_of_change_sized (C := Try.checked) own started (by kernel_rfl) Try.func6
    (ChangeSpec.witness6 (enc := enc) (C := Try.checked) false ⟨#[], #[.agg #[.slice none 0 0, .slice none 0 0, .int .i64 0, .int .i64 0, .int .i64 0, .slice none 0 0, .int .i64 0, .int .i64 0]], []⟩ 8 (by kernel_rfl) (by kernel_rfl) (by kernel_rfl) (by kernel_rfl)) ?_
  intro W base args ds gs before hval0 hW hcnd hsz0 _
  have hval : ∀ (j : Nat) t v, Try.f6.params[j]? = some t → args[j]? = some v → Value.okWide Try.prog W .any base t v := hval0
  have hW' := hW
  obtain ⟨p, q, hA0, hV, rfl, hfz, hnd⟩ := hW
  have hA : DataW.TrodAll enc Try.prog W 0 (fun _ => true) true Try.f6.params.toList args.toList ds p := hA0
  rw [Try.params6] at hA hval
  obtain ⟨v0, vs0, d0, ds0, p0, q0, hargs, rfl, rfl, h0, r0⟩ := trodAll_cons hA
  obtain ⟨rfl, rfl, rfl⟩ := trodAll_nil r0
  obtain rfl : args = #[v0] := by cases args; simp_all
  obtain ⟨rfl, rfl⟩ := trodVars_none hV
  obtain ⟨cs0, rfl, _⟩ := okWide_struct Try.underlying38 (hval 0 38 v0 rfl rfl)
  have k0 := h0
  have lt0 : ∀ x ∈ p0, x.block < W.heap.size := by obtain ⟨m, hm⟩ := k0; exact DataW.trod_lt m _ _ _ hm
  obtain ⟨m0, hm0⟩ := h0
  obtain ⟨A0, c0, E, A1, c1, G, b2, b3, b4, A2, c2, L, x, y, hc0, l0, g0, l1, g1, hsG, l2, g2, hsN⟩ := opens_two hm0
  obtain rfl : cs0 = #[.slice A0 E.length c0, .slice A1 G.length c1, .int .i64 b2, .int .i64 b3, .int .i64 b4, .slice A2 L.length c2, .int .i64 x, .int .i64 y] := Array.toList_inj.1 hc0
  clear hA0 hval0 hsz0
  obtain ⟨k, hk⟩ := keeps_law E G b2 b3 b4 L x y hsG hsN
  refine (unicodetextlaw47_GroupsKeeps.calls k A0 c0 E A1 c1 G b2 b3 b4 A2 c2 L x y true W g0 l0 g1 l1 g2 l2 hk).mono fun e W' ⟨he, bel⟩ => ?_
  subst he
  exact ⟨_, rfl, _, _, _, [], _, [], hW', trodAll_mk1 (shut_bool Try.underlying4 _), (trodAll_cons_mk (Below.trod laidOut (by kernel_rfl) (of_decide_eq_true (by kernel_rfl)) k0 bel lt0) trodAll_mk0), rfl, bel.frame _, fun h => by cases h⟩
theorem over : Rows.groupsKeepsRow.holds Try.pinned (OpenSpec.ofChange Rows.groupsKeepsSpec) :=
  OpenClaim.holds_of_wide 6 Try.f6 rfl rfl rfl rfl rfl rfl rfl ⟨rfl, rfl, rfl, rfl, rfl⟩ rfl rfl rfl rfl rfl (by kernel_rfl) Try.func6 (by kernel_rfl)
    (of_decide_eq_true (by kernel_rfl)) (by unfold Func.isWrapper; first | (rw [if_pos (by decide +kernel)]; kernel_rfl) | (rw [if_neg (by decide +kernel)]; exact ⟨rfl, rfl⟩))
    (fun os started H enc _ => lifted os started H enc)
theorem proved : Rows.GroupsKeepsSaid := over
#print axioms proved
end Go.Proofs.Ytfcpebjjcijgcaa.groupsKeeps
namespace Go.Proofs.Ytfcpebjjcijgcaa
/-- The row, under a short name, for the claim. -/
theorem groupsKeeps_holds : Rows.GroupsKeepsSaid := groupsKeeps.proved
end Go.Proofs.Ytfcpebjjcijgcaa
