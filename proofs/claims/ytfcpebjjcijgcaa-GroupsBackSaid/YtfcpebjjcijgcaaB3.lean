/- Contracts of Go functions, printed by a program of mine over the kit's printer or proved by hand, and plain laws: what the groups' laws lean on. -/
import Derived.BigQuiet
import Derived.ChangeArms
import Derived.DataReads
import Derived.OpenShut
import Derived.Outline
import Derived.ProofKit
import Derived.Test.YtfcpebjjcijgcaaB0
import Derived.Test.YtfcpebjjcijgcaaB1
import Derived.Test.YtfcpebjjcijgcaaB2
-- unicodetext/unicodetextlaw47.GroupsBack: printed by gprint.py
namespace Go.Proofs.Ytfcpebjjcijgcaa.G
open Go.RowKit Go.Proofs.YtfcpebjjcijgcaaW.PrintWords Go.Proofs.YtfcpebjjcijgcaaW.PrintLast Go.Proofs.YtfcpebjjcijgcaaW.PrintMore
attribute [local go_sem] max2_int min2_int max_two min_two max_three min_three max_four min_four   -- for this text's walks alone
set_option linter.unusedVariables false
set_option linter.unusedSimpArgs false
/-! ### unicodetextlaw47_GroupsBack: function 8 -/
def unicodetextlaw47_GroupsBack.f (k : Nat) (l0_0 : List (S49)) (l0_1 : List (S36)) (a0_2 : Int) (a0_3 : Int) (a0_4 : Int) (l1 : List ByteArray) : Option (Bool) := (unicodetextlaw47_few.f k l0_0 l0_1 a0_2 a0_3 a0_4 l1).bind fun t102 => (if t102 = true then ((groups_Apply.f k l0_0 l0_1 a0_2 a0_3 a0_4 l1).bind fun bt104 => (if bt104.2.2.2.2.2 = 0 then ((unicodetextref47_Names.f k l0_1).bind fun t117 => ((groups_Apply.f k bt104.1 bt104.2.1 bt104.2.2.1 bt104.2.2.2.1 bt104.2.2.2.2.1 t117).bind fun bt120 => ((groups_Apply.f k l0_0 l0_1 a0_2 a0_3 a0_4 ([] : List ByteArray)).bind fun bt131 => (if bt120.2.2.2.2.2 = 0 then (if bt131.2.2.2.2.2 = 0 then ((unicodetextref47_Same.f k bt120.1 bt120.2.1 bt120.2.2.1 bt120.2.2.2.1 bt120.2.2.2.2.1 l0_0 l0_1 a0_2 a0_3 a0_4).bind fun t142 => (if t142 = true then ((unicodetextref47_Same.f k bt131.1 bt131.2.1 bt131.2.2.1 bt131.2.2.2.1 bt131.2.2.2.2.1 l0_0 l0_1 a0_2 a0_3 a0_4).bind fun t143 => (if t143 = true then ((colltable_Check.f k bt104.1 bt104.2.1 bt104.2.2.1 bt104.2.2.2.1 bt104.2.2.2.2.1).bind fun t144 => (if t144 = 0 then ((unicodetextlaw47_alive.f k).bind fun t145 => (some t145)) else (none))) else (none))) else (none))) else (none)) else (none))))) else ((unicodetextref47_Same.f k bt104.1 bt104.2.1 bt104.2.2.1 bt104.2.2.2.1 bt104.2.2.2.2.1 ([] : List (S49)) ([] : List (S36)) 0 0 0).bind fun t115 => (if t115 = true then ((unicodetextlaw47_alive.f k).bind fun t116 => (some t116)) else (none))))) else ((unicodetextlaw47_alive.f k).bind fun t103 => (some t103)))
def unicodetextlaw47_GroupsBack.T6 : Bool × List (List Nat × List Nat) := (true, [([], []), ([], []), ([1], [1]), ([2], [2]), ([0, 3, 3], [0, 3]), ([4], [4]), ([5], [5]), ([5], [5]), ([], []), ([8, 6, 4, 0, 1, 2, 3, 4, 5, 6, 8], [6, 8]), ([7, 9, 0, 1, 2, 3, 4, 5, 6, 7, 8, 9], [7])])
def unicodetextlaw47_GroupsBack.B6 : List Nat := [0, 0, 2, 6, 15, 31, 63, 63, 0, 383, 1023]
theorem unicodetextlaw47_GroupsBack.tab6 : rtab .any (opsOf Try.f8 6) = unicodetextlaw47_GroupsBack.T6 := by kernel_rfl
theorem unicodetextlaw47_GroupsBack.bits6 : waitsOk unicodetextlaw47_GroupsBack.T6.2 unicodetextlaw47_GroupsBack.B6 = true := by kernel_rfl
set_option maxHeartbeats 8000000 in
set_option maxRecDepth 100000 in
theorem unicodetextlaw47_GroupsBack.calls (k : Nat) (A0_0 : Option Addr) (c0_0 : Nat) (l0_0 : List (S49)) (A0_1 : Option Addr) (c0_1 : Nat) (l0_1 : List (S36)) (a0_2 : Int) (a0_3 : Int) (a0_4 : Int) (A1 : Option Addr) (c1 : Nat) (l1 : List ByteArray) (r : Bool) (w : World) (hr0_0 : Kd.C k49 w A0_0 l0_0.length l0_0) (hc0_0 : l0_0.length ≤ c0_0) (hr0_1 : Kd.C k36 w A0_1 l0_1.length l0_1) (hc0_1 : l0_1.length ≤ c0_1) (hr1 : Kd.C Kd.string w A1 l1.length l1) (hc1 : l1.length ≤ c1) (h : unicodetextlaw47_GroupsBack.f k l0_0 l0_1 a0_2 a0_3 a0_4 l1 = some r) :
  Calls Try.prog 8 #[.agg #[.slice A0_0 l0_0.length c0_0, .slice A0_1 l0_1.length c0_1, .int .i64 a0_2, .int .i64 a0_3, .int .i64 a0_4], .slice A1 l1.length c1] w fun e w' => e = .returned (.bool r) ∧ Below w.heap.size w w' := by
 have hu25 := Try.underlying25
 have HR0_0 := Aside0.mk hr0_0
 have HC0_0 := Aside0.mk hc0_0
 clear hr0_0 hc0_0
 have HR0_1 := Aside0.mk hr0_1
 have HC0_1 := Aside0.mk hc0_1
 clear hr0_1 hc0_1
 have HR1 := Aside0.mk hr1
 have HC1 := Aside0.mk hc1
 clear hr1 hc1
 have HB := Aside0.mk (Below.refl w.heap.size w)
 have H : ((unicodetextlaw47_few.f k l0_0 l0_1 a0_2 a0_3 a0_4 l1).bind fun t102 => (if t102 = true then ((groups_Apply.f k l0_0 l0_1 a0_2 a0_3 a0_4 l1).bind fun bt104 => (if bt104.2.2.2.2.2 = 0 then ((unicodetextref47_Names.f k l0_1).bind fun t117 => ((groups_Apply.f k bt104.1 bt104.2.1 bt104.2.2.1 bt104.2.2.2.1 bt104.2.2.2.2.1 t117).bind fun bt120 => ((groups_Apply.f k l0_0 l0_1 a0_2 a0_3 a0_4 ([] : List ByteArray)).bind fun bt131 => (if bt120.2.2.2.2.2 = 0 then (if bt131.2.2.2.2.2 = 0 then ((unicodetextref47_Same.f k bt120.1 bt120.2.1 bt120.2.2.1 bt120.2.2.2.1 bt120.2.2.2.2.1 l0_0 l0_1 a0_2 a0_3 a0_4).bind fun t142 => (if t142 = true then ((unicodetextref47_Same.f k bt131.1 bt131.2.1 bt131.2.2.1 bt131.2.2.2.1 bt131.2.2.2.2.1 l0_0 l0_1 a0_2 a0_3 a0_4).bind fun t143 => (if t143 = true then ((colltable_Check.f k bt104.1 bt104.2.1 bt104.2.2.1 bt104.2.2.2.1 bt104.2.2.2.2.1).bind fun t144 => (if t144 = 0 then ((unicodetextlaw47_alive.f k).bind fun t145 => (some t145)) else (none))) else (none))) else (none))) else (none)) else (none))))) else ((unicodetextref47_Same.f k bt104.1 bt104.2.1 bt104.2.2.1 bt104.2.2.2.1 bt104.2.2.2.2.1 ([] : List (S49)) ([] : List (S36)) 0 0 0).bind fun t115 => (if t115 = true then ((unicodetextlaw47_alive.f k).bind fun t116 => (some t116)) else (none))))) else ((unicodetextlaw47_alive.f k).bind fun t103 => (some t103)))) = some r := h
 clear h
 replace H := Option.bind_eq_some_iff.mp H
 obtain ⟨t102, A30, H⟩ := H
 replace H : (if t102 = true then ((groups_Apply.f k l0_0 l0_1 a0_2 a0_3 a0_4 l1).bind fun bt104 => (if bt104.2.2.2.2.2 = 0 then ((unicodetextref47_Names.f k l0_1).bind fun t117 => ((groups_Apply.f k bt104.1 bt104.2.1 bt104.2.2.1 bt104.2.2.2.1 bt104.2.2.2.2.1 t117).bind fun bt120 => ((groups_Apply.f k l0_0 l0_1 a0_2 a0_3 a0_4 ([] : List ByteArray)).bind fun bt131 => (if bt120.2.2.2.2.2 = 0 then (if bt131.2.2.2.2.2 = 0 then ((unicodetextref47_Same.f k bt120.1 bt120.2.1 bt120.2.2.1 bt120.2.2.2.1 bt120.2.2.2.2.1 l0_0 l0_1 a0_2 a0_3 a0_4).bind fun t142 => (if t142 = true then ((unicodetextref47_Same.f k bt131.1 bt131.2.1 bt131.2.2.1 bt131.2.2.2.1 bt131.2.2.2.2.1 l0_0 l0_1 a0_2 a0_3 a0_4).bind fun t143 => (if t143 = true then ((colltable_Check.f k bt104.1 bt104.2.1 bt104.2.2.1 bt104.2.2.2.1 bt104.2.2.2.2.1).bind fun t144 => (if t144 = 0 then ((unicodetextlaw47_alive.f k).bind fun t145 => (some t145)) else (none))) else (none))) else (none))) else (none)) else (none))))) else ((unicodetextref47_Same.f k bt104.1 bt104.2.1 bt104.2.2.1 bt104.2.2.2.1 bt104.2.2.2.2.1 ([] : List (S49)) ([] : List (S36)) 0 0 0).bind fun t115 => (if t115 = true then ((unicodetextlaw47_alive.f k).bind fun t116 => (some t116)) else (none))))) else ((unicodetextlaw47_alive.f k).bind fun t103 => (some t103))) = some r := H
 have A3 := Aside0.mk A30
 clear A30
 by_cases c4 : t102 = true
 ·subst c4
  have H1 : ((groups_Apply.f k l0_0 l0_1 a0_2 a0_3 a0_4 l1).bind fun bt104 => (if bt104.2.2.2.2.2 = 0 then ((unicodetextref47_Names.f k l0_1).bind fun t117 => ((groups_Apply.f k bt104.1 bt104.2.1 bt104.2.2.1 bt104.2.2.2.1 bt104.2.2.2.2.1 t117).bind fun bt120 => ((groups_Apply.f k l0_0 l0_1 a0_2 a0_3 a0_4 ([] : List ByteArray)).bind fun bt131 => (if bt120.2.2.2.2.2 = 0 then (if bt131.2.2.2.2.2 = 0 then ((unicodetextref47_Same.f k bt120.1 bt120.2.1 bt120.2.2.1 bt120.2.2.2.1 bt120.2.2.2.2.1 l0_0 l0_1 a0_2 a0_3 a0_4).bind fun t142 => (if t142 = true then ((unicodetextref47_Same.f k bt131.1 bt131.2.1 bt131.2.2.1 bt131.2.2.2.1 bt131.2.2.2.2.1 l0_0 l0_1 a0_2 a0_3 a0_4).bind fun t143 => (if t143 = true then ((colltable_Check.f k bt104.1 bt104.2.1 bt104.2.2.1 bt104.2.2.2.1 bt104.2.2.2.2.1).bind fun t144 => (if t144 = 0 then ((unicodetextlaw47_alive.f k).bind fun t145 => (some t145)) else (none))) else (none))) else (none))) else (none)) else (none))))) else ((unicodetextref47_Same.f k bt104.1 bt104.2.1 bt104.2.2.1 bt104.2.2.2.1 bt104.2.2.2.2.1 ([] : List (S49)) ([] : List (S36)) 0 0 0).bind fun t115 => (if t115 = true then ((unicodetextlaw47_alive.f k).bind fun t116 => (some t116)) else (none))))) = some r := by rw [if_pos rfl] at H; exact H
  clear H
  have H := H1
  clear H1
  replace H := Option.bind_eq_some_iff.mp H
  obtain ⟨⟨t104, t107, t110, t111, t112, t113⟩, A50, H⟩ := H
  replace H : (if t113 = 0 then ((unicodetextref47_Names.f k l0_1).bind fun t117 => ((groups_Apply.f k t104 t107 t110 t111 t112 t117).bind fun bt120 => ((groups_Apply.f k l0_0 l0_1 a0_2 a0_3 a0_4 ([] : List ByteArray)).bind fun bt131 => (if bt120.2.2.2.2.2 = 0 then (if bt131.2.2.2.2.2 = 0 then ((unicodetextref47_Same.f k bt120.1 bt120.2.1 bt120.2.2.1 bt120.2.2.2.1 bt120.2.2.2.2.1 l0_0 l0_1 a0_2 a0_3 a0_4).bind fun t142 => (if t142 = true then ((unicodetextref47_Same.f k bt131.1 bt131.2.1 bt131.2.2.1 bt131.2.2.2.1 bt131.2.2.2.2.1 l0_0 l0_1 a0_2 a0_3 a0_4).bind fun t143 => (if t143 = true then ((colltable_Check.f k t104 t107 t110 t111 t112).bind fun t144 => (if t144 = 0 then ((unicodetextlaw47_alive.f k).bind fun t145 => (some t145)) else (none))) else (none))) else (none))) else (none)) else (none))))) else ((unicodetextref47_Same.f k t104 t107 t110 t111 t112 ([] : List (S49)) ([] : List (S36)) 0 0 0).bind fun t115 => (if t115 = true then ((unicodetextlaw47_alive.f k).bind fun t116 => (some t116)) else (none)))) = some r := H
  have A5 := Aside0.mk A50
  clear A50
  by_cases c6 : t113 = 0
  ·rw [if_pos c6] at H
   have c6b0 : (t113 == 0) = true := beq_iff_eq.mpr c6
   have c6b1 : (t113 != 0) = false := bne_eq_false_iff_eq.mpr c6
   clear c6
   replace H := Option.bind_eq_some_iff.mp H
   obtain ⟨t117, A70, H⟩ := H
   replace H : ((groups_Apply.f k t104 t107 t110 t111 t112 t117).bind fun bt120 => ((groups_Apply.f k l0_0 l0_1 a0_2 a0_3 a0_4 ([] : List ByteArray)).bind fun bt131 => (if bt120.2.2.2.2.2 = 0 then (if bt131.2.2.2.2.2 = 0 then ((unicodetextref47_Same.f k bt120.1 bt120.2.1 bt120.2.2.1 bt120.2.2.2.1 bt120.2.2.2.2.1 l0_0 l0_1 a0_2 a0_3 a0_4).bind fun t142 => (if t142 = true then ((unicodetextref47_Same.f k bt131.1 bt131.2.1 bt131.2.2.1 bt131.2.2.2.1 bt131.2.2.2.2.1 l0_0 l0_1 a0_2 a0_3 a0_4).bind fun t143 => (if t143 = true then ((colltable_Check.f k t104 t107 t110 t111 t112).bind fun t144 => (if t144 = 0 then ((unicodetextlaw47_alive.f k).bind fun t145 => (some t145)) else (none))) else (none))) else (none))) else (none)) else (none)))) = some r := H
   have A7 := Aside0.mk A70
   clear A70
   replace H := Option.bind_eq_some_iff.mp H
   obtain ⟨⟨t120, t123, t126, t127, t128, t129⟩, A80, H⟩ := H
   replace H : ((groups_Apply.f k l0_0 l0_1 a0_2 a0_3 a0_4 ([] : List ByteArray)).bind fun bt131 => (if t129 = 0 then (if bt131.2.2.2.2.2 = 0 then ((unicodetextref47_Same.f k t120 t123 t126 t127 t128 l0_0 l0_1 a0_2 a0_3 a0_4).bind fun t142 => (if t142 = true then ((unicodetextref47_Same.f k bt131.1 bt131.2.1 bt131.2.2.1 bt131.2.2.2.1 bt131.2.2.2.2.1 l0_0 l0_1 a0_2 a0_3 a0_4).bind fun t143 => (if t143 = true then ((colltable_Check.f k t104 t107 t110 t111 t112).bind fun t144 => (if t144 = 0 then ((unicodetextlaw47_alive.f k).bind fun t145 => (some t145)) else (none))) else (none))) else (none))) else (none)) else (none))) = some r := H
   have A8 := Aside0.mk A80
   clear A80
   replace H := Option.bind_eq_some_iff.mp H
   obtain ⟨⟨t131, t134, t137, t138, t139, t140⟩, A90, H⟩ := H
   replace H : (if t129 = 0 then (if t140 = 0 then ((unicodetextref47_Same.f k t120 t123 t126 t127 t128 l0_0 l0_1 a0_2 a0_3 a0_4).bind fun t142 => (if t142 = true then ((unicodetextref47_Same.f k t131 t134 t137 t138 t139 l0_0 l0_1 a0_2 a0_3 a0_4).bind fun t143 => (if t143 = true then ((colltable_Check.f k t104 t107 t110 t111 t112).bind fun t144 => (if t144 = 0 then ((unicodetextlaw47_alive.f k).bind fun t145 => (some t145)) else (none))) else (none))) else (none))) else (none)) else (none)) = some r := H
   have A9 := Aside0.mk A90
   clear A90
   by_cases c10 : t129 = 0
   ·rw [if_pos c10] at H
    have c10b0 : (t129 == 0) = true := beq_iff_eq.mpr c10
    have c10b1 : (t129 != 0) = false := bne_eq_false_iff_eq.mpr c10
    clear c10
    by_cases c11 : t140 = 0
    ·rw [if_pos c11] at H
     have c11b0 : (t140 == 0) = true := beq_iff_eq.mpr c11
     have c11b1 : (t140 != 0) = false := bne_eq_false_iff_eq.mpr c11
     clear c11
     replace H := Option.bind_eq_some_iff.mp H
     obtain ⟨t142, A120, H⟩ := H
     replace H : (if t142 = true then ((unicodetextref47_Same.f k t131 t134 t137 t138 t139 l0_0 l0_1 a0_2 a0_3 a0_4).bind fun t143 => (if t143 = true then ((colltable_Check.f k t104 t107 t110 t111 t112).bind fun t144 => (if t144 = 0 then ((unicodetextlaw47_alive.f k).bind fun t145 => (some t145)) else (none))) else (none))) else (none)) = some r := H
     have A12 := Aside0.mk A120
     clear A120
     by_cases c13 : t142 = true
     ·subst c13
      have H1 : ((unicodetextref47_Same.f k t131 t134 t137 t138 t139 l0_0 l0_1 a0_2 a0_3 a0_4).bind fun t143 => (if t143 = true then ((colltable_Check.f k t104 t107 t110 t111 t112).bind fun t144 => (if t144 = 0 then ((unicodetextlaw47_alive.f k).bind fun t145 => (some t145)) else (none))) else (none))) = some r := by rw [if_pos rfl] at H; exact H
      clear H
      have H := H1
      clear H1
      replace H := Option.bind_eq_some_iff.mp H
      obtain ⟨t143, A140, H⟩ := H
      replace H : (if t143 = true then ((colltable_Check.f k t104 t107 t110 t111 t112).bind fun t144 => (if t144 = 0 then ((unicodetextlaw47_alive.f k).bind fun t145 => (some t145)) else (none))) else (none)) = some r := H
      have A14 := Aside0.mk A140
      clear A140
      by_cases c15 : t143 = true
      ·subst c15
       have H1 : ((colltable_Check.f k t104 t107 t110 t111 t112).bind fun t144 => (if t144 = 0 then ((unicodetextlaw47_alive.f k).bind fun t145 => (some t145)) else (none))) = some r := by rw [if_pos rfl] at H; exact H
       clear H
       have H := H1
       clear H1
       replace H := Option.bind_eq_some_iff.mp H
       obtain ⟨t144, A160, H⟩ := H
       replace H : (if t144 = 0 then ((unicodetextlaw47_alive.f k).bind fun t145 => (some t145)) else (none)) = some r := H
       have A16 := Aside0.mk A160
       clear A160
       by_cases c17 : t144 = 0
       ·rw [if_pos c17] at H
        have c17b0 : (t144 == 0) = true := beq_iff_eq.mpr c17
        have c17b1 : (t144 != 0) = false := bne_eq_false_iff_eq.mpr c17
        clear c17
        replace H := Option.bind_eq_some_iff.mp H
        obtain ⟨t145, A180, H⟩ := H
        replace H : (some t145) = some r := H
        have A18 := Aside0.mk A180
        clear A180
        obtain rfl := Option.some.inj H
        go_enter Try.func8, Try.ntmps8
        try go_wp2_with (first | ((with_reducible refine gate_dst (N := 2) rfl ?_); refine box_event ?hg (N := 2) ?hd (cs := #[.slice A0_0 l0_0.length c0_0, .slice A0_1 l0_1.length c0_1, .int .i64 a0_2, .int .i64 a0_3, .int .i64 a0_4]) (t := 25) ?hr ?_; (case hd => rfl); (case hg => rfl); (case hr => first | (go_simp; done) | (go_simp; rfl)); intro gb101 hg w19 hbox hb; have n0_ := Aside0.mk (below_step (by repeat (first | (with_reducible first | exact HB.out | apply below_alloc | apply pw_below_drewN | apply below_drew1) | exact HB.out)) hb); have n1_ := Aside0.mk (hbox); have n2_ := Aside0.mk ((by rw [hg]; exact (below_size (by repeat (first | (with_reducible first | exact HB.out | apply below_alloc | apply pw_below_drewN | apply below_drew1) | exact HB.out))) : w.heap.size ≤ gb101)); have n3_ := Aside0.mk ((by rw [hg]; exact (below_size (by repeat (first | (with_reducible first | exact HB.out | apply below_alloc | apply pw_below_drewN | apply below_drew1) | exact HB.out))) : w.heap.size ≤ gb101)); clear HB; have HB := n0_; have BK101 := n1_; have GW101 := n2_; have GE101 := n3_; clear n0_ n1_ n2_ n3_; clear hb hbox hg; have hcz20_0 : w19.cell? ⟨gb101, 0, none⟩ = some (.slice A0_0 l0_0.length c0_0) := (blk_cell BK101.out 0).trans rfl; have hcz20_1 : w19.cell? ⟨gb101, 1, none⟩ = some (.slice A0_1 l0_1.length c0_1) := (blk_cell BK101.out 1).trans rfl; have hcz20_2 : w19.cell? ⟨gb101, 2, none⟩ = some (.int .i64 a0_2) := (blk_cell BK101.out 2).trans rfl; have hcz20_3 : w19.cell? ⟨gb101, 3, none⟩ = some (.int .i64 a0_3) := (blk_cell BK101.out 3).trans rfl; have hcz20_4 : w19.cell? ⟨gb101, 4, none⟩ = some (.int .i64 a0_4) := (blk_cell BK101.out 4).trans rfl; have hfz20_0 := blk_frozen BK101.out 0; have hfz20_1 := blk_frozen BK101.out 1; have hfz20_2 := blk_frozen BK101.out 2; have hfz20_3 := blk_frozen BK101.out 3; have hfz20_4 := blk_frozen BK101.out 4) | ((with_reducible refine gate_callee (f := 10) rfl ?_); refine goesL_ (some 13) rfl rfl Try.func10 (by kernel_rfl) rfl #[.agg #[.slice A0_0 l0_0.length c0_0, .slice A0_1 l0_1.length c0_1, .int .i64 a0_2, .int .i64 a0_3, .int .i64 a0_4], .slice A1 l1.length c1] rfl (by (try simp only [List.map_toArray, List.map_cons, List.map_nil]); first | done | rfl | (simp only [List.length_drop, List.length_take]; rfl)) ?_; (with_reducible refine (unicodetextlaw47_few.calls k _ _ l0_0 _ _ l0_1 a0_2 a0_3 a0_4 _ _ l1 true _ ?side1 ?side2 ?side3 ?side4 ?side5 ?side6 A3.out).mono ?_); (case side1 => repeat (first | exact (Kd.C_below HR0_0.out HB.out) | (with_reducible refine Kd.C_alloc ?_ _) | (with_reducible refine Kd.C_drewN ?_ _) | (with_reducible refine Kd.C_drew ?_))); (case side2 => exact HC0_0.out); (case side3 => repeat (first | exact (Kd.C_below HR0_1.out HB.out) | (with_reducible refine Kd.C_alloc ?_ _) | (with_reducible refine Kd.C_drewN ?_ _) | (with_reducible refine Kd.C_drew ?_))); (case side4 => exact HC0_1.out); (case side5 => repeat (first | exact (Kd.C_below HR1.out HB.out) | (with_reducible refine Kd.C_alloc ?_ _) | (with_reducible refine Kd.C_drewN ?_ _) | (with_reducible refine Kd.C_drew ?_))); (case side6 => exact HC1.out); rintro e w21 ⟨rfl, hb⟩; refine ⟨_, rfl, ?_⟩; have n0_ := Aside0.mk (blk_below (g := gb101) (o := .cells #[.slice A0_0 l0_0.length c0_0, .slice A0_1 l0_1.length c0_1, .int .i64 a0_2, .int .i64 a0_3, .int .i64 a0_4] 25 (0, 0)) (by (with_reducible repeat (first | refine blk_drewN ?_ _ | refine blk_drew ?_ | refine blk_alloc ?_ _)); exact BK101.out) hb); have n1_ := Aside0.mk (below_step (by repeat (first | (with_reducible first | exact HB.out | apply below_alloc | apply pw_below_drewN | apply below_drew1 | refine below_set ?_ GE101.out) | exact HB.out)) hb); clear BK101; clear HB; have BK101 := n0_; have HB := n1_; clear n0_ n1_; (try clear hb); (try clear hb2); (try clear hk); (try clear hi); have hcz22_0 : w21.cell? ⟨gb101, 0, none⟩ = some (.slice A0_0 l0_0.length c0_0) := (blk_cell BK101.out 0).trans rfl; have hcz22_1 : w21.cell? ⟨gb101, 1, none⟩ = some (.slice A0_1 l0_1.length c0_1) := (blk_cell BK101.out 1).trans rfl; have hcz22_2 : w21.cell? ⟨gb101, 2, none⟩ = some (.int .i64 a0_2) := (blk_cell BK101.out 2).trans rfl; have hcz22_3 : w21.cell? ⟨gb101, 3, none⟩ = some (.int .i64 a0_3) := (blk_cell BK101.out 3).trans rfl; have hcz22_4 : w21.cell? ⟨gb101, 4, none⟩ = some (.int .i64 a0_4) := (blk_cell BK101.out 4).trans rfl; have hfz22_0 := blk_frozen BK101.out 0; have hfz22_1 := blk_frozen BK101.out 1; have hfz22_2 := blk_frozen BK101.out 2; have hfz22_3 := blk_frozen BK101.out 3; have hfz22_4 := blk_frozen BK101.out 4) | ((with_reducible refine gate_callee (f := 18) rfl ?_); refine goesL_ (some 19) rfl rfl Try.func18 (by kernel_rfl) rfl #[.agg #[.slice A0_0 l0_0.length c0_0, .slice A0_1 l0_1.length c0_1, .int .i64 a0_2, .int .i64 a0_3, .int .i64 a0_4], .slice A1 l1.length c1] rfl (by (try simp only [List.map_toArray, List.map_cons, List.map_nil]); first | done | rfl | (simp only [List.length_drop, List.length_take]; rfl)) ?_; (with_reducible refine (groups_Apply.calls k _ _ l0_0 _ _ l0_1 a0_2 a0_3 a0_4 _ _ l1 t104 t107 t110 t111 t112 t113 _ ?side1 ?side2 ?side3 ?side4 ?side5 ?side6 A5.out).mono ?_); (case side1 => repeat (first | exact (Kd.C_below HR0_0.out HB.out) | (with_reducible refine Kd.C_alloc ?_ _) | (with_reducible refine Kd.C_drewN ?_ _) | (with_reducible refine Kd.C_drew ?_))); (case side2 => exact HC0_0.out); (case side3 => repeat (first | exact (Kd.C_below HR0_1.out HB.out) | (with_reducible refine Kd.C_alloc ?_ _) | (with_reducible refine Kd.C_drewN ?_ _) | (with_reducible refine Kd.C_drew ?_))); (case side4 => exact HC0_1.out); (case side5 => repeat (first | exact (Kd.C_below HR1.out HB.out) | (with_reducible refine Kd.C_alloc ?_ _) | (with_reducible refine Kd.C_drewN ?_ _) | (with_reducible refine Kd.C_drew ?_))); (case side6 => exact HC1.out); rintro e w23 ⟨v105, v108, rfl, ho0, ho1, hb⟩; refine ⟨_, rfl, ?_⟩; have n0_ := Aside0.mk (Kd.S_lower ho0 (below_size (by repeat (first | (with_reducible first | exact HB.out | apply below_alloc | apply pw_below_drewN | apply below_drew1 | refine below_set ?_ GE101.out) | exact HB.out)))); have n1_ := Aside0.mk (Kd.R_lower ho1 (below_size (by repeat (first | (with_reducible first | exact HB.out | apply below_alloc | apply pw_below_drewN | apply below_drew1 | refine below_set ?_ GE101.out) | exact HB.out)))); have n2_ := Aside0.mk (blk_below (g := gb101) (o := .cells #[.slice A0_0 l0_0.length c0_0, .slice A0_1 l0_1.length c0_1, .int .i64 a0_2, .int .i64 a0_3, .int .i64 a0_4] 25 (0, 0)) (by (with_reducible repeat (first | refine blk_drewN ?_ _ | refine blk_drew ?_ | refine blk_alloc ?_ _)); exact BK101.out) hb); have n3_ := Aside0.mk (below_step (by repeat (first | (with_reducible first | exact HB.out | apply below_alloc | apply pw_below_drewN | apply below_drew1 | refine below_set ?_ GE101.out) | exact HB.out)) hb); clear BK101; clear HB; have HO106 := n0_; have HO109 := n1_; have BK101 := n2_; have HB := n3_; clear n0_ n1_ n2_ n3_; (try clear hb); (try clear hb2); (try clear hk); (try clear hi); (try clear ho0); (try clear ho1)) | ((with_reducible refine gate_dst (N := 5) rfl ?_); refine box_event ?hg (N := 5) ?hd (cs := #[.slice none 0 0, .slice none 0 0, .int .i64 0, .int .i64 0, .int .i64 0]) (t := 25) ?hr ?_; (case hd => rfl); (case hg => rfl); (case hr => first | (go_simp; done) | (go_simp; rfl)); intro gb114 hg w24 hbox hb; have n0_ := Aside0.mk (Kd.S_below (by (with_reducible repeat (first | apply Kd.S_alloc | apply Kd.S_drewN | apply Kd.S_drew)); exact HO106.out) hb); have n1_ := Aside0.mk (Kd.R_below (by (with_reducible repeat (first | apply Kd.R_alloc | apply Kd.R_drewN | apply Kd.R_drew)); exact HO109.out) hb); have n2_ := Aside0.mk (blk_below (g := gb101) (o := .cells #[.slice A0_0 l0_0.length c0_0, .slice A0_1 l0_1.length c0_1, .int .i64 a0_2, .int .i64 a0_3, .int .i64 a0_4] 25 (0, 0)) (by (with_reducible repeat (first | refine blk_drewN ?_ _ | refine blk_drew ?_ | refine blk_alloc ?_ _)); exact BK101.out) hb); have n3_ := Aside0.mk (below_step (by repeat (first | (with_reducible first | exact HB.out | apply below_alloc | apply pw_below_drewN | apply below_drew1 | refine below_set ?_ GE101.out) | exact HB.out)) hb); have n4_ := Aside0.mk (hbox); have n5_ := Aside0.mk ((by rw [hg]; exact (below_size (by repeat (first | (with_reducible first | exact HB.out | apply below_alloc | apply pw_below_drewN | apply below_drew1 | refine below_set ?_ GE101.out) | exact HB.out))) : w.heap.size ≤ gb114)); have n6_ := Aside0.mk ((by rw [hg]; exact (below_size (by repeat (first | (with_reducible first | exact HB.out | apply below_alloc | apply pw_below_drewN | apply below_drew1 | refine below_set ?_ GE101.out) | exact HB.out))) : w.heap.size ≤ gb114)); have n7_ := Aside0.mk ((by rw [hg]; exact Nat.ne_of_lt (blk_lt (g := gb101) (o := .cells #[.slice A0_0 l0_0.length c0_0, .slice A0_1 l0_1.length c0_1, .int .i64 a0_2, .int .i64 a0_3, .int .i64 a0_4] 25 (0, 0)) (by (with_reducible repeat (first | refine blk_drewN ?_ _ | refine blk_drew ?_ | refine blk_alloc ?_ _)); exact BK101.out)) : gb101 ≠ gb114)); have n8_ := Aside0.mk ((by rw [hg]; exact Nat.ne_of_gt (blk_lt (g := gb101) (o := .cells #[.slice A0_0 l0_0.length c0_0, .slice A0_1 l0_1.length c0_1, .int .i64 a0_2, .int .i64 a0_3, .int .i64 a0_4] 25 (0, 0)) (by (with_reducible repeat (first | refine blk_drewN ?_ _ | refine blk_drew ?_ | refine blk_alloc ?_ _)); exact BK101.out)) : gb114 ≠ gb101)); clear HO106; clear HO109; clear BK101; clear HB; have HO106 := n0_; have HO109 := n1_; have BK101 := n2_; have HB := n3_; have BK114 := n4_; have GW114 := n5_; have GE114 := n6_; have NB101_114 := n7_; have NB114_101 := n8_; clear n0_ n1_ n2_ n3_ n4_ n5_ n6_ n7_ n8_; clear hb hbox hg; obtain ⟨Ao25, co25, eo25⟩ := Kd.S_slice HO106.out; subst eo25; have hnb26 := NB114_101.out; have hnc26 := NB101_114.out; have hcz27_0 : w24.cell? ⟨gb114, 0, none⟩ = some (.slice none 0 0) := (blk_cell BK114.out 0).trans rfl; have hcz27_1 : w24.cell? ⟨gb114, 1, none⟩ = some (.slice none 0 0) := (blk_cell BK114.out 1).trans rfl; have hcz27_2 : w24.cell? ⟨gb114, 2, none⟩ = some (.int .i64 0) := (blk_cell BK114.out 2).trans rfl; have hcz27_3 : w24.cell? ⟨gb114, 3, none⟩ = some (.int .i64 0) := (blk_cell BK114.out 3).trans rfl; have hcz27_4 : w24.cell? ⟨gb114, 4, none⟩ = some (.int .i64 0) := (blk_cell BK114.out 4).trans rfl; have hfz27_0 := blk_frozen BK114.out 0; have hfz27_1 := blk_frozen BK114.out 1; have hfz27_2 := blk_frozen BK114.out 2; have hfz27_3 := blk_frozen BK114.out 3; have hfz27_4 := blk_frozen BK114.out 4; obtain ⟨Ao28, co28, eo28⟩ := Kd.R_slice HO109.out; subst eo28))
        have n0_ : Aside0 (Kd.S k49 49 (((((w24.setCell ⟨gb114, 0, none⟩ (.slice Ao25 t104.length co25)).setCell ⟨gb114, 1, none⟩ (.slice Ao28 t107.length co28)).setCell ⟨gb114, 2, none⟩ (.int .i64 t110)).setCell ⟨gb114, 3, none⟩ (.int .i64 t111)).setCell ⟨gb114, 4, none⟩ (.int .i64 t112)) w.heap.size (fun _ => True) (.slice Ao25 t104.length co25) t104) := ⟨by (with_reducible repeat (first | apply Kd.S_alloc | apply Kd.S_drewN | apply Kd.S_drew)); exact Kd.S_mono (Kd.S_far (p := ⟨gb114, 4, none⟩) (Kd.S_far (p := ⟨gb114, 3, none⟩) (Kd.S_far (p := ⟨gb114, 2, none⟩) (Kd.S_far (p := ⟨gb114, 1, none⟩) (Kd.S_far (p := ⟨gb114, 0, none⟩) (Kd.S_types HO106.out BK114.out (by decide)) (fun _ hk => hk.2) (.slice Ao25 t104.length co25)) (fun _ hk => hk.2) (.slice Ao28 t107.length co28)) (fun _ hk => hk.2) (.int .i64 t110)) (fun _ hk => hk.2) (.int .i64 t111)) (fun _ hk => hk.2) (.int .i64 t112)) (fun _ hk => trivial)⟩
        have n1_ : Aside0 (Kd.R k36 36 (((((w24.setCell ⟨gb114, 0, none⟩ (.slice Ao25 t104.length co25)).setCell ⟨gb114, 1, none⟩ (.slice Ao28 t107.length co28)).setCell ⟨gb114, 2, none⟩ (.int .i64 t110)).setCell ⟨gb114, 3, none⟩ (.int .i64 t111)).setCell ⟨gb114, 4, none⟩ (.int .i64 t112)) w.heap.size (fun _ => True) (.slice Ao28 t107.length co28) t107) := ⟨by (with_reducible repeat (first | apply Kd.R_alloc | apply Kd.R_drewN | apply Kd.R_drew)); exact Kd.R_mono (Kd.R_far (p := ⟨gb114, 4, none⟩) (Kd.R_far (p := ⟨gb114, 3, none⟩) (Kd.R_far (p := ⟨gb114, 2, none⟩) (Kd.R_far (p := ⟨gb114, 1, none⟩) (Kd.R_far (p := ⟨gb114, 0, none⟩) (Kd.R_types HO109.out BK114.out (by decide)) (fun _ hk => hk.2) (.slice Ao25 t104.length co25)) (fun _ hk => hk.2) (.slice Ao28 t107.length co28)) (fun _ hk => hk.2) (.int .i64 t110)) (fun _ hk => hk.2) (.int .i64 t111)) (fun _ hk => hk.2) (.int .i64 t112)) (fun _ hk => trivial)⟩
        have n2_ : Aside0 ((((((w24.setCell ⟨gb114, 0, none⟩ (.slice Ao25 t104.length co25)).setCell ⟨gb114, 1, none⟩ (.slice Ao28 t107.length co28)).setCell ⟨gb114, 2, none⟩ (.int .i64 t110)).setCell ⟨gb114, 3, none⟩ (.int .i64 t111)).setCell ⟨gb114, 4, none⟩ (.int .i64 t112)).heap[gb101]? = some (.cells #[.slice A0_0 l0_0.length c0_0, .slice A0_1 l0_1.length c0_1, .int .i64 a0_2, .int .i64 a0_3, .int .i64 a0_4] 25 (0, 0))) := ⟨by (with_reducible repeat (first | refine blk_drewN ?_ _ | refine blk_drew ?_ | refine blk_alloc ?_ _)); refine blk_far ?_ NB101_114.out _; (with_reducible repeat (first | refine blk_drewN ?_ _ | refine blk_drew ?_ | refine blk_alloc ?_ _)); refine blk_far ?_ NB101_114.out _; (with_reducible repeat (first | refine blk_drewN ?_ _ | refine blk_drew ?_ | refine blk_alloc ?_ _)); refine blk_far ?_ NB101_114.out _; (with_reducible repeat (first | refine blk_drewN ?_ _ | refine blk_drew ?_ | refine blk_alloc ?_ _)); refine blk_far ?_ NB101_114.out _; (with_reducible repeat (first | refine blk_drewN ?_ _ | refine blk_drew ?_ | refine blk_alloc ?_ _)); refine blk_far ?_ NB101_114.out _; (with_reducible repeat (first | refine blk_drewN ?_ _ | refine blk_drew ?_ | refine blk_alloc ?_ _)); exact BK101.out⟩
        have n3_ : Aside0 ((((((w24.setCell ⟨gb114, 0, none⟩ (.slice Ao25 t104.length co25)).setCell ⟨gb114, 1, none⟩ (.slice Ao28 t107.length co28)).setCell ⟨gb114, 2, none⟩ (.int .i64 t110)).setCell ⟨gb114, 3, none⟩ (.int .i64 t111)).setCell ⟨gb114, 4, none⟩ (.int .i64 t112)).heap[gb114]? = some (.cells #[.slice Ao25 t104.length co25, .slice Ao28 t107.length co28, .int .i64 t110, .int .i64 t111, .int .i64 t112] 25 (0, 0))) := ⟨by (with_reducible repeat (first | refine blk_drewN ?_ _ | refine blk_drew ?_ | refine blk_alloc ?_ _)); refine blk_put (cs := #[.slice Ao25 t104.length co25, .slice Ao28 t107.length co28, .int .i64 t110, .int .i64 t111, .int .i64 0]) ?_ 4 _ rfl; (with_reducible repeat (first | refine blk_drewN ?_ _ | refine blk_drew ?_ | refine blk_alloc ?_ _)); refine blk_put (cs := #[.slice Ao25 t104.length co25, .slice Ao28 t107.length co28, .int .i64 t110, .int .i64 0, .int .i64 0]) ?_ 3 _ rfl; (with_reducible repeat (first | refine blk_drewN ?_ _ | refine blk_drew ?_ | refine blk_alloc ?_ _)); refine blk_put (cs := #[.slice Ao25 t104.length co25, .slice Ao28 t107.length co28, .int .i64 0, .int .i64 0, .int .i64 0]) ?_ 2 _ rfl; (with_reducible repeat (first | refine blk_drewN ?_ _ | refine blk_drew ?_ | refine blk_alloc ?_ _)); refine blk_put (cs := #[.slice Ao25 t104.length co25, .slice none 0 0, .int .i64 0, .int .i64 0, .int .i64 0]) ?_ 1 _ rfl; (with_reducible repeat (first | refine blk_drewN ?_ _ | refine blk_drew ?_ | refine blk_alloc ?_ _)); refine blk_put (cs := #[.slice none 0 0, .slice none 0 0, .int .i64 0, .int .i64 0, .int .i64 0]) ?_ 0 _ rfl; (with_reducible repeat (first | refine blk_drewN ?_ _ | refine blk_drew ?_ | refine blk_alloc ?_ _)); exact BK114.out⟩
        have n4_ : Aside0 (Below w.heap.size w (((((w24.setCell ⟨gb114, 0, none⟩ (.slice Ao25 t104.length co25)).setCell ⟨gb114, 1, none⟩ (.slice Ao28 t107.length co28)).setCell ⟨gb114, 2, none⟩ (.int .i64 t110)).setCell ⟨gb114, 3, none⟩ (.int .i64 t111)).setCell ⟨gb114, 4, none⟩ (.int .i64 t112))) := ⟨by repeat (first | (with_reducible first | exact HB.out | apply below_alloc | apply pw_below_drewN | apply below_drew1 | refine below_set ?_ GE101.out | refine below_set ?_ GE114.out) | exact HB.out)⟩
        (try clear HO106)
        (try clear HO109)
        (try clear BK101)
        (try clear BK114)
        (try clear HB)
        generalize (((((w24.setCell ⟨gb114, 0, none⟩ (.slice Ao25 t104.length co25)).setCell ⟨gb114, 1, none⟩ (.slice Ao28 t107.length co28)).setCell ⟨gb114, 2, none⟩ (.int .i64 t110)).setCell ⟨gb114, 3, none⟩ (.int .i64 t111)).setCell ⟨gb114, 4, none⟩ (.int .i64 t112)) = w29 at n0_ n1_ n2_ n3_ n4_ ⊢
        have HO106 := n0_
        have HO109 := n1_
        have BK101 := n2_
        have BK114 := n3_
        have HB := n4_
        clear n0_ n1_ n2_ n3_ n4_
        have n0_ := Aside0.mk (Kd.S_drew HO106.out)
        have n1_ := Aside0.mk (Kd.R_drew HO109.out)
        have n2_ := Aside0.mk (blk_drew BK101.out)
        have n3_ := Aside0.mk (blk_drew BK114.out)
        have n4_ := Aside0.mk (below_drew1 HB.out)
        clear HO106
        clear HO109
        clear BK101
        clear BK114
        clear HB
        have HO106 := n0_
        have HO109 := n1_
        have BK101 := n2_
        have BK114 := n3_
        have HB := n4_
        clear n0_ n1_ n2_ n3_ n4_
        refine start_ (n := 11) (S := fun w' => w'.cell? ⟨gb114, 0, none⟩ = some (.slice Ao25 t104.length co25) ∧ w'.cell? ⟨gb114, 1, none⟩ = some (.slice Ao28 t107.length co28) ∧ w'.cell? ⟨gb114, 2, none⟩ = some (.int .i64 t110) ∧ w'.cell? ⟨gb114, 3, none⟩ = some (.int .i64 t111) ∧ w'.cell? ⟨gb114, 4, none⟩ = some (.int .i64 t112) ∧ w'.cell? ⟨gb101, 0, none⟩ = some (.slice A0_0 l0_0.length c0_0) ∧ w'.cell? ⟨gb101, 1, none⟩ = some (.slice A0_1 l0_1.length c0_1) ∧ w'.cell? ⟨gb101, 2, none⟩ = some (.int .i64 a0_2) ∧ w'.cell? ⟨gb101, 3, none⟩ = some (.int .i64 a0_3) ∧ w'.cell? ⟨gb101, 4, none⟩ = some (.int .i64 a0_4)) (ds := []) #[false, false, false, false, false, false, false, false, false, false, false] (by kernel_rfl) rfl rfl ⟨(blk_cell BK114.out 0).trans rfl, (blk_cell BK114.out 1).trans rfl, (blk_cell BK114.out 2).trans rfl, (blk_cell BK114.out 3).trans rfl, (blk_cell BK114.out 4).trans rfl, (blk_cell BK101.out 0).trans rfl, (blk_cell BK101.out 1).trans rfl, (blk_cell BK101.out 2).trans rfl, (blk_cell BK101.out 3).trans rfl, (blk_cell BK101.out 4).trans rfl⟩ (fun hHeld => ?_); refine with_tabW unicodetextlaw47_GroupsBack.tab6 unicodetextlaw47_GroupsBack.bits6 (fun HT_ HW_ => ?_)
        generalize w29.drew = w30 at HO106 HO109 BK101 BK114 HB hHeld ⊢
        refine pure_ (i := 1) (N := some 32) (v := ?_) (a' := ?_) #[false, true, false, false, false, false, false, false, false, false, false] rfl rfl (any_of HT_.out (by kernel_rfl)) (fun _ _ _ h => h) (Or.inl ⟨by rfl, ?_⟩) ?_ ?_
        rotate_left
        ·intro w'
         go_simp
         with_reducible rfl
        rotate_left
        ·simp only [Act.put, List.setIfInBounds_toArray, List.set_cons_zero, List.set_cons_succ, i64_w, i32_w]
         rfl
        refine take_ (i := 0) (N := some 31) (v := ?_) (a' := ?_) #[true, true, false, false, false, false, false, false, false, false, false] rfl rfl (take_ofW HT_.out HW_.out (by kernel_rfl)) (fun _ _ _ h => h) (Or.inl ⟨by rfl, ?_⟩) hHeld ?_ ?_
        rotate_left
        ·rintro w' ⟨s0, s1, s2, s3, s4, s5, s6, s7, s8, s9⟩
         go_simp
         with_reducible rfl
        rotate_left
        ·simp only [Act.put, List.setIfInBounds_toArray, List.set_cons_zero, List.set_cons_succ, i64_w, i32_w]
         rfl
        refine take_ (i := 2) (N := some 33) (v := ?_) (a' := ?_) #[true, true, true, false, false, false, false, false, false, false, false] rfl rfl (take_ofW HT_.out HW_.out (by kernel_rfl)) (fun _ _ _ h => h) (Or.inl ⟨by rfl, ?_⟩) hHeld ?_ ?_
        rotate_left
        ·rintro w' ⟨s0, s1, s2, s3, s4, s5, s6, s7, s8, s9⟩
         go_simp
         with_reducible rfl
        rotate_left
        ·simp only [Act.put, List.setIfInBounds_toArray, List.set_cons_zero, List.set_cons_succ, i64_w, i32_w]
         rfl
        refine join_ (σ := Value × Value × Value × Nat) 2 #[true, true, true, true, true, true, true, true, true, false, false] (fun s_ => [(34, s_.1), (35, .tuple #[.agg #[s_.2.1, s_.2.2.1, .int .i64 t126, .int .i64 t127, .int .i64 t128], .int .i64 t129]), (7, .pointer (some ⟨s_.2.2.2, 0, none⟩)), (30, .tuple #[.agg #[s_.2.1, s_.2.2.1, .int .i64 t126, .int .i64 t127, .int .i64 t128], .int .i64 t129]), (36, .agg #[s_.2.1, s_.2.2.1, .int .i64 t126, .int .i64 t127, .int .i64 t128]), (37, .int .i64 t129)]) (fun s_ w' => (w'.cell? ⟨gb114, 0, none⟩ = some (.slice Ao25 t104.length co25) ∧ w'.cell? ⟨gb114, 1, none⟩ = some (.slice Ao28 t107.length co28) ∧ w'.cell? ⟨gb114, 2, none⟩ = some (.int .i64 t110) ∧ w'.cell? ⟨gb114, 3, none⟩ = some (.int .i64 t111) ∧ w'.cell? ⟨gb114, 4, none⟩ = some (.int .i64 t112) ∧ w'.cell? ⟨gb101, 0, none⟩ = some (.slice A0_0 l0_0.length c0_0) ∧ w'.cell? ⟨gb101, 1, none⟩ = some (.slice A0_1 l0_1.length c0_1) ∧ w'.cell? ⟨gb101, 2, none⟩ = some (.int .i64 a0_2) ∧ w'.cell? ⟨gb101, 3, none⟩ = some (.int .i64 a0_3) ∧ w'.cell? ⟨gb101, 4, none⟩ = some (.int .i64 a0_4)) ∧ (Kd.S k49 49 w' w.heap.size (fun k_ => some k_ ≠ (s_.2.1 : Value).ownBlock) (.slice Ao25 t104.length co25) t104) ∧ (Kd.R k36 36 w' w.heap.size (fun k_ => some k_ ≠ (s_.2.2.1 : Value).ownBlock) (.slice Ao28 t107.length co28) t107) ∧ (Kd.R Kd.string 9 w' w.heap.size (fun _ => True) s_.1 t117) ∧ (Kd.S k49 49 w' w.heap.size (fun k_ => some k_ ≠ (.slice Ao25 t104.length co25 : Value).ownBlock) s_.2.1 t120) ∧ (Kd.R k36 36 w' w.heap.size (fun k_ => some k_ ≠ (.slice Ao28 t107.length co28 : Value).ownBlock) s_.2.2.1 t123) ∧ (w'.heap[gb101]? = some (.cells #[.slice A0_0 l0_0.length c0_0, .slice A0_1 l0_1.length c0_1, .int .i64 a0_2, .int .i64 a0_3, .int .i64 a0_4] 25 (0, 0))) ∧ (w'.heap[gb114]? = some (.cells #[.slice Ao25 t104.length co25, .slice Ao28 t107.length co28, .int .i64 t110, .int .i64 t111, .int .i64 t112] 25 (0, 0))) ∧ (w'.heap[s_.2.2.2]? = some (.cells #[.slice none 0 0, .slice none 0 0, .int .i64 0, .int .i64 0, .int .i64 0] 25 (0, 0))) ∧ (w.heap.size ≤ s_.2.2.2) ∧ (w.heap.size ≤ s_.2.2.2) ∧ (gb101 ≠ s_.2.2.2) ∧ (s_.2.2.2 ≠ gb101) ∧ (gb114 ≠ s_.2.2.2) ∧ (s_.2.2.2 ≠ gb114) ∧ (Below w.heap.size w w')) ?_ ?_
        rotate_left
        ·intro hCont
         refine two_ (i := 3) (j := 8) (Ni := some 34) (Nj := some 7) #[true, true, true, true, false, false, false, false, false, false, false] #[true, true, true, false, false, false, false, false, true, false, false] rfl rfl rfl rfl (two_of HT_.out (by kernel_rfl)) (by decide) (by decide) (fun K hK => ?_) (fun K hK => ?_)
         ·skip
          refine goes_ Try.func21 (by kernel_rfl) rfl #[.slice A0_1 l0_1.length c0_1] (by rfl) rfl rfl (by (try simp only [List.map_toArray, List.map_cons, List.map_nil]); first | done | rfl | (simp only [List.length_drop, List.length_take]; rfl)) ?_
          with_reducible refine (unicodetextref47_Names.calls k _ _ l0_1 t117 _ ?side1 ?side2 A7.out).mono ?_
          (case side1 => repeat (first | exact (Kd.C_below HR0_1.out HB.out) | (with_reducible refine Kd.C_alloc ?_ _) | (with_reducible refine Kd.C_drewN ?_ _) | (with_reducible refine Kd.C_drew ?_)))
          (case side2 => exact HC0_1.out)
          rintro e w31 ⟨v118, rfl, ho0, hb⟩
          refine ⟨_, rfl, ?_⟩
          have n0_ := Aside0.mk (Kd.S_below (by (with_reducible repeat (first | apply Kd.S_alloc | apply Kd.S_drewN | apply Kd.S_drew)); exact HO106.out) hb)
          have n1_ := Aside0.mk (Kd.R_below (by (with_reducible repeat (first | apply Kd.R_alloc | apply Kd.R_drewN | apply Kd.R_drew)); exact HO109.out) hb)
          have n2_ := Aside0.mk (Kd.R_lower ho0 (below_size (by repeat (first | (with_reducible first | exact HB.out | apply below_alloc | apply pw_below_drewN | apply below_drew1 | refine below_set ?_ GE101.out | refine below_set ?_ GE114.out) | exact HB.out))))
          have n3_ := Aside0.mk (blk_below (g := gb101) (o := .cells #[.slice A0_0 l0_0.length c0_0, .slice A0_1 l0_1.length c0_1, .int .i64 a0_2, .int .i64 a0_3, .int .i64 a0_4] 25 (0, 0)) (by (with_reducible repeat (first | refine blk_drewN ?_ _ | refine blk_drew ?_ | refine blk_alloc ?_ _)); exact BK101.out) hb)
          have n4_ := Aside0.mk (blk_below (g := gb114) (o := .cells #[.slice Ao25 t104.length co25, .slice Ao28 t107.length co28, .int .i64 t110, .int .i64 t111, .int .i64 t112] 25 (0, 0)) (by (with_reducible repeat (first | refine blk_drewN ?_ _ | refine blk_drew ?_ | refine blk_alloc ?_ _)); exact BK114.out) hb)
          have n5_ := Aside0.mk (below_step (by repeat (first | (with_reducible first | exact HB.out | apply below_alloc | apply pw_below_drewN | apply below_drew1 | refine below_set ?_ GE101.out | refine below_set ?_ GE114.out) | exact HB.out)) hb)
          clear HO106
          clear HO109
          clear BK101
          clear BK114
          clear HB
          have HO106 := n0_
          have HO109 := n1_
          have HO119 := n2_
          have BK101 := n3_
          have BK114 := n4_
          have HB := n5_
          clear n0_ n1_ n2_ n3_ n4_ n5_
          (try clear hb)
          (try clear hb2)
          (try clear hk)
          (try clear hi)
          (try clear ho0)
          obtain ⟨Ao32, co32, eo32⟩ := Kd.R_slice HO119.out
          (first | subst eo32 | (injection eo32 with f1_ f2_ f3_; have f4_ := f1_.symm; have f5_ := f3_.symm; clear f1_ f2_ f3_; subst f4_; subst f5_))
          refine hK.out _ _ ⟨(blk_cell BK114.out 0).trans rfl, (blk_cell BK114.out 1).trans rfl, (blk_cell BK114.out 2).trans rfl, (blk_cell BK114.out 3).trans rfl, (blk_cell BK114.out 4).trans rfl, (blk_cell BK101.out 0).trans rfl, (blk_cell BK101.out 1).trans rfl, (blk_cell BK101.out 2).trans rfl, (blk_cell BK101.out 3).trans rfl, (blk_cell BK101.out 4).trans rfl⟩ (fun hHeld => ?_)
          clear hK K
          refine norm_ (a' := ?_) ?_ ?_
          rotate_left
          ·show Act.put _ (some 34) _ = _
           simp only [Act.put, List.setIfInBounds_toArray, List.set_cons_zero, List.set_cons_succ, i64_w, i32_w]
           rfl
          refine two_ (i := 4) (j := 8) (Ni := some 35) (Nj := some 7) #[true, true, true, true, true, false, false, false, false, false, false] #[true, true, true, true, false, false, false, false, true, false, false] rfl rfl rfl rfl (two_of HT_.out (by kernel_rfl)) (by decide) (by decide) (fun K hK => ?_) (fun K hK => ?_)
          ·skip
           refine goes_ Try.func18 (by kernel_rfl) rfl #[.agg #[.slice Ao25 t104.length co25, .slice Ao28 t107.length co28, .int .i64 t110, .int .i64 t111, .int .i64 t112], .slice Ao32 t117.length co32] (by rfl) rfl rfl (by (try simp only [List.map_toArray, List.map_cons, List.map_nil]); first | done | rfl | (simp only [List.length_drop, List.length_take]; rfl)) ?_
           with_reducible refine (groups_Apply.calls k _ _ t104 _ _ t107 t110 t111 t112 _ _ t117 t120 t123 t126 t127 t128 t129 _ ?side1 ?side2 ?side3 ?side4 ?side5 ?side6 A8.out).mono ?_
           (case side1 => repeat (first | exact (Kd.S_reads' HO106.out).2.2 | (with_reducible refine Kd.C_alloc ?_ _) | (with_reducible refine Kd.C_drewN ?_ _) | (with_reducible refine Kd.C_drew ?_)))
           (case side2 => exact (Kd.S_reads' HO106.out).2.1)
           (case side3 => repeat (first | exact (Kd.R_reads' HO109.out).2.2 | (with_reducible refine Kd.C_alloc ?_ _) | (with_reducible refine Kd.C_drewN ?_ _) | (with_reducible refine Kd.C_drew ?_)))
           (case side4 => exact (Kd.R_reads' HO109.out).2.1)
           (case side5 => repeat (first | exact (Kd.R_reads' HO119.out).2.2 | (with_reducible refine Kd.C_alloc ?_ _) | (with_reducible refine Kd.C_drewN ?_ _) | (with_reducible refine Kd.C_drew ?_)))
           (case side6 => exact (Kd.R_reads' HO119.out).2.1)
           rintro e w33 ⟨v121, v124, rfl, ho0, ho1, hb⟩
           refine ⟨_, rfl, ?_⟩
           have n0_ := Aside0.mk (Kd.S_elder' (by (with_reducible repeat (first | apply Kd.S_alloc | apply Kd.S_drewN | apply Kd.S_drew)); exact HO106.out) (Kd.S_base ho0) hb)
           have n1_ := Aside0.mk (Kd.R_elder' (by (with_reducible repeat (first | apply Kd.R_alloc | apply Kd.R_drewN | apply Kd.R_drew)); exact HO109.out) (Kd.R_base ho1) hb)
           have n2_ := Aside0.mk (Kd.R_below (by (with_reducible repeat (first | apply Kd.R_alloc | apply Kd.R_drewN | apply Kd.R_drew)); exact HO119.out) hb)
           have n3_ := Aside0.mk (Kd.S_lower (Kd.S_new' ho0 (Kd.S_lt (by (with_reducible repeat (first | apply Kd.S_alloc | apply Kd.S_drewN | apply Kd.S_drew)); exact HO106.out))) (below_size (by repeat (first | (with_reducible first | exact HB.out | apply below_alloc | apply pw_below_drewN | apply below_drew1 | refine below_set ?_ GE101.out | refine below_set ?_ GE114.out) | exact HB.out))))
           have n4_ := Aside0.mk (Kd.R_lower (Kd.R_new' ho1 (Kd.R_lt (by (with_reducible repeat (first | apply Kd.R_alloc | apply Kd.R_drewN | apply Kd.R_drew)); exact HO109.out))) (below_size (by repeat (first | (with_reducible first | exact HB.out | apply below_alloc | apply pw_below_drewN | apply below_drew1 | refine below_set ?_ GE101.out | refine below_set ?_ GE114.out) | exact HB.out))))
           have n5_ := Aside0.mk (blk_below (g := gb101) (o := .cells #[.slice A0_0 l0_0.length c0_0, .slice A0_1 l0_1.length c0_1, .int .i64 a0_2, .int .i64 a0_3, .int .i64 a0_4] 25 (0, 0)) (by (with_reducible repeat (first | refine blk_drewN ?_ _ | refine blk_drew ?_ | refine blk_alloc ?_ _)); exact BK101.out) hb)
           have n6_ := Aside0.mk (blk_below (g := gb114) (o := .cells #[.slice Ao25 t104.length co25, .slice Ao28 t107.length co28, .int .i64 t110, .int .i64 t111, .int .i64 t112] 25 (0, 0)) (by (with_reducible repeat (first | refine blk_drewN ?_ _ | refine blk_drew ?_ | refine blk_alloc ?_ _)); exact BK114.out) hb)
           have n7_ := Aside0.mk (below_step (by repeat (first | (with_reducible first | exact HB.out | apply below_alloc | apply pw_below_drewN | apply below_drew1 | refine below_set ?_ GE101.out | refine below_set ?_ GE114.out) | exact HB.out)) hb)
           clear HO106
           clear HO109
           clear HO119
           clear BK101
           clear BK114
           clear HB
           have HO106 := n0_
           have HO109 := n1_
           have HO119 := n2_
           have HO122 := n3_
           have HO125 := n4_
           have BK101 := n5_
           have BK114 := n6_
           have HB := n7_
           clear n0_ n1_ n2_ n3_ n4_ n5_ n6_ n7_
           (try clear hb)
           (try clear hb2)
           (try clear hk)
           (try clear hi)
           (try clear ho0)
           (try clear ho1)
           refine hK.out _ _ ⟨(blk_cell BK114.out 0).trans rfl, (blk_cell BK114.out 1).trans rfl, (blk_cell BK114.out 2).trans rfl, (blk_cell BK114.out 3).trans rfl, (blk_cell BK114.out 4).trans rfl, (blk_cell BK101.out 0).trans rfl, (blk_cell BK101.out 1).trans rfl, (blk_cell BK101.out 2).trans rfl, (blk_cell BK101.out 3).trans rfl, (blk_cell BK101.out 4).trans rfl⟩ (fun hHeld => ?_)
           clear hK K
           refine norm_ (a' := ?_) ?_ ?_
           rotate_left
           ·show Act.put _ (some 35) _ = _
            simp only [Act.put, List.setIfInBounds_toArray, List.set_cons_zero, List.set_cons_succ, i64_w, i32_w]
            rfl
           refine pure_ (i := 5) (N := some 30) (v := ?_) (a' := ?_) #[true, true, true, true, true, true, false, false, false, false, false] rfl rfl (any_of HT_.out (by kernel_rfl)) (fun _ _ _ h => h) (Or.inl ⟨by rfl, ?_⟩) ?_ ?_
           rotate_left
           ·intro w'
            go_simp
            with_reducible rfl
           rotate_left
           ·simp only [Act.put, List.setIfInBounds_toArray, List.set_cons_zero, List.set_cons_succ, i64_w, i32_w]
            rfl
           refine pure_ (i := 6) (N := some 36) (v := ?_) (a' := ?_) #[true, true, true, true, true, true, true, false, false, false, false] rfl rfl (any_of HT_.out (by kernel_rfl)) (fun _ _ _ h => h) (Or.inl ⟨by rfl, ?_⟩) ?_ ?_
           rotate_left
           ·intro w'
            go_simp
            with_reducible rfl
           rotate_left
           ·simp only [Act.put, List.setIfInBounds_toArray, List.set_cons_zero, List.set_cons_succ, i64_w, i32_w]
            rfl
           refine pure_ (i := 7) (N := some 37) (v := ?_) (a' := ?_) #[true, true, true, true, true, true, true, true, false, false, false] rfl rfl (any_of HT_.out (by kernel_rfl)) (fun _ _ _ h => h) (Or.inl ⟨by rfl, ?_⟩) ?_ ?_
           rotate_left
           ·intro w'
            go_simp
            with_reducible rfl
           rotate_left
           ·simp only [Act.put, List.setIfInBounds_toArray, List.set_cons_zero, List.set_cons_succ, i64_w, i32_w]
            rfl
           refine one_ (i := 8) (N := some 7) #[true, true, true, true, true, true, true, true, true, false, false] rfl rfl (one_of HT_.out (by kernel_rfl)) (by decide) (fun K hK => ?_)
           refine box_step ?hg (N := 7) ?hd (cs := #[.slice none 0 0, .slice none 0 0, .int .i64 0, .int .i64 0, .int .i64 0]) (t := 25) ?hr ?_; (case hd => rfl); (case hg => rfl); (case hr => first | (go_simp; done) | (go_simp; rfl))
           intro gb130 hg w34 hbox hb
           have n0_ := Aside0.mk (Kd.S_below (by (with_reducible repeat (first | apply Kd.S_alloc | apply Kd.S_drewN | apply Kd.S_drew)); exact HO106.out) hb)
           have n1_ := Aside0.mk (Kd.R_below (by (with_reducible repeat (first | apply Kd.R_alloc | apply Kd.R_drewN | apply Kd.R_drew)); exact HO109.out) hb)
           have n2_ := Aside0.mk (Kd.R_below (by (with_reducible repeat (first | apply Kd.R_alloc | apply Kd.R_drewN | apply Kd.R_drew)); exact HO119.out) hb)
           have n3_ := Aside0.mk (Kd.S_below (by (with_reducible repeat (first | apply Kd.S_alloc | apply Kd.S_drewN | apply Kd.S_drew)); exact HO122.out) hb)
           have n4_ := Aside0.mk (Kd.R_below (by (with_reducible repeat (first | apply Kd.R_alloc | apply Kd.R_drewN | apply Kd.R_drew)); exact HO125.out) hb)
           have n5_ := Aside0.mk (blk_below (g := gb101) (o := .cells #[.slice A0_0 l0_0.length c0_0, .slice A0_1 l0_1.length c0_1, .int .i64 a0_2, .int .i64 a0_3, .int .i64 a0_4] 25 (0, 0)) (by (with_reducible repeat (first | refine blk_drewN ?_ _ | refine blk_drew ?_ | refine blk_alloc ?_ _)); exact BK101.out) hb)
           have n6_ := Aside0.mk (blk_below (g := gb114) (o := .cells #[.slice Ao25 t104.length co25, .slice Ao28 t107.length co28, .int .i64 t110, .int .i64 t111, .int .i64 t112] 25 (0, 0)) (by (with_reducible repeat (first | refine blk_drewN ?_ _ | refine blk_drew ?_ | refine blk_alloc ?_ _)); exact BK114.out) hb)
           have n7_ := Aside0.mk (below_step (by repeat (first | (with_reducible first | exact HB.out | apply below_alloc | apply pw_below_drewN | apply below_drew1 | refine below_set ?_ GE101.out | refine below_set ?_ GE114.out) | exact HB.out)) hb)
           have n8_ := Aside0.mk (hbox)
           have n9_ := Aside0.mk ((by rw [hg]; exact (below_size (by repeat (first | (with_reducible first | exact HB.out | apply below_alloc | apply pw_below_drewN | apply below_drew1 | refine below_set ?_ GE101.out | refine below_set ?_ GE114.out) | exact HB.out))) : w.heap.size ≤ gb130))
           have n10_ := Aside0.mk ((by rw [hg]; exact (below_size (by repeat (first | (with_reducible first | exact HB.out | apply below_alloc | apply pw_below_drewN | apply below_drew1 | refine below_set ?_ GE101.out | refine below_set ?_ GE114.out) | exact HB.out))) : w.heap.size ≤ gb130))
           have n11_ := Aside0.mk ((by rw [hg]; exact Nat.ne_of_lt (blk_lt (g := gb101) (o := .cells #[.slice A0_0 l0_0.length c0_0, .slice A0_1 l0_1.length c0_1, .int .i64 a0_2, .int .i64 a0_3, .int .i64 a0_4] 25 (0, 0)) (by (with_reducible repeat (first | refine blk_drewN ?_ _ | refine blk_drew ?_ | refine blk_alloc ?_ _)); exact BK101.out)) : gb101 ≠ gb130))
           have n12_ := Aside0.mk ((by rw [hg]; exact Nat.ne_of_gt (blk_lt (g := gb101) (o := .cells #[.slice A0_0 l0_0.length c0_0, .slice A0_1 l0_1.length c0_1, .int .i64 a0_2, .int .i64 a0_3, .int .i64 a0_4] 25 (0, 0)) (by (with_reducible repeat (first | refine blk_drewN ?_ _ | refine blk_drew ?_ | refine blk_alloc ?_ _)); exact BK101.out)) : gb130 ≠ gb101))
           have n13_ := Aside0.mk ((by rw [hg]; exact Nat.ne_of_lt (blk_lt (g := gb114) (o := .cells #[.slice Ao25 t104.length co25, .slice Ao28 t107.length co28, .int .i64 t110, .int .i64 t111, .int .i64 t112] 25 (0, 0)) (by (with_reducible repeat (first | refine blk_drewN ?_ _ | refine blk_drew ?_ | refine blk_alloc ?_ _)); exact BK114.out)) : gb114 ≠ gb130))
           have n14_ := Aside0.mk ((by rw [hg]; exact Nat.ne_of_gt (blk_lt (g := gb114) (o := .cells #[.slice Ao25 t104.length co25, .slice Ao28 t107.length co28, .int .i64 t110, .int .i64 t111, .int .i64 t112] 25 (0, 0)) (by (with_reducible repeat (first | refine blk_drewN ?_ _ | refine blk_drew ?_ | refine blk_alloc ?_ _)); exact BK114.out)) : gb130 ≠ gb114))
           clear HO106
           clear HO109
           clear HO119
           clear HO122
           clear HO125
           clear BK101
           clear BK114
           clear HB
           have HO106 := n0_
           have HO109 := n1_
           have HO119 := n2_
           have HO122 := n3_
           have HO125 := n4_
           have BK101 := n5_
           have BK114 := n6_
           have HB := n7_
           have BK130 := n8_
           have GW130 := n9_
           have GE130 := n10_
           have NB101_130 := n11_
           have NB130_101 := n12_
           have NB114_130 := n13_
           have NB130_114 := n14_
           clear n0_ n1_ n2_ n3_ n4_ n5_ n6_ n7_ n8_ n9_ n10_ n11_ n12_ n13_ n14_
           clear hb hbox hg
           refine hK.out _ _ ⟨(blk_cell BK114.out 0).trans rfl, (blk_cell BK114.out 1).trans rfl, (blk_cell BK114.out 2).trans rfl, (blk_cell BK114.out 3).trans rfl, (blk_cell BK114.out 4).trans rfl, (blk_cell BK101.out 0).trans rfl, (blk_cell BK101.out 1).trans rfl, (blk_cell BK101.out 2).trans rfl, (blk_cell BK101.out 3).trans rfl, (blk_cell BK101.out 4).trans rfl⟩ (fun hHeld => ?_)
           clear hK K
           refine norm_ (a' := ?_) ?_ ?_
           rotate_left
           ·show Act.put _ (some 7) _ = _
            simp only [Act.put, List.setIfInBounds_toArray, List.set_cons_zero, List.set_cons_succ, i64_w, i32_w]
            rfl
           exact norm_ (by simp only [putAll, Act.put, List.setIfInBounds_toArray, List.set_cons_zero, List.set_cons_succ]) (hCont (.slice Ao32 t117.length co32, v121, v124, gb130) _ ⟨hHeld, (by (with_reducible repeat (first | apply Kd.S_alloc | apply Kd.S_drewN | apply Kd.S_drew)); exact Kd.S_mono HO106.out (fun _ hk => hk.2)), (by (with_reducible repeat (first | apply Kd.R_alloc | apply Kd.R_drewN | apply Kd.R_drew)); exact Kd.R_mono HO109.out (fun _ hk => hk.2)), (by (with_reducible repeat (first | apply Kd.R_alloc | apply Kd.R_drewN | apply Kd.R_drew)); exact HO119.out), (by (with_reducible repeat (first | apply Kd.S_alloc | apply Kd.S_drewN | apply Kd.S_drew)); exact Kd.S_mono HO122.out (fun _ hk => hk.2)), (by (with_reducible repeat (first | apply Kd.R_alloc | apply Kd.R_drewN | apply Kd.R_drew)); exact Kd.R_mono HO125.out (fun _ hk => hk.2)), (by (with_reducible repeat (first | refine blk_drewN ?_ _ | refine blk_drew ?_ | refine blk_alloc ?_ _)); exact BK101.out), (by (with_reducible repeat (first | refine blk_drewN ?_ _ | refine blk_drew ?_ | refine blk_alloc ?_ _)); exact BK114.out), (by (with_reducible repeat (first | refine blk_drewN ?_ _ | refine blk_drew ?_ | refine blk_alloc ?_ _)); exact BK130.out), GW130.out, GE130.out, NB101_130.out, NB130_101.out, NB114_130.out, NB130_114.out, (by repeat (first | (with_reducible first | exact HB.out | apply below_alloc | apply pw_below_drewN | apply below_drew1 | refine below_set ?_ GE101.out | refine below_set ?_ GE114.out | refine below_set ?_ GE130.out) | exact HB.out))⟩)
          ·skip
           refine box_step ?hg (N := 7) ?hd (cs := #[.slice none 0 0, .slice none 0 0, .int .i64 0, .int .i64 0, .int .i64 0]) (t := 25) ?hr ?_; (case hd => rfl); (case hg => rfl); (case hr => first | (go_simp; done) | (go_simp; rfl))
           intro gb130 hg w32 hbox hb
           have n0_ := Aside0.mk (Kd.S_below (by (with_reducible repeat (first | apply Kd.S_alloc | apply Kd.S_drewN | apply Kd.S_drew)); exact HO106.out) hb)
           have n1_ := Aside0.mk (Kd.R_below (by (with_reducible repeat (first | apply Kd.R_alloc | apply Kd.R_drewN | apply Kd.R_drew)); exact HO109.out) hb)
           have n2_ := Aside0.mk (Kd.R_below (by (with_reducible repeat (first | apply Kd.R_alloc | apply Kd.R_drewN | apply Kd.R_drew)); exact HO119.out) hb)
           have n3_ := Aside0.mk (blk_below (g := gb101) (o := .cells #[.slice A0_0 l0_0.length c0_0, .slice A0_1 l0_1.length c0_1, .int .i64 a0_2, .int .i64 a0_3, .int .i64 a0_4] 25 (0, 0)) (by (with_reducible repeat (first | refine blk_drewN ?_ _ | refine blk_drew ?_ | refine blk_alloc ?_ _)); exact BK101.out) hb)
           have n4_ := Aside0.mk (blk_below (g := gb114) (o := .cells #[.slice Ao25 t104.length co25, .slice Ao28 t107.length co28, .int .i64 t110, .int .i64 t111, .int .i64 t112] 25 (0, 0)) (by (with_reducible repeat (first | refine blk_drewN ?_ _ | refine blk_drew ?_ | refine blk_alloc ?_ _)); exact BK114.out) hb)
           have n5_ := Aside0.mk (below_step (by repeat (first | (with_reducible first | exact HB.out | apply below_alloc | apply pw_below_drewN | apply below_drew1 | refine below_set ?_ GE101.out | refine below_set ?_ GE114.out) | exact HB.out)) hb)
           have n6_ := Aside0.mk (hbox)
           have n7_ := Aside0.mk ((by rw [hg]; exact (below_size (by repeat (first | (with_reducible first | exact HB.out | apply below_alloc | apply pw_below_drewN | apply below_drew1 | refine below_set ?_ GE101.out | refine below_set ?_ GE114.out) | exact HB.out))) : w.heap.size ≤ gb130))
           have n8_ := Aside0.mk ((by rw [hg]; exact (below_size (by repeat (first | (with_reducible first | exact HB.out | apply below_alloc | apply pw_below_drewN | apply below_drew1 | refine below_set ?_ GE101.out | refine below_set ?_ GE114.out) | exact HB.out))) : w.heap.size ≤ gb130))
           have n9_ := Aside0.mk ((by rw [hg]; exact Nat.ne_of_lt (blk_lt (g := gb101) (o := .cells #[.slice A0_0 l0_0.length c0_0, .slice A0_1 l0_1.length c0_1, .int .i64 a0_2, .int .i64 a0_3, .int .i64 a0_4] 25 (0, 0)) (by (with_reducible repeat (first | refine blk_drewN ?_ _ | refine blk_drew ?_ | refine blk_alloc ?_ _)); exact BK101.out)) : gb101 ≠ gb130))
           have n10_ := Aside0.mk ((by rw [hg]; exact Nat.ne_of_gt (blk_lt (g := gb101) (o := .cells #[.slice A0_0 l0_0.length c0_0, .slice A0_1 l0_1.length c0_1, .int .i64 a0_2, .int .i64 a0_3, .int .i64 a0_4] 25 (0, 0)) (by (with_reducible repeat (first | refine blk_drewN ?_ _ | refine blk_drew ?_ | refine blk_alloc ?_ _)); exact BK101.out)) : gb130 ≠ gb101))
           have n11_ := Aside0.mk ((by rw [hg]; exact Nat.ne_of_lt (blk_lt (g := gb114) (o := .cells #[.slice Ao25 t104.length co25, .slice Ao28 t107.length co28, .int .i64 t110, .int .i64 t111, .int .i64 t112] 25 (0, 0)) (by (with_reducible repeat (first | refine blk_drewN ?_ _ | refine blk_drew ?_ | refine blk_alloc ?_ _)); exact BK114.out)) : gb114 ≠ gb130))
           have n12_ := Aside0.mk ((by rw [hg]; exact Nat.ne_of_gt (blk_lt (g := gb114) (o := .cells #[.slice Ao25 t104.length co25, .slice Ao28 t107.length co28, .int .i64 t110, .int .i64 t111, .int .i64 t112] 25 (0, 0)) (by (with_reducible repeat (first | refine blk_drewN ?_ _ | refine blk_drew ?_ | refine blk_alloc ?_ _)); exact BK114.out)) : gb130 ≠ gb114))
           clear HO106
           clear HO109
           clear HO119
           clear BK101
           clear BK114
           clear HB
           have HO106 := n0_
           have HO109 := n1_
           have HO119 := n2_
           have BK101 := n3_
           have BK114 := n4_
           have HB := n5_
           have BK130 := n6_
           have GW130 := n7_
           have GE130 := n8_
           have NB101_130 := n9_
           have NB130_101 := n10_
           have NB114_130 := n11_
           have NB130_114 := n12_
           clear n0_ n1_ n2_ n3_ n4_ n5_ n6_ n7_ n8_ n9_ n10_ n11_ n12_
           clear hb hbox hg
           obtain ⟨Ao33, co33, eo33⟩ := Kd.R_slice HO119.out
           (first | subst eo33 | (injection eo33 with f1_ f2_ f3_; have f4_ := f1_.symm; have f5_ := f3_.symm; clear f1_ f2_ f3_; subst f4_; subst f5_))
           refine hK.out _ _ ⟨(blk_cell BK114.out 0).trans rfl, (blk_cell BK114.out 1).trans rfl, (blk_cell BK114.out 2).trans rfl, (blk_cell BK114.out 3).trans rfl, (blk_cell BK114.out 4).trans rfl, (blk_cell BK101.out 0).trans rfl, (blk_cell BK101.out 1).trans rfl, (blk_cell BK101.out 2).trans rfl, (blk_cell BK101.out 3).trans rfl, (blk_cell BK101.out 4).trans rfl⟩ (fun hHeld => ?_)
           clear hK K
           refine norm_ (a' := ?_) ?_ ?_
           rotate_left
           ·show Act.put _ (some 7) _ = _
            simp only [Act.put, List.setIfInBounds_toArray, List.set_cons_zero, List.set_cons_succ, i64_w, i32_w]
            rfl
           refine one_ (i := 4) (N := some 35) #[true, true, true, true, true, false, false, false, true, false, false] rfl rfl (one_of HT_.out (by kernel_rfl)) (by decide) (fun K hK => ?_)
           refine goes_ Try.func18 (by kernel_rfl) rfl #[.agg #[.slice Ao25 t104.length co25, .slice Ao28 t107.length co28, .int .i64 t110, .int .i64 t111, .int .i64 t112], .slice Ao33 t117.length co33] (by rfl) rfl rfl (by (try simp only [List.map_toArray, List.map_cons, List.map_nil]); first | done | rfl | (simp only [List.length_drop, List.length_take]; rfl)) ?_
           with_reducible refine (groups_Apply.calls k _ _ t104 _ _ t107 t110 t111 t112 _ _ t117 t120 t123 t126 t127 t128 t129 _ ?side1 ?side2 ?side3 ?side4 ?side5 ?side6 A8.out).mono ?_
           (case side1 => repeat (first | exact (Kd.S_reads' HO106.out).2.2 | (with_reducible refine Kd.C_alloc ?_ _) | (with_reducible refine Kd.C_drewN ?_ _) | (with_reducible refine Kd.C_drew ?_)))
           (case side2 => exact (Kd.S_reads' HO106.out).2.1)
           (case side3 => repeat (first | exact (Kd.R_reads' HO109.out).2.2 | (with_reducible refine Kd.C_alloc ?_ _) | (with_reducible refine Kd.C_drewN ?_ _) | (with_reducible refine Kd.C_drew ?_)))
           (case side4 => exact (Kd.R_reads' HO109.out).2.1)
           (case side5 => repeat (first | exact (Kd.R_reads' HO119.out).2.2 | (with_reducible refine Kd.C_alloc ?_ _) | (with_reducible refine Kd.C_drewN ?_ _) | (with_reducible refine Kd.C_drew ?_)))
           (case side6 => exact (Kd.R_reads' HO119.out).2.1)
           rintro e w34 ⟨v121, v124, rfl, ho0, ho1, hb⟩
           refine ⟨_, rfl, ?_⟩
           have n0_ := Aside0.mk (Kd.S_elder' (by (with_reducible repeat (first | apply Kd.S_alloc | apply Kd.S_drewN | apply Kd.S_drew)); exact HO106.out) (Kd.S_base ho0) hb)
           have n1_ := Aside0.mk (Kd.R_elder' (by (with_reducible repeat (first | apply Kd.R_alloc | apply Kd.R_drewN | apply Kd.R_drew)); exact HO109.out) (Kd.R_base ho1) hb)
           have n2_ := Aside0.mk (Kd.R_below (by (with_reducible repeat (first | apply Kd.R_alloc | apply Kd.R_drewN | apply Kd.R_drew)); exact HO119.out) hb)
           have n3_ := Aside0.mk (Kd.S_lower (Kd.S_new' ho0 (Kd.S_lt (by (with_reducible repeat (first | apply Kd.S_alloc | apply Kd.S_drewN | apply Kd.S_drew)); exact HO106.out))) (below_size (by repeat (first | (with_reducible first | exact HB.out | apply below_alloc | apply pw_below_drewN | apply below_drew1 | refine below_set ?_ GE101.out | refine below_set ?_ GE114.out | refine below_set ?_ GE130.out) | exact HB.out))))
           have n4_ := Aside0.mk (Kd.R_lower (Kd.R_new' ho1 (Kd.R_lt (by (with_reducible repeat (first | apply Kd.R_alloc | apply Kd.R_drewN | apply Kd.R_drew)); exact HO109.out))) (below_size (by repeat (first | (with_reducible first | exact HB.out | apply below_alloc | apply pw_below_drewN | apply below_drew1 | refine below_set ?_ GE101.out | refine below_set ?_ GE114.out | refine below_set ?_ GE130.out) | exact HB.out))))
           have n5_ := Aside0.mk (blk_below (g := gb101) (o := .cells #[.slice A0_0 l0_0.length c0_0, .slice A0_1 l0_1.length c0_1, .int .i64 a0_2, .int .i64 a0_3, .int .i64 a0_4] 25 (0, 0)) (by (with_reducible repeat (first | refine blk_drewN ?_ _ | refine blk_drew ?_ | refine blk_alloc ?_ _)); exact BK101.out) hb)
           have n6_ := Aside0.mk (blk_below (g := gb114) (o := .cells #[.slice Ao25 t104.length co25, .slice Ao28 t107.length co28, .int .i64 t110, .int .i64 t111, .int .i64 t112] 25 (0, 0)) (by (with_reducible repeat (first | refine blk_drewN ?_ _ | refine blk_drew ?_ | refine blk_alloc ?_ _)); exact BK114.out) hb)
           have n7_ := Aside0.mk (blk_below (g := gb130) (o := .cells #[.slice none 0 0, .slice none 0 0, .int .i64 0, .int .i64 0, .int .i64 0] 25 (0, 0)) (by (with_reducible repeat (first | refine blk_drewN ?_ _ | refine blk_drew ?_ | refine blk_alloc ?_ _)); exact BK130.out) hb)
           have n8_ := Aside0.mk (below_step (by repeat (first | (with_reducible first | exact HB.out | apply below_alloc | apply pw_below_drewN | apply below_drew1 | refine below_set ?_ GE101.out | refine below_set ?_ GE114.out | refine below_set ?_ GE130.out) | exact HB.out)) hb)
           clear HO106
           clear HO109
           clear HO119
           clear BK101
           clear BK114
           clear BK130
           clear HB
           have HO106 := n0_
           have HO109 := n1_
           have HO119 := n2_
           have HO122 := n3_
           have HO125 := n4_
           have BK101 := n5_
           have BK114 := n6_
           have BK130 := n7_
           have HB := n8_
           clear n0_ n1_ n2_ n3_ n4_ n5_ n6_ n7_ n8_
           (try clear hb)
           (try clear hb2)
           (try clear hk)
           (try clear hi)
           (try clear ho0)
           (try clear ho1)
           refine hK.out _ _ ⟨(blk_cell BK114.out 0).trans rfl, (blk_cell BK114.out 1).trans rfl, (blk_cell BK114.out 2).trans rfl, (blk_cell BK114.out 3).trans rfl, (blk_cell BK114.out 4).trans rfl, (blk_cell BK101.out 0).trans rfl, (blk_cell BK101.out 1).trans rfl, (blk_cell BK101.out 2).trans rfl, (blk_cell BK101.out 3).trans rfl, (blk_cell BK101.out 4).trans rfl⟩ (fun hHeld => ?_)
           clear hK K
           refine norm_ (a' := ?_) ?_ ?_
           rotate_left
           ·show Act.put _ (some 35) _ = _
            simp only [Act.put, List.setIfInBounds_toArray, List.set_cons_zero, List.set_cons_succ, i64_w, i32_w]
            rfl
           refine pure_ (i := 5) (N := some 30) (v := ?_) (a' := ?_) #[true, true, true, true, true, true, false, false, true, false, false] rfl rfl (any_of HT_.out (by kernel_rfl)) (fun _ _ _ h => h) (Or.inl ⟨by rfl, ?_⟩) ?_ ?_
           rotate_left
           ·intro w'
            go_simp
            with_reducible rfl
           rotate_left
           ·simp only [Act.put, List.setIfInBounds_toArray, List.set_cons_zero, List.set_cons_succ, i64_w, i32_w]
            rfl
           refine pure_ (i := 6) (N := some 36) (v := ?_) (a' := ?_) #[true, true, true, true, true, true, true, false, true, false, false] rfl rfl (any_of HT_.out (by kernel_rfl)) (fun _ _ _ h => h) (Or.inl ⟨by rfl, ?_⟩) ?_ ?_
           rotate_left
           ·intro w'
            go_simp
            with_reducible rfl
           rotate_left
           ·simp only [Act.put, List.setIfInBounds_toArray, List.set_cons_zero, List.set_cons_succ, i64_w, i32_w]
            rfl
           refine pure_ (i := 7) (N := some 37) (v := ?_) (a' := ?_) #[true, true, true, true, true, true, true, true, true, false, false] rfl rfl (any_of HT_.out (by kernel_rfl)) (fun _ _ _ h => h) (Or.inl ⟨by rfl, ?_⟩) ?_ ?_
           rotate_left
           ·intro w'
            go_simp
            with_reducible rfl
           rotate_left
           ·simp only [Act.put, List.setIfInBounds_toArray, List.set_cons_zero, List.set_cons_succ, i64_w, i32_w]
            rfl
           exact norm_ (by simp only [putAll, Act.put, List.setIfInBounds_toArray, List.set_cons_zero, List.set_cons_succ]) (hCont (.slice Ao33 t117.length co33, v121, v124, gb130) _ ⟨hHeld, (by (with_reducible repeat (first | apply Kd.S_alloc | apply Kd.S_drewN | apply Kd.S_drew)); exact Kd.S_mono HO106.out (fun _ hk => hk.2)), (by (with_reducible repeat (first | apply Kd.R_alloc | apply Kd.R_drewN | apply Kd.R_drew)); exact Kd.R_mono HO109.out (fun _ hk => hk.2)), (by (with_reducible repeat (first | apply Kd.R_alloc | apply Kd.R_drewN | apply Kd.R_drew)); exact HO119.out), (by (with_reducible repeat (first | apply Kd.S_alloc | apply Kd.S_drewN | apply Kd.S_drew)); exact Kd.S_mono HO122.out (fun _ hk => hk.2)), (by (with_reducible repeat (first | apply Kd.R_alloc | apply Kd.R_drewN | apply Kd.R_drew)); exact Kd.R_mono HO125.out (fun _ hk => hk.2)), (by (with_reducible repeat (first | refine blk_drewN ?_ _ | refine blk_drew ?_ | refine blk_alloc ?_ _)); exact BK101.out), (by (with_reducible repeat (first | refine blk_drewN ?_ _ | refine blk_drew ?_ | refine blk_alloc ?_ _)); exact BK114.out), (by (with_reducible repeat (first | refine blk_drewN ?_ _ | refine blk_drew ?_ | refine blk_alloc ?_ _)); exact BK130.out), GW130.out, GE130.out, NB101_130.out, NB130_101.out, NB114_130.out, NB130_114.out, (by repeat (first | (with_reducible first | exact HB.out | apply below_alloc | apply pw_below_drewN | apply below_drew1 | refine below_set ?_ GE101.out | refine below_set ?_ GE114.out | refine below_set ?_ GE130.out) | exact HB.out))⟩)
         ·skip
          refine box_step ?hg (N := 7) ?hd (cs := #[.slice none 0 0, .slice none 0 0, .int .i64 0, .int .i64 0, .int .i64 0]) (t := 25) ?hr ?_; (case hd => rfl); (case hg => rfl); (case hr => first | (go_simp; done) | (go_simp; rfl))
          intro gb130 hg w31 hbox hb
          have n0_ := Aside0.mk (Kd.S_below (by (with_reducible repeat (first | apply Kd.S_alloc | apply Kd.S_drewN | apply Kd.S_drew)); exact HO106.out) hb)
          have n1_ := Aside0.mk (Kd.R_below (by (with_reducible repeat (first | apply Kd.R_alloc | apply Kd.R_drewN | apply Kd.R_drew)); exact HO109.out) hb)
          have n2_ := Aside0.mk (blk_below (g := gb101) (o := .cells #[.slice A0_0 l0_0.length c0_0, .slice A0_1 l0_1.length c0_1, .int .i64 a0_2, .int .i64 a0_3, .int .i64 a0_4] 25 (0, 0)) (by (with_reducible repeat (first | refine blk_drewN ?_ _ | refine blk_drew ?_ | refine blk_alloc ?_ _)); exact BK101.out) hb)
          have n3_ := Aside0.mk (blk_below (g := gb114) (o := .cells #[.slice Ao25 t104.length co25, .slice Ao28 t107.length co28, .int .i64 t110, .int .i64 t111, .int .i64 t112] 25 (0, 0)) (by (with_reducible repeat (first | refine blk_drewN ?_ _ | refine blk_drew ?_ | refine blk_alloc ?_ _)); exact BK114.out) hb)
          have n4_ := Aside0.mk (below_step (by repeat (first | (with_reducible first | exact HB.out | apply below_alloc | apply pw_below_drewN | apply below_drew1 | refine below_set ?_ GE101.out | refine below_set ?_ GE114.out) | exact HB.out)) hb)
          have n5_ := Aside0.mk (hbox)
          have n6_ := Aside0.mk ((by rw [hg]; exact (below_size (by repeat (first | (with_reducible first | exact HB.out | apply below_alloc | apply pw_below_drewN | apply below_drew1 | refine below_set ?_ GE101.out | refine below_set ?_ GE114.out) | exact HB.out))) : w.heap.size ≤ gb130))
          have n7_ := Aside0.mk ((by rw [hg]; exact (below_size (by repeat (first | (with_reducible first | exact HB.out | apply below_alloc | apply pw_below_drewN | apply below_drew1 | refine below_set ?_ GE101.out | refine below_set ?_ GE114.out) | exact HB.out))) : w.heap.size ≤ gb130))
          have n8_ := Aside0.mk ((by rw [hg]; exact Nat.ne_of_lt (blk_lt (g := gb101) (o := .cells #[.slice A0_0 l0_0.length c0_0, .slice A0_1 l0_1.length c0_1, .int .i64 a0_2, .int .i64 a0_3, .int .i64 a0_4] 25 (0, 0)) (by (with_reducible repeat (first | refine blk_drewN ?_ _ | refine blk_drew ?_ | refine blk_alloc ?_ _)); exact BK101.out)) : gb101 ≠ gb130))
          have n9_ := Aside0.mk ((by rw [hg]; exact Nat.ne_of_gt (blk_lt (g := gb101) (o := .cells #[.slice A0_0 l0_0.length c0_0, .slice A0_1 l0_1.length c0_1, .int .i64 a0_2, .int .i64 a0_3, .int .i64 a0_4] 25 (0, 0)) (by (with_reducible repeat (first | refine blk_drewN ?_ _ | refine blk_drew ?_ | refine blk_alloc ?_ _)); exact BK101.out)) : gb130 ≠ gb101))
          have n10_ := Aside0.mk ((by rw [hg]; exact Nat.ne_of_lt (blk_lt (g := gb114) (o := .cells #[.slice Ao25 t104.length co25, .slice Ao28 t107.length co28, .int .i64 t110, .int .i64 t111, .int .i64 t112] 25 (0, 0)) (by (with_reducible repeat (first | refine blk_drewN ?_ _ | refine blk_drew ?_ | refine blk_alloc ?_ _)); exact BK114.out)) : gb114 ≠ gb130))
          have n11_ := Aside0.mk ((by rw [hg]; exact Nat.ne_of_gt (blk_lt (g := gb114) (o := .cells #[.slice Ao25 t104.length co25, .slice Ao28 t107.length co28, .int .i64 t110, .int .i64 t111, .int .i64 t112] 25 (0, 0)) (by (with_reducible repeat (first | refine blk_drewN ?_ _ | refine blk_drew ?_ | refine blk_alloc ?_ _)); exact BK114.out)) : gb130 ≠ gb114))
          clear HO106
          clear HO109
          clear BK101
          clear BK114
          clear HB
          have HO106 := n0_
          have HO109 := n1_
          have BK101 := n2_
          have BK114 := n3_
          have HB := n4_
          have BK130 := n5_
          have GW130 := n6_
          have GE130 := n7_
          have NB101_130 := n8_
          have NB130_101 := n9_
          have NB114_130 := n10_
          have NB130_114 := n11_
          clear n0_ n1_ n2_ n3_ n4_ n5_ n6_ n7_ n8_ n9_ n10_ n11_
          clear hb hbox hg
          refine hK.out _ _ ⟨(blk_cell BK114.out 0).trans rfl, (blk_cell BK114.out 1).trans rfl, (blk_cell BK114.out 2).trans rfl, (blk_cell BK114.out 3).trans rfl, (blk_cell BK114.out 4).trans rfl, (blk_cell BK101.out 0).trans rfl, (blk_cell BK101.out 1).trans rfl, (blk_cell BK101.out 2).trans rfl, (blk_cell BK101.out 3).trans rfl, (blk_cell BK101.out 4).trans rfl⟩ (fun hHeld => ?_)
          clear hK K
          refine norm_ (a' := ?_) ?_ ?_
          rotate_left
          ·show Act.put _ (some 7) _ = _
           simp only [Act.put, List.setIfInBounds_toArray, List.set_cons_zero, List.set_cons_succ, i64_w, i32_w]
           rfl
          refine one_ (i := 3) (N := some 34) #[true, true, true, true, false, false, false, false, true, false, false] rfl rfl (one_of HT_.out (by kernel_rfl)) (by decide) (fun K hK => ?_)
          refine goes_ Try.func21 (by kernel_rfl) rfl #[.slice A0_1 l0_1.length c0_1] (by rfl) rfl rfl (by (try simp only [List.map_toArray, List.map_cons, List.map_nil]); first | done | rfl | (simp only [List.length_drop, List.length_take]; rfl)) ?_
          with_reducible refine (unicodetextref47_Names.calls k _ _ l0_1 t117 _ ?side1 ?side2 A7.out).mono ?_
          (case side1 => repeat (first | exact (Kd.C_below HR0_1.out HB.out) | (with_reducible refine Kd.C_alloc ?_ _) | (with_reducible refine Kd.C_drewN ?_ _) | (with_reducible refine Kd.C_drew ?_)))
          (case side2 => exact HC0_1.out)
          rintro e w32 ⟨v118, rfl, ho0, hb⟩
          refine ⟨_, rfl, ?_⟩
          have n0_ := Aside0.mk (Kd.S_below (by (with_reducible repeat (first | apply Kd.S_alloc | apply Kd.S_drewN | apply Kd.S_drew)); exact HO106.out) hb)
          have n1_ := Aside0.mk (Kd.R_below (by (with_reducible repeat (first | apply Kd.R_alloc | apply Kd.R_drewN | apply Kd.R_drew)); exact HO109.out) hb)
          have n2_ := Aside0.mk (Kd.R_lower ho0 (below_size (by repeat (first | (with_reducible first | exact HB.out | apply below_alloc | apply pw_below_drewN | apply below_drew1 | refine below_set ?_ GE101.out | refine below_set ?_ GE114.out | refine below_set ?_ GE130.out) | exact HB.out))))
          have n3_ := Aside0.mk (blk_below (g := gb101) (o := .cells #[.slice A0_0 l0_0.length c0_0, .slice A0_1 l0_1.length c0_1, .int .i64 a0_2, .int .i64 a0_3, .int .i64 a0_4] 25 (0, 0)) (by (with_reducible repeat (first | refine blk_drewN ?_ _ | refine blk_drew ?_ | refine blk_alloc ?_ _)); exact BK101.out) hb)
          have n4_ := Aside0.mk (blk_below (g := gb114) (o := .cells #[.slice Ao25 t104.length co25, .slice Ao28 t107.length co28, .int .i64 t110, .int .i64 t111, .int .i64 t112] 25 (0, 0)) (by (with_reducible repeat (first | refine blk_drewN ?_ _ | refine blk_drew ?_ | refine blk_alloc ?_ _)); exact BK114.out) hb)
          have n5_ := Aside0.mk (blk_below (g := gb130) (o := .cells #[.slice none 0 0, .slice none 0 0, .int .i64 0, .int .i64 0, .int .i64 0] 25 (0, 0)) (by (with_reducible repeat (first | refine blk_drewN ?_ _ | refine blk_drew ?_ | refine blk_alloc ?_ _)); exact BK130.out) hb)
          have n6_ := Aside0.mk (below_step (by repeat (first | (with_reducible first | exact HB.out | apply below_alloc | apply pw_below_drewN | apply below_drew1 | refine below_set ?_ GE101.out | refine below_set ?_ GE114.out | refine below_set ?_ GE130.out) | exact HB.out)) hb)
          clear HO106
          clear HO109
          clear BK101
          clear BK114
          clear BK130
          clear HB
          have HO106 := n0_
          have HO109 := n1_
          have HO119 := n2_
          have BK101 := n3_
          have BK114 := n4_
          have BK130 := n5_
          have HB := n6_
          clear n0_ n1_ n2_ n3_ n4_ n5_ n6_
          (try clear hb)
          (try clear hb2)
          (try clear hk)
          (try clear hi)
          (try clear ho0)
          obtain ⟨Ao33, co33, eo33⟩ := Kd.R_slice HO119.out
          (first | subst eo33 | (injection eo33 with f1_ f2_ f3_; have f4_ := f1_.symm; have f5_ := f3_.symm; clear f1_ f2_ f3_; subst f4_; subst f5_))
          refine hK.out _ _ ⟨(blk_cell BK114.out 0).trans rfl, (blk_cell BK114.out 1).trans rfl, (blk_cell BK114.out 2).trans rfl, (blk_cell BK114.out 3).trans rfl, (blk_cell BK114.out 4).trans rfl, (blk_cell BK101.out 0).trans rfl, (blk_cell BK101.out 1).trans rfl, (blk_cell BK101.out 2).trans rfl, (blk_cell BK101.out 3).trans rfl, (blk_cell BK101.out 4).trans rfl⟩ (fun hHeld => ?_)
          clear hK K
          refine norm_ (a' := ?_) ?_ ?_
          rotate_left
          ·show Act.put _ (some 34) _ = _
           simp only [Act.put, List.setIfInBounds_toArray, List.set_cons_zero, List.set_cons_succ, i64_w, i32_w]
           rfl
          refine one_ (i := 4) (N := some 35) #[true, true, true, true, true, false, false, false, true, false, false] rfl rfl (one_of HT_.out (by kernel_rfl)) (by decide) (fun K hK => ?_)
          refine goes_ Try.func18 (by kernel_rfl) rfl #[.agg #[.slice Ao25 t104.length co25, .slice Ao28 t107.length co28, .int .i64 t110, .int .i64 t111, .int .i64 t112], .slice Ao33 t117.length co33] (by rfl) rfl rfl (by (try simp only [List.map_toArray, List.map_cons, List.map_nil]); first | done | rfl | (simp only [List.length_drop, List.length_take]; rfl)) ?_
          with_reducible refine (groups_Apply.calls k _ _ t104 _ _ t107 t110 t111 t112 _ _ t117 t120 t123 t126 t127 t128 t129 _ ?side1 ?side2 ?side3 ?side4 ?side5 ?side6 A8.out).mono ?_
          (case side1 => repeat (first | exact (Kd.S_reads' HO106.out).2.2 | (with_reducible refine Kd.C_alloc ?_ _) | (with_reducible refine Kd.C_drewN ?_ _) | (with_reducible refine Kd.C_drew ?_)))
          (case side2 => exact (Kd.S_reads' HO106.out).2.1)
          (case side3 => repeat (first | exact (Kd.R_reads' HO109.out).2.2 | (with_reducible refine Kd.C_alloc ?_ _) | (with_reducible refine Kd.C_drewN ?_ _) | (with_reducible refine Kd.C_drew ?_)))
          (case side4 => exact (Kd.R_reads' HO109.out).2.1)
          (case side5 => repeat (first | exact (Kd.R_reads' HO119.out).2.2 | (with_reducible refine Kd.C_alloc ?_ _) | (with_reducible refine Kd.C_drewN ?_ _) | (with_reducible refine Kd.C_drew ?_)))
          (case side6 => exact (Kd.R_reads' HO119.out).2.1)
          rintro e w34 ⟨v121, v124, rfl, ho0, ho1, hb⟩
          refine ⟨_, rfl, ?_⟩
          have n0_ := Aside0.mk (Kd.S_elder' (by (with_reducible repeat (first | apply Kd.S_alloc | apply Kd.S_drewN | apply Kd.S_drew)); exact HO106.out) (Kd.S_base ho0) hb)
          have n1_ := Aside0.mk (Kd.R_elder' (by (with_reducible repeat (first | apply Kd.R_alloc | apply Kd.R_drewN | apply Kd.R_drew)); exact HO109.out) (Kd.R_base ho1) hb)
          have n2_ := Aside0.mk (Kd.R_below (by (with_reducible repeat (first | apply Kd.R_alloc | apply Kd.R_drewN | apply Kd.R_drew)); exact HO119.out) hb)
          have n3_ := Aside0.mk (Kd.S_lower (Kd.S_new' ho0 (Kd.S_lt (by (with_reducible repeat (first | apply Kd.S_alloc | apply Kd.S_drewN | apply Kd.S_drew)); exact HO106.out))) (below_size (by repeat (first | (with_reducible first | exact HB.out | apply below_alloc | apply pw_below_drewN | apply below_drew1 | refine below_set ?_ GE101.out | refine below_set ?_ GE114.out | refine below_set ?_ GE130.out) | exact HB.out))))
          have n4_ := Aside0.mk (Kd.R_lower (Kd.R_new' ho1 (Kd.R_lt (by (with_reducible repeat (first | apply Kd.R_alloc | apply Kd.R_drewN | apply Kd.R_drew)); exact HO109.out))) (below_size (by repeat (first | (with_reducible first | exact HB.out | apply below_alloc | apply pw_below_drewN | apply below_drew1 | refine below_set ?_ GE101.out | refine below_set ?_ GE114.out | refine below_set ?_ GE130.out) | exact HB.out))))
          have n5_ := Aside0.mk (blk_below (g := gb101) (o := .cells #[.slice A0_0 l0_0.length c0_0, .slice A0_1 l0_1.length c0_1, .int .i64 a0_2, .int .i64 a0_3, .int .i64 a0_4] 25 (0, 0)) (by (with_reducible repeat (first | refine blk_drewN ?_ _ | refine blk_drew ?_ | refine blk_alloc ?_ _)); exact BK101.out) hb)
          have n6_ := Aside0.mk (blk_below (g := gb114) (o := .cells #[.slice Ao25 t104.length co25, .slice Ao28 t107.length co28, .int .i64 t110, .int .i64 t111, .int .i64 t112] 25 (0, 0)) (by (with_reducible repeat (first | refine blk_drewN ?_ _ | refine blk_drew ?_ | refine blk_alloc ?_ _)); exact BK114.out) hb)
          have n7_ := Aside0.mk (blk_below (g := gb130) (o := .cells #[.slice none 0 0, .slice none 0 0, .int .i64 0, .int .i64 0, .int .i64 0] 25 (0, 0)) (by (with_reducible repeat (first | refine blk_drewN ?_ _ | refine blk_drew ?_ | refine blk_alloc ?_ _)); exact BK130.out) hb)
          have n8_ := Aside0.mk (below_step (by repeat (first | (with_reducible first | exact HB.out | apply below_alloc | apply pw_below_drewN | apply below_drew1 | refine below_set ?_ GE101.out | refine below_set ?_ GE114.out | refine below_set ?_ GE130.out) | exact HB.out)) hb)
          clear HO106
          clear HO109
          clear HO119
          clear BK101
          clear BK114
          clear BK130
          clear HB
          have HO106 := n0_
          have HO109 := n1_
          have HO119 := n2_
          have HO122 := n3_
          have HO125 := n4_
          have BK101 := n5_
          have BK114 := n6_
          have BK130 := n7_
          have HB := n8_
          clear n0_ n1_ n2_ n3_ n4_ n5_ n6_ n7_ n8_
          (try clear hb)
          (try clear hb2)
          (try clear hk)
          (try clear hi)
          (try clear ho0)
          (try clear ho1)
          refine hK.out _ _ ⟨(blk_cell BK114.out 0).trans rfl, (blk_cell BK114.out 1).trans rfl, (blk_cell BK114.out 2).trans rfl, (blk_cell BK114.out 3).trans rfl, (blk_cell BK114.out 4).trans rfl, (blk_cell BK101.out 0).trans rfl, (blk_cell BK101.out 1).trans rfl, (blk_cell BK101.out 2).trans rfl, (blk_cell BK101.out 3).trans rfl, (blk_cell BK101.out 4).trans rfl⟩ (fun hHeld => ?_)
          clear hK K
          refine norm_ (a' := ?_) ?_ ?_
          rotate_left
          ·show Act.put _ (some 35) _ = _
           simp only [Act.put, List.setIfInBounds_toArray, List.set_cons_zero, List.set_cons_succ, i64_w, i32_w]
           rfl
          refine pure_ (i := 5) (N := some 30) (v := ?_) (a' := ?_) #[true, true, true, true, true, true, false, false, true, false, false] rfl rfl (any_of HT_.out (by kernel_rfl)) (fun _ _ _ h => h) (Or.inl ⟨by rfl, ?_⟩) ?_ ?_
          rotate_left
          ·intro w'
           go_simp
           with_reducible rfl
          rotate_left
          ·simp only [Act.put, List.setIfInBounds_toArray, List.set_cons_zero, List.set_cons_succ, i64_w, i32_w]
           rfl
          refine pure_ (i := 6) (N := some 36) (v := ?_) (a' := ?_) #[true, true, true, true, true, true, true, false, true, false, false] rfl rfl (any_of HT_.out (by kernel_rfl)) (fun _ _ _ h => h) (Or.inl ⟨by rfl, ?_⟩) ?_ ?_
          rotate_left
          ·intro w'
           go_simp
           with_reducible rfl
          rotate_left
          ·simp only [Act.put, List.setIfInBounds_toArray, List.set_cons_zero, List.set_cons_succ, i64_w, i32_w]
           rfl
          refine pure_ (i := 7) (N := some 37) (v := ?_) (a' := ?_) #[true, true, true, true, true, true, true, true, true, false, false] rfl rfl (any_of HT_.out (by kernel_rfl)) (fun _ _ _ h => h) (Or.inl ⟨by rfl, ?_⟩) ?_ ?_
          rotate_left
          ·intro w'
           go_simp
           with_reducible rfl
          rotate_left
          ·simp only [Act.put, List.setIfInBounds_toArray, List.set_cons_zero, List.set_cons_succ, i64_w, i32_w]
           rfl
          exact norm_ (by simp only [putAll, Act.put, List.setIfInBounds_toArray, List.set_cons_zero, List.set_cons_succ]) (hCont (.slice Ao33 t117.length co33, v121, v124, gb130) _ ⟨hHeld, (by (with_reducible repeat (first | apply Kd.S_alloc | apply Kd.S_drewN | apply Kd.S_drew)); exact Kd.S_mono HO106.out (fun _ hk => hk.2)), (by (with_reducible repeat (first | apply Kd.R_alloc | apply Kd.R_drewN | apply Kd.R_drew)); exact Kd.R_mono HO109.out (fun _ hk => hk.2)), (by (with_reducible repeat (first | apply Kd.R_alloc | apply Kd.R_drewN | apply Kd.R_drew)); exact HO119.out), (by (with_reducible repeat (first | apply Kd.S_alloc | apply Kd.S_drewN | apply Kd.S_drew)); exact Kd.S_mono HO122.out (fun _ hk => hk.2)), (by (with_reducible repeat (first | apply Kd.R_alloc | apply Kd.R_drewN | apply Kd.R_drew)); exact Kd.R_mono HO125.out (fun _ hk => hk.2)), (by (with_reducible repeat (first | refine blk_drewN ?_ _ | refine blk_drew ?_ | refine blk_alloc ?_ _)); exact BK101.out), (by (with_reducible repeat (first | refine blk_drewN ?_ _ | refine blk_drew ?_ | refine blk_alloc ?_ _)); exact BK114.out), (by (with_reducible repeat (first | refine blk_drewN ?_ _ | refine blk_drew ?_ | refine blk_alloc ?_ _)); exact BK130.out), GW130.out, GE130.out, NB101_130.out, NB130_101.out, NB114_130.out, NB130_114.out, (by repeat (first | (with_reducible first | exact HB.out | apply below_alloc | apply pw_below_drewN | apply below_drew1 | refine below_set ?_ GE101.out | refine below_set ?_ GE114.out | refine below_set ?_ GE130.out) | exact HB.out))⟩)
        rintro ⟨v118, v121, v124, gb130⟩ w35 ⟨hS_, h0_, h1_, h2_, h3_, h4_, h5_, h6_, h7_, h8_, h9_, h10_, h11_, h12_, h13_, h14_⟩
        have n0_ : Aside0 (Kd.S k49 49 w35 w.heap.size (fun k_ => some k_ ≠ (v121 : Value).ownBlock) (.slice Ao25 t104.length co25) t104) := ⟨h0_⟩
        have n1_ : Aside0 (Kd.R k36 36 w35 w.heap.size (fun k_ => some k_ ≠ (v124 : Value).ownBlock) (.slice Ao28 t107.length co28) t107) := ⟨h1_⟩
        have n2_ : Aside0 (Kd.R Kd.string 9 w35 w.heap.size (fun _ => True) v118 t117) := ⟨h2_⟩
        have n3_ : Aside0 (Kd.S k49 49 w35 w.heap.size (fun k_ => some k_ ≠ (.slice Ao25 t104.length co25 : Value).ownBlock) v121 t120) := ⟨h3_⟩
        have n4_ : Aside0 (Kd.R k36 36 w35 w.heap.size (fun k_ => some k_ ≠ (.slice Ao28 t107.length co28 : Value).ownBlock) v124 t123) := ⟨h4_⟩
        have n5_ : Aside0 (w35.heap[gb101]? = some (.cells #[.slice A0_0 l0_0.length c0_0, .slice A0_1 l0_1.length c0_1, .int .i64 a0_2, .int .i64 a0_3, .int .i64 a0_4] 25 (0, 0))) := ⟨h5_⟩
        have n6_ : Aside0 (w35.heap[gb114]? = some (.cells #[.slice Ao25 t104.length co25, .slice Ao28 t107.length co28, .int .i64 t110, .int .i64 t111, .int .i64 t112] 25 (0, 0))) := ⟨h6_⟩
        have n7_ : Aside0 (w35.heap[gb130]? = some (.cells #[.slice none 0 0, .slice none 0 0, .int .i64 0, .int .i64 0, .int .i64 0] 25 (0, 0))) := ⟨h7_⟩
        have n8_ : Aside0 (w.heap.size ≤ gb130) := ⟨h8_⟩
        have n9_ : Aside0 (w.heap.size ≤ gb130) := ⟨h9_⟩
        have n10_ : Aside0 (gb101 ≠ gb130) := ⟨h10_⟩
        have n11_ : Aside0 (gb130 ≠ gb101) := ⟨h11_⟩
        have n12_ : Aside0 (gb114 ≠ gb130) := ⟨h12_⟩
        have n13_ : Aside0 (gb130 ≠ gb114) := ⟨h13_⟩
        have n14_ : Aside0 (Below w.heap.size w w35) := ⟨h14_⟩
        clear HO106
        clear HO109
        clear BK101
        clear BK114
        clear HB
        clear h0_ h1_ h2_ h3_ h4_ h5_ h6_ h7_ h8_ h9_ h10_ h11_ h12_ h13_ h14_
        have HO106 := n0_
        have HO109 := n1_
        have HO119 := n2_
        have HO122 := n3_
        have HO125 := n4_
        have BK101 := n5_
        have BK114 := n6_
        have BK130 := n7_
        have GW130 := n8_
        have GE130 := n9_
        have NB101_130 := n10_
        have NB130_101 := n11_
        have NB114_130 := n12_
        have NB130_114 := n13_
        have HB := n14_
        clear n0_ n1_ n2_ n3_ n4_ n5_ n6_ n7_ n8_ n9_ n10_ n11_ n12_ n13_ n14_
        have hHeld : w35.cell? ⟨gb114, 0, none⟩ = some (.slice Ao25 t104.length co25) ∧ w35.cell? ⟨gb114, 1, none⟩ = some (.slice Ao28 t107.length co28) ∧ w35.cell? ⟨gb114, 2, none⟩ = some (.int .i64 t110) ∧ w35.cell? ⟨gb114, 3, none⟩ = some (.int .i64 t111) ∧ w35.cell? ⟨gb114, 4, none⟩ = some (.int .i64 t112) ∧ w35.cell? ⟨gb101, 0, none⟩ = some (.slice A0_0 l0_0.length c0_0) ∧ w35.cell? ⟨gb101, 1, none⟩ = some (.slice A0_1 l0_1.length c0_1) ∧ w35.cell? ⟨gb101, 2, none⟩ = some (.int .i64 a0_2) ∧ w35.cell? ⟨gb101, 3, none⟩ = some (.int .i64 a0_3) ∧ w35.cell? ⟨gb101, 4, none⟩ = some (.int .i64 a0_4) := hS_
        obtain ⟨Ao36, co36, eo36⟩ := Kd.S_slice HO122.out
        (first | subst eo36 | (injection eo36 with f1_ f2_ f3_; have f4_ := f1_.symm; have f5_ := f3_.symm; clear f1_ f2_ f3_; subst f4_; subst f5_))
        obtain ⟨Ao38, co38, eo38⟩ := Kd.R_slice HO125.out
        (first | subst eo38 | (injection eo38 with f1_ f2_ f3_; have f4_ := f1_.symm; have f5_ := f3_.symm; clear f1_ f2_ f3_; subst f4_; subst f5_))
        refine norm_ (a' := ?_) ?_ ?_
        rotate_left
        ·simp only [putAll, Act.put, List.setIfInBounds_toArray, List.set_cons_zero, List.set_cons_succ]
         rfl
        refine one_ (i := 9) (N := none) #[true, true, true, true, true, true, true, true, true, true, false] rfl rfl (one_of HT_.out (by kernel_rfl)) (by decide) (fun K hK => ?_)
        have hs37 : w35.cell? ⟨gb130, 0, none⟩ = some (.slice none 0 0) := (blk_cell BK130.out 0).trans rfl
        have hfs37 := blk_frozen BK130.out 0
        have hns37_0 := NB101_130.out
        have hns37_1 := NB114_130.out
        have hms37_0 := NB130_101.out
        have hms37_1 := NB130_114.out
        have hs39 : w35.cell? ⟨gb130, 1, none⟩ = some (.slice none 0 0) := (blk_cell BK130.out 1).trans rfl
        have hfs39 := blk_frozen BK130.out 1
        have hns39_0 := NB101_130.out
        have hns39_1 := NB114_130.out
        have hms39_0 := NB130_101.out
        have hms39_1 := NB130_114.out
        have hs40 : w35.cell? ⟨gb130, 2, none⟩ = some (.int .i64 0) := (blk_cell BK130.out 2).trans rfl
        have hfs40 := blk_frozen BK130.out 2
        have hns40_0 := NB101_130.out
        have hns40_1 := NB114_130.out
        have hms40_0 := NB130_101.out
        have hms40_1 := NB130_114.out
        have hs41 : w35.cell? ⟨gb130, 3, none⟩ = some (.int .i64 0) := (blk_cell BK130.out 3).trans rfl
        have hfs41 := blk_frozen BK130.out 3
        have hns41_0 := NB101_130.out
        have hns41_1 := NB114_130.out
        have hms41_0 := NB130_101.out
        have hms41_1 := NB130_114.out
        have hs42 : w35.cell? ⟨gb130, 4, none⟩ = some (.int .i64 0) := (blk_cell BK130.out 4).trans rfl
        have hfs42 := blk_frozen BK130.out 4
        have hns42_0 := NB101_130.out
        have hns42_1 := NB114_130.out
        have hms42_0 := NB130_101.out
        have hms42_1 := NB130_114.out
        refine skip_ (w1 := ?_) (by rfl) rfl ?_ ?_
        rotate_left
        ·go_simp
         rfl
        refine hK.out _ _ ⟨((cell_far (p := ⟨gb130, _, none⟩) NB114_130.out _).trans (((cell_far (p := ⟨gb130, _, none⟩) NB114_130.out _).trans (((cell_far (p := ⟨gb130, _, none⟩) NB114_130.out _).trans (((cell_far (p := ⟨gb130, _, none⟩) NB114_130.out _).trans (((cell_far (p := ⟨gb130, _, none⟩) NB114_130.out _).trans (hHeld.1)))))))))), ((cell_far (p := ⟨gb130, _, none⟩) NB114_130.out _).trans (((cell_far (p := ⟨gb130, _, none⟩) NB114_130.out _).trans (((cell_far (p := ⟨gb130, _, none⟩) NB114_130.out _).trans (((cell_far (p := ⟨gb130, _, none⟩) NB114_130.out _).trans (((cell_far (p := ⟨gb130, _, none⟩) NB114_130.out _).trans (hHeld.2.1)))))))))), ((cell_far (p := ⟨gb130, _, none⟩) NB114_130.out _).trans (((cell_far (p := ⟨gb130, _, none⟩) NB114_130.out _).trans (((cell_far (p := ⟨gb130, _, none⟩) NB114_130.out _).trans (((cell_far (p := ⟨gb130, _, none⟩) NB114_130.out _).trans (((cell_far (p := ⟨gb130, _, none⟩) NB114_130.out _).trans (hHeld.2.2.1)))))))))), ((cell_far (p := ⟨gb130, _, none⟩) NB114_130.out _).trans (((cell_far (p := ⟨gb130, _, none⟩) NB114_130.out _).trans (((cell_far (p := ⟨gb130, _, none⟩) NB114_130.out _).trans (((cell_far (p := ⟨gb130, _, none⟩) NB114_130.out _).trans (((cell_far (p := ⟨gb130, _, none⟩) NB114_130.out _).trans (hHeld.2.2.2.1)))))))))), ((cell_far (p := ⟨gb130, _, none⟩) NB114_130.out _).trans (((cell_far (p := ⟨gb130, _, none⟩) NB114_130.out _).trans (((cell_far (p := ⟨gb130, _, none⟩) NB114_130.out _).trans (((cell_far (p := ⟨gb130, _, none⟩) NB114_130.out _).trans (((cell_far (p := ⟨gb130, _, none⟩) NB114_130.out _).trans (hHeld.2.2.2.2.1)))))))))), ((cell_far (p := ⟨gb130, _, none⟩) NB101_130.out _).trans (((cell_far (p := ⟨gb130, _, none⟩) NB101_130.out _).trans (((cell_far (p := ⟨gb130, _, none⟩) NB101_130.out _).trans (((cell_far (p := ⟨gb130, _, none⟩) NB101_130.out _).trans (((cell_far (p := ⟨gb130, _, none⟩) NB101_130.out _).trans (hHeld.2.2.2.2.2.1)))))))))), ((cell_far (p := ⟨gb130, _, none⟩) NB101_130.out _).trans (((cell_far (p := ⟨gb130, _, none⟩) NB101_130.out _).trans (((cell_far (p := ⟨gb130, _, none⟩) NB101_130.out _).trans (((cell_far (p := ⟨gb130, _, none⟩) NB101_130.out _).trans (((cell_far (p := ⟨gb130, _, none⟩) NB101_130.out _).trans (hHeld.2.2.2.2.2.2.1)))))))))), ((cell_far (p := ⟨gb130, _, none⟩) NB101_130.out _).trans (((cell_far (p := ⟨gb130, _, none⟩) NB101_130.out _).trans (((cell_far (p := ⟨gb130, _, none⟩) NB101_130.out _).trans (((cell_far (p := ⟨gb130, _, none⟩) NB101_130.out _).trans (((cell_far (p := ⟨gb130, _, none⟩) NB101_130.out _).trans (hHeld.2.2.2.2.2.2.2.1)))))))))), ((cell_far (p := ⟨gb130, _, none⟩) NB101_130.out _).trans (((cell_far (p := ⟨gb130, _, none⟩) NB101_130.out _).trans (((cell_far (p := ⟨gb130, _, none⟩) NB101_130.out _).trans (((cell_far (p := ⟨gb130, _, none⟩) NB101_130.out _).trans (((cell_far (p := ⟨gb130, _, none⟩) NB101_130.out _).trans (hHeld.2.2.2.2.2.2.2.2.1)))))))))), ((cell_far (p := ⟨gb130, _, none⟩) NB101_130.out _).trans (((cell_far (p := ⟨gb130, _, none⟩) NB101_130.out _).trans (((cell_far (p := ⟨gb130, _, none⟩) NB101_130.out _).trans (((cell_far (p := ⟨gb130, _, none⟩) NB101_130.out _).trans (((cell_far (p := ⟨gb130, _, none⟩) NB101_130.out _).trans (hHeld.2.2.2.2.2.2.2.2.2))))))))))⟩ (fun hHeld => ?_)
        clear hK K
        refine pure_ (i := 10) (N := some 8) (v := ?_) (a' := ?_) #[true, true, true, true, true, true, true, true, true, true, true] rfl rfl (any_of HT_.out (by kernel_rfl)) (fun _ _ _ h => h) (Or.inl ⟨by rfl, ?_⟩) ?_ ?_
        rotate_left
        ·intro w'
         go_simp
         with_reducible rfl
        rotate_left
        ·simp only [Act.put, List.setIfInBounds_toArray, List.set_cons_zero, List.set_cons_succ, i64_w, i32_w]
         rfl
        refine done_ (done_of HT_.out (by kernel_rfl)) ?_
        have hnb43 := NB101_130.out
        have hnc43 := NB130_101.out
        have hcz44_0 : w35.cell? ⟨gb101, 0, none⟩ = some (.slice A0_0 l0_0.length c0_0) := (blk_cell BK101.out 0).trans rfl
        have hcz44_1 : w35.cell? ⟨gb101, 1, none⟩ = some (.slice A0_1 l0_1.length c0_1) := (blk_cell BK101.out 1).trans rfl
        have hcz44_2 : w35.cell? ⟨gb101, 2, none⟩ = some (.int .i64 a0_2) := (blk_cell BK101.out 2).trans rfl
        have hcz44_3 : w35.cell? ⟨gb101, 3, none⟩ = some (.int .i64 a0_3) := (blk_cell BK101.out 3).trans rfl
        have hcz44_4 : w35.cell? ⟨gb101, 4, none⟩ = some (.int .i64 a0_4) := (blk_cell BK101.out 4).trans rfl
        have hfz44_0 := blk_frozen BK101.out 0
        have hfz44_1 := blk_frozen BK101.out 1
        have hfz44_2 := blk_frozen BK101.out 2
        have hfz44_3 := blk_frozen BK101.out 3
        have hfz44_4 := blk_frozen BK101.out 4
        try go_wp2_with (first | ((with_reducible refine gate_callee (f := 18) rfl ?_); refine goesL_ (some 40) rfl rfl Try.func18 (by kernel_rfl) rfl #[.agg #[.slice A0_0 l0_0.length c0_0, .slice A0_1 l0_1.length c0_1, .int .i64 a0_2, .int .i64 a0_3, .int .i64 a0_4], .slice none 0 0] rfl (by (try simp only [List.map_toArray, List.map_cons, List.map_nil]); first | done | rfl | (simp only [List.length_drop, List.length_take]; rfl)) ?_; (refine (groups_Apply.calls k _ _ l0_0 _ _ l0_1 a0_2 a0_3 a0_4 _ _ ([] : List ByteArray) t131 t134 t137 t138 t139 t140 _ ?side1 ?side2 ?side3 ?side4 ?side5 ?side6 A9.out).mono ?_); (case side1 => exact Kd.C_below HR0_0.out (by repeat (first | (with_reducible first | exact HB.out | apply below_alloc | apply pw_below_drewN | apply below_drew1 | refine below_set ?_ GE101.out | refine below_set ?_ GE114.out | refine below_set ?_ GE130.out) | exact HB.out))); (case side2 => exact HC0_0.out); (case side3 => exact Kd.C_below HR0_1.out (by repeat (first | (with_reducible first | exact HB.out | apply below_alloc | apply pw_below_drewN | apply below_drew1 | refine below_set ?_ GE101.out | refine below_set ?_ GE114.out | refine below_set ?_ GE130.out) | exact HB.out))); (case side4 => exact HC0_1.out); (case side5 => exact Kd.C_nil _ _); (case side6 => exact Nat.le_refl _); rintro e w45 ⟨v132, v135, rfl, ho0, ho1, hb⟩; refine ⟨_, rfl, ?_⟩; have n0_ := Aside0.mk (Kd.S_elder' (by (with_reducible repeat (first | apply Kd.S_alloc | apply Kd.S_drewN | apply Kd.S_drew)); exact (Kd.S_mono (Kd.S_far (p := ⟨gb130, 4, none⟩) (Kd.S_far (p := ⟨gb130, 3, none⟩) (Kd.S_far (p := ⟨gb130, 2, none⟩) (Kd.S_far (p := ⟨gb130, 1, none⟩) (Kd.S_far (p := ⟨gb130, 0, none⟩) (Kd.S_types HO106.out BK130.out (by decide)) (fun _ hk => hk.2) (.slice Ao36 t120.length co36)) (fun _ hk => hk.2) (.slice Ao38 t123.length co38)) (fun _ hk => hk.2) (.int .i64 t126)) (fun _ hk => hk.2) (.int .i64 t127)) (fun _ hk => hk.2) (.int .i64 t128)) (fun _ h_ => h_.1))) (Kd.S_base ho0) hb); have n1_ := Aside0.mk (Kd.R_elder' (by (with_reducible repeat (first | apply Kd.R_alloc | apply Kd.R_drewN | apply Kd.R_drew)); exact (Kd.R_mono (Kd.R_far (p := ⟨gb130, 4, none⟩) (Kd.R_far (p := ⟨gb130, 3, none⟩) (Kd.R_far (p := ⟨gb130, 2, none⟩) (Kd.R_far (p := ⟨gb130, 1, none⟩) (Kd.R_far (p := ⟨gb130, 0, none⟩) (Kd.R_types HO109.out BK130.out (by decide)) (fun _ hk => hk.2) (.slice Ao36 t120.length co36)) (fun _ hk => hk.2) (.slice Ao38 t123.length co38)) (fun _ hk => hk.2) (.int .i64 t126)) (fun _ hk => hk.2) (.int .i64 t127)) (fun _ hk => hk.2) (.int .i64 t128)) (fun _ h_ => h_.1))) (Kd.R_base ho1) hb); have n2_ := Aside0.mk (Kd.R_below (by (with_reducible repeat (first | apply Kd.R_alloc | apply Kd.R_drewN | apply Kd.R_drew)); exact (Kd.R_mono (Kd.R_far (p := ⟨gb130, 4, none⟩) (Kd.R_far (p := ⟨gb130, 3, none⟩) (Kd.R_far (p := ⟨gb130, 2, none⟩) (Kd.R_far (p := ⟨gb130, 1, none⟩) (Kd.R_far (p := ⟨gb130, 0, none⟩) (Kd.R_types HO119.out BK130.out (by decide)) (fun _ hk => hk.2) (.slice Ao36 t120.length co36)) (fun _ hk => hk.2) (.slice Ao38 t123.length co38)) (fun _ hk => hk.2) (.int .i64 t126)) (fun _ hk => hk.2) (.int .i64 t127)) (fun _ hk => hk.2) (.int .i64 t128)) (fun _ h_ => h_.1))) hb); have n3_ := Aside0.mk (Kd.S_elder' (by (with_reducible repeat (first | apply Kd.S_alloc | apply Kd.S_drewN | apply Kd.S_drew)); exact (Kd.S_mono (Kd.S_far (p := ⟨gb130, 4, none⟩) (Kd.S_far (p := ⟨gb130, 3, none⟩) (Kd.S_far (p := ⟨gb130, 2, none⟩) (Kd.S_far (p := ⟨gb130, 1, none⟩) (Kd.S_far (p := ⟨gb130, 0, none⟩) (Kd.S_types HO122.out BK130.out (by decide)) (fun _ hk => hk.2) (.slice Ao36 t120.length co36)) (fun _ hk => hk.2) (.slice Ao38 t123.length co38)) (fun _ hk => hk.2) (.int .i64 t126)) (fun _ hk => hk.2) (.int .i64 t127)) (fun _ hk => hk.2) (.int .i64 t128)) (fun _ h_ => h_.1))) (Kd.S_base ho0) hb); have n4_ := Aside0.mk (Kd.R_elder' (by (with_reducible repeat (first | apply Kd.R_alloc | apply Kd.R_drewN | apply Kd.R_drew)); exact (Kd.R_mono (Kd.R_far (p := ⟨gb130, 4, none⟩) (Kd.R_far (p := ⟨gb130, 3, none⟩) (Kd.R_far (p := ⟨gb130, 2, none⟩) (Kd.R_far (p := ⟨gb130, 1, none⟩) (Kd.R_far (p := ⟨gb130, 0, none⟩) (Kd.R_types HO125.out BK130.out (by decide)) (fun _ hk => hk.2) (.slice Ao36 t120.length co36)) (fun _ hk => hk.2) (.slice Ao38 t123.length co38)) (fun _ hk => hk.2) (.int .i64 t126)) (fun _ hk => hk.2) (.int .i64 t127)) (fun _ hk => hk.2) (.int .i64 t128)) (fun _ h_ => h_.1))) (Kd.R_base ho1) hb); have n5_ := Aside0.mk (Kd.S_lower (Kd.S_new' (Kd.S_new' ho0 (Kd.S_lt (by (with_reducible repeat (first | apply Kd.S_alloc | apply Kd.S_drewN | apply Kd.S_drew)); exact (Kd.S_mono (Kd.S_far (p := ⟨gb130, 4, none⟩) (Kd.S_far (p := ⟨gb130, 3, none⟩) (Kd.S_far (p := ⟨gb130, 2, none⟩) (Kd.S_far (p := ⟨gb130, 1, none⟩) (Kd.S_far (p := ⟨gb130, 0, none⟩) (Kd.S_types HO106.out BK130.out (by decide)) (fun _ hk => hk.2) (.slice Ao36 t120.length co36)) (fun _ hk => hk.2) (.slice Ao38 t123.length co38)) (fun _ hk => hk.2) (.int .i64 t126)) (fun _ hk => hk.2) (.int .i64 t127)) (fun _ hk => hk.2) (.int .i64 t128)) (fun _ h_ => h_.1))))) (Kd.S_lt (by (with_reducible repeat (first | apply Kd.S_alloc | apply Kd.S_drewN | apply Kd.S_drew)); exact (Kd.S_mono (Kd.S_far (p := ⟨gb130, 4, none⟩) (Kd.S_far (p := ⟨gb130, 3, none⟩) (Kd.S_far (p := ⟨gb130, 2, none⟩) (Kd.S_far (p := ⟨gb130, 1, none⟩) (Kd.S_far (p := ⟨gb130, 0, none⟩) (Kd.S_types HO122.out BK130.out (by decide)) (fun _ hk => hk.2) (.slice Ao36 t120.length co36)) (fun _ hk => hk.2) (.slice Ao38 t123.length co38)) (fun _ hk => hk.2) (.int .i64 t126)) (fun _ hk => hk.2) (.int .i64 t127)) (fun _ hk => hk.2) (.int .i64 t128)) (fun _ h_ => h_.1))))) (below_size (by repeat (first | (with_reducible first | exact HB.out | apply below_alloc | apply pw_below_drewN | apply below_drew1 | refine below_set ?_ GE101.out | refine below_set ?_ GE114.out | refine below_set ?_ GE130.out) | exact HB.out)))); have n6_ := Aside0.mk (Kd.R_lower (Kd.R_new' (Kd.R_new' ho1 (Kd.R_lt (by (with_reducible repeat (first | apply Kd.R_alloc | apply Kd.R_drewN | apply Kd.R_drew)); exact (Kd.R_mono (Kd.R_far (p := ⟨gb130, 4, none⟩) (Kd.R_far (p := ⟨gb130, 3, none⟩) (Kd.R_far (p := ⟨gb130, 2, none⟩) (Kd.R_far (p := ⟨gb130, 1, none⟩) (Kd.R_far (p := ⟨gb130, 0, none⟩) (Kd.R_types HO109.out BK130.out (by decide)) (fun _ hk => hk.2) (.slice Ao36 t120.length co36)) (fun _ hk => hk.2) (.slice Ao38 t123.length co38)) (fun _ hk => hk.2) (.int .i64 t126)) (fun _ hk => hk.2) (.int .i64 t127)) (fun _ hk => hk.2) (.int .i64 t128)) (fun _ h_ => h_.1))))) (Kd.R_lt (by (with_reducible repeat (first | apply Kd.R_alloc | apply Kd.R_drewN | apply Kd.R_drew)); exact (Kd.R_mono (Kd.R_far (p := ⟨gb130, 4, none⟩) (Kd.R_far (p := ⟨gb130, 3, none⟩) (Kd.R_far (p := ⟨gb130, 2, none⟩) (Kd.R_far (p := ⟨gb130, 1, none⟩) (Kd.R_far (p := ⟨gb130, 0, none⟩) (Kd.R_types HO125.out BK130.out (by decide)) (fun _ hk => hk.2) (.slice Ao36 t120.length co36)) (fun _ hk => hk.2) (.slice Ao38 t123.length co38)) (fun _ hk => hk.2) (.int .i64 t126)) (fun _ hk => hk.2) (.int .i64 t127)) (fun _ hk => hk.2) (.int .i64 t128)) (fun _ h_ => h_.1))))) (below_size (by repeat (first | (with_reducible first | exact HB.out | apply below_alloc | apply pw_below_drewN | apply below_drew1 | refine below_set ?_ GE101.out | refine below_set ?_ GE114.out | refine below_set ?_ GE130.out) | exact HB.out)))); have n7_ := Aside0.mk (blk_below (g := gb101) (o := .cells #[.slice A0_0 l0_0.length c0_0, .slice A0_1 l0_1.length c0_1, .int .i64 a0_2, .int .i64 a0_3, .int .i64 a0_4] 25 (0, 0)) (by (with_reducible repeat (first | refine blk_drewN ?_ _ | refine blk_drew ?_ | refine blk_alloc ?_ _)); refine blk_far ?_ NB101_130.out _; (with_reducible repeat (first | refine blk_drewN ?_ _ | refine blk_drew ?_ | refine blk_alloc ?_ _)); refine blk_far ?_ NB101_130.out _; (with_reducible repeat (first | refine blk_drewN ?_ _ | refine blk_drew ?_ | refine blk_alloc ?_ _)); refine blk_far ?_ NB101_130.out _; (with_reducible repeat (first | refine blk_drewN ?_ _ | refine blk_drew ?_ | refine blk_alloc ?_ _)); refine blk_far ?_ NB101_130.out _; (with_reducible repeat (first | refine blk_drewN ?_ _ | refine blk_drew ?_ | refine blk_alloc ?_ _)); refine blk_far ?_ NB101_130.out _; (with_reducible repeat (first | refine blk_drewN ?_ _ | refine blk_drew ?_ | refine blk_alloc ?_ _)); exact BK101.out) hb); have n8_ := Aside0.mk (blk_below (g := gb114) (o := .cells #[.slice Ao25 t104.length co25, .slice Ao28 t107.length co28, .int .i64 t110, .int .i64 t111, .int .i64 t112] 25 (0, 0)) (by (with_reducible repeat (first | refine blk_drewN ?_ _ | refine blk_drew ?_ | refine blk_alloc ?_ _)); refine blk_far ?_ NB114_130.out _; (with_reducible repeat (first | refine blk_drewN ?_ _ | refine blk_drew ?_ | refine blk_alloc ?_ _)); refine blk_far ?_ NB114_130.out _; (with_reducible repeat (first | refine blk_drewN ?_ _ | refine blk_drew ?_ | refine blk_alloc ?_ _)); refine blk_far ?_ NB114_130.out _; (with_reducible repeat (first | refine blk_drewN ?_ _ | refine blk_drew ?_ | refine blk_alloc ?_ _)); refine blk_far ?_ NB114_130.out _; (with_reducible repeat (first | refine blk_drewN ?_ _ | refine blk_drew ?_ | refine blk_alloc ?_ _)); refine blk_far ?_ NB114_130.out _; (with_reducible repeat (first | refine blk_drewN ?_ _ | refine blk_drew ?_ | refine blk_alloc ?_ _)); exact BK114.out) hb); have n9_ := Aside0.mk (blk_below (g := gb130) (o := .cells #[.slice Ao36 t120.length co36, .slice Ao38 t123.length co38, .int .i64 t126, .int .i64 t127, .int .i64 t128] 25 (0, 0)) (by (with_reducible repeat (first | refine blk_drewN ?_ _ | refine blk_drew ?_ | refine blk_alloc ?_ _)); refine blk_put (cs := #[.slice Ao36 t120.length co36, .slice Ao38 t123.length co38, .int .i64 t126, .int .i64 t127, .int .i64 0]) ?_ 4 _ rfl; (with_reducible repeat (first | refine blk_drewN ?_ _ | refine blk_drew ?_ | refine blk_alloc ?_ _)); refine blk_put (cs := #[.slice Ao36 t120.length co36, .slice Ao38 t123.length co38, .int .i64 t126, .int .i64 0, .int .i64 0]) ?_ 3 _ rfl; (with_reducible repeat (first | refine blk_drewN ?_ _ | refine blk_drew ?_ | refine blk_alloc ?_ _)); refine blk_put (cs := #[.slice Ao36 t120.length co36, .slice Ao38 t123.length co38, .int .i64 0, .int .i64 0, .int .i64 0]) ?_ 2 _ rfl; (with_reducible repeat (first | refine blk_drewN ?_ _ | refine blk_drew ?_ | refine blk_alloc ?_ _)); refine blk_put (cs := #[.slice Ao36 t120.length co36, .slice none 0 0, .int .i64 0, .int .i64 0, .int .i64 0]) ?_ 1 _ rfl; (with_reducible repeat (first | refine blk_drewN ?_ _ | refine blk_drew ?_ | refine blk_alloc ?_ _)); refine blk_put (cs := #[.slice none 0 0, .slice none 0 0, .int .i64 0, .int .i64 0, .int .i64 0]) ?_ 0 _ rfl; (with_reducible repeat (first | refine blk_drewN ?_ _ | refine blk_drew ?_ | refine blk_alloc ?_ _)); exact BK130.out) hb); have n10_ := Aside0.mk (below_step (by repeat (first | (with_reducible first | exact HB.out | apply below_alloc | apply pw_below_drewN | apply below_drew1 | refine below_set ?_ GE101.out | refine below_set ?_ GE114.out | refine below_set ?_ GE130.out) | exact HB.out)) hb); clear HO106; clear HO109; clear HO119; clear HO122; clear HO125; clear BK101; clear BK114; clear BK130; clear HB; have HO106 := n0_; have HO109 := n1_; have HO119 := n2_; have HO122 := n3_; have HO125 := n4_; have HO133 := n5_; have HO136 := n6_; have BK101 := n7_; have BK114 := n8_; have BK130 := n9_; have HB := n10_; clear n0_ n1_ n2_ n3_ n4_ n5_ n6_ n7_ n8_ n9_ n10_; (try clear hb); (try clear hb2); (try clear hk); (try clear hi); (try clear ho0); (try clear ho1)) | ((with_reducible refine gate_dst (N := 9) rfl ?_); refine box_event ?hg (N := 9) ?hd (cs := #[.slice none 0 0, .slice none 0 0, .int .i64 0, .int .i64 0, .int .i64 0]) (t := 25) ?hr ?_; (case hd => rfl); (case hg => rfl); (case hr => first | (go_simp; done) | (go_simp; rfl)); intro gb141 hg w46 hbox hb; have n0_ := Aside0.mk (Kd.S_below (by (with_reducible repeat (first | apply Kd.S_alloc | apply Kd.S_drewN | apply Kd.S_drew)); exact HO106.out) hb); have n1_ := Aside0.mk (Kd.R_below (by (with_reducible repeat (first | apply Kd.R_alloc | apply Kd.R_drewN | apply Kd.R_drew)); exact HO109.out) hb); have n2_ := Aside0.mk (Kd.R_below (by (with_reducible repeat (first | apply Kd.R_alloc | apply Kd.R_drewN | apply Kd.R_drew)); exact HO119.out) hb); have n3_ := Aside0.mk (Kd.S_below (by (with_reducible repeat (first | apply Kd.S_alloc | apply Kd.S_drewN | apply Kd.S_drew)); exact HO122.out) hb); have n4_ := Aside0.mk (Kd.R_below (by (with_reducible repeat (first | apply Kd.R_alloc | apply Kd.R_drewN | apply Kd.R_drew)); exact HO125.out) hb); have n5_ := Aside0.mk (Kd.S_below (by (with_reducible repeat (first | apply Kd.S_alloc | apply Kd.S_drewN | apply Kd.S_drew)); exact HO133.out) hb); have n6_ := Aside0.mk (Kd.R_below (by (with_reducible repeat (first | apply Kd.R_alloc | apply Kd.R_drewN | apply Kd.R_drew)); exact HO136.out) hb); have n7_ := Aside0.mk (blk_below (g := gb101) (o := .cells #[.slice A0_0 l0_0.length c0_0, .slice A0_1 l0_1.length c0_1, .int .i64 a0_2, .int .i64 a0_3, .int .i64 a0_4] 25 (0, 0)) (by (with_reducible repeat (first | refine blk_drewN ?_ _ | refine blk_drew ?_ | refine blk_alloc ?_ _)); exact BK101.out) hb); have n8_ := Aside0.mk (blk_below (g := gb114) (o := .cells #[.slice Ao25 t104.length co25, .slice Ao28 t107.length co28, .int .i64 t110, .int .i64 t111, .int .i64 t112] 25 (0, 0)) (by (with_reducible repeat (first | refine blk_drewN ?_ _ | refine blk_drew ?_ | refine blk_alloc ?_ _)); exact BK114.out) hb); have n9_ := Aside0.mk (blk_below (g := gb130) (o := .cells #[.slice Ao36 t120.length co36, .slice Ao38 t123.length co38, .int .i64 t126, .int .i64 t127, .int .i64 t128] 25 (0, 0)) (by (with_reducible repeat (first | refine blk_drewN ?_ _ | refine blk_drew ?_ | refine blk_alloc ?_ _)); exact BK130.out) hb); have n10_ := Aside0.mk (below_step (by repeat (first | (with_reducible first | exact HB.out | apply below_alloc | apply pw_below_drewN | apply below_drew1 | refine below_set ?_ GE101.out | refine below_set ?_ GE114.out | refine below_set ?_ GE130.out) | exact HB.out)) hb); have n11_ := Aside0.mk (hbox); have n12_ := Aside0.mk ((by rw [hg]; exact (below_size (by repeat (first | (with_reducible first | exact HB.out | apply below_alloc | apply pw_below_drewN | apply below_drew1 | refine below_set ?_ GE101.out | refine below_set ?_ GE114.out | refine below_set ?_ GE130.out) | exact HB.out))) : w.heap.size ≤ gb141)); have n13_ := Aside0.mk ((by rw [hg]; exact (below_size (by repeat (first | (with_reducible first | exact HB.out | apply below_alloc | apply pw_below_drewN | apply below_drew1 | refine below_set ?_ GE101.out | refine below_set ?_ GE114.out | refine below_set ?_ GE130.out) | exact HB.out))) : w.heap.size ≤ gb141)); have n14_ := Aside0.mk ((by rw [hg]; exact Nat.ne_of_lt (blk_lt (g := gb101) (o := .cells #[.slice A0_0 l0_0.length c0_0, .slice A0_1 l0_1.length c0_1, .int .i64 a0_2, .int .i64 a0_3, .int .i64 a0_4] 25 (0, 0)) (by (with_reducible repeat (first | refine blk_drewN ?_ _ | refine blk_drew ?_ | refine blk_alloc ?_ _)); exact BK101.out)) : gb101 ≠ gb141)); have n15_ := Aside0.mk ((by rw [hg]; exact Nat.ne_of_gt (blk_lt (g := gb101) (o := .cells #[.slice A0_0 l0_0.length c0_0, .slice A0_1 l0_1.length c0_1, .int .i64 a0_2, .int .i64 a0_3, .int .i64 a0_4] 25 (0, 0)) (by (with_reducible repeat (first | refine blk_drewN ?_ _ | refine blk_drew ?_ | refine blk_alloc ?_ _)); exact BK101.out)) : gb141 ≠ gb101)); have n16_ := Aside0.mk ((by rw [hg]; exact Nat.ne_of_lt (blk_lt (g := gb114) (o := .cells #[.slice Ao25 t104.length co25, .slice Ao28 t107.length co28, .int .i64 t110, .int .i64 t111, .int .i64 t112] 25 (0, 0)) (by (with_reducible repeat (first | refine blk_drewN ?_ _ | refine blk_drew ?_ | refine blk_alloc ?_ _)); exact BK114.out)) : gb114 ≠ gb141)); have n17_ := Aside0.mk ((by rw [hg]; exact Nat.ne_of_gt (blk_lt (g := gb114) (o := .cells #[.slice Ao25 t104.length co25, .slice Ao28 t107.length co28, .int .i64 t110, .int .i64 t111, .int .i64 t112] 25 (0, 0)) (by (with_reducible repeat (first | refine blk_drewN ?_ _ | refine blk_drew ?_ | refine blk_alloc ?_ _)); exact BK114.out)) : gb141 ≠ gb114)); have n18_ := Aside0.mk ((by rw [hg]; exact Nat.ne_of_lt (blk_lt (g := gb130) (o := .cells #[.slice Ao36 t120.length co36, .slice Ao38 t123.length co38, .int .i64 t126, .int .i64 t127, .int .i64 t128] 25 (0, 0)) (by (with_reducible repeat (first | refine blk_drewN ?_ _ | refine blk_drew ?_ | refine blk_alloc ?_ _)); exact BK130.out)) : gb130 ≠ gb141)); have n19_ := Aside0.mk ((by rw [hg]; exact Nat.ne_of_gt (blk_lt (g := gb130) (o := .cells #[.slice Ao36 t120.length co36, .slice Ao38 t123.length co38, .int .i64 t126, .int .i64 t127, .int .i64 t128] 25 (0, 0)) (by (with_reducible repeat (first | refine blk_drewN ?_ _ | refine blk_drew ?_ | refine blk_alloc ?_ _)); exact BK130.out)) : gb141 ≠ gb130)); clear HO106; clear HO109; clear HO119; clear HO122; clear HO125; clear HO133; clear HO136; clear BK101; clear BK114; clear BK130; clear HB; have HO106 := n0_; have HO109 := n1_; have HO119 := n2_; have HO122 := n3_; have HO125 := n4_; have HO133 := n5_; have HO136 := n6_; have BK101 := n7_; have BK114 := n8_; have BK130 := n9_; have HB := n10_; have BK141 := n11_; have GW141 := n12_; have GE141 := n13_; have NB101_141 := n14_; have NB141_101 := n15_; have NB114_141 := n16_; have NB141_114 := n17_; have NB130_141 := n18_; have NB141_130 := n19_; clear n0_ n1_ n2_ n3_ n4_ n5_ n6_ n7_ n8_ n9_ n10_ n11_ n12_ n13_ n14_ n15_ n16_ n17_ n18_ n19_; clear hb hbox hg; obtain ⟨Ao47, co47, eo47⟩ := Kd.S_slice HO133.out; subst eo47; have hnb48 := NB141_101.out; have hnc48 := NB101_141.out; have hnb49 := NB141_114.out; have hnc49 := NB114_141.out; have hnb50 := NB141_130.out; have hnc50 := NB130_141.out; have hcz51_0 : w46.cell? ⟨gb141, 0, none⟩ = some (.slice none 0 0) := (blk_cell BK141.out 0).trans rfl; have hcz51_1 : w46.cell? ⟨gb141, 1, none⟩ = some (.slice none 0 0) := (blk_cell BK141.out 1).trans rfl; have hcz51_2 : w46.cell? ⟨gb141, 2, none⟩ = some (.int .i64 0) := (blk_cell BK141.out 2).trans rfl; have hcz51_3 : w46.cell? ⟨gb141, 3, none⟩ = some (.int .i64 0) := (blk_cell BK141.out 3).trans rfl; have hcz51_4 : w46.cell? ⟨gb141, 4, none⟩ = some (.int .i64 0) := (blk_cell BK141.out 4).trans rfl; have hfz51_0 := blk_frozen BK141.out 0; have hfz51_1 := blk_frozen BK141.out 1; have hfz51_2 := blk_frozen BK141.out 2; have hfz51_3 := blk_frozen BK141.out 3; have hfz51_4 := blk_frozen BK141.out 4; obtain ⟨Ao52, co52, eo52⟩ := Kd.R_slice HO136.out; subst eo52; have hnb53 := NB130_114.out; have hnc53 := NB114_130.out; have hcz54_0 : w46.cell? ⟨gb130, 0, none⟩ = some (.slice Ao36 t120.length co36) := (blk_cell BK130.out 0).trans rfl; have hcz54_1 : w46.cell? ⟨gb130, 1, none⟩ = some (.slice Ao38 t123.length co38) := (blk_cell BK130.out 1).trans rfl; have hcz54_2 : w46.cell? ⟨gb130, 2, none⟩ = some (.int .i64 t126) := (blk_cell BK130.out 2).trans rfl; have hcz54_3 : w46.cell? ⟨gb130, 3, none⟩ = some (.int .i64 t127) := (blk_cell BK130.out 3).trans rfl; have hcz54_4 : w46.cell? ⟨gb130, 4, none⟩ = some (.int .i64 t128) := (blk_cell BK130.out 4).trans rfl; have hfz54_0 := blk_frozen BK130.out 0; have hfz54_1 := blk_frozen BK130.out 1; have hfz54_2 := blk_frozen BK130.out 2; have hfz54_3 := blk_frozen BK130.out 3; have hfz54_4 := blk_frozen BK130.out 4; have hcz55_0 : w46.cell? ⟨gb101, 0, none⟩ = some (.slice A0_0 l0_0.length c0_0) := (blk_cell BK101.out 0).trans rfl; have hcz55_1 : w46.cell? ⟨gb101, 1, none⟩ = some (.slice A0_1 l0_1.length c0_1) := (blk_cell BK101.out 1).trans rfl; have hcz55_2 : w46.cell? ⟨gb101, 2, none⟩ = some (.int .i64 a0_2) := (blk_cell BK101.out 2).trans rfl; have hcz55_3 : w46.cell? ⟨gb101, 3, none⟩ = some (.int .i64 a0_3) := (blk_cell BK101.out 3).trans rfl; have hcz55_4 : w46.cell? ⟨gb101, 4, none⟩ = some (.int .i64 a0_4) := (blk_cell BK101.out 4).trans rfl; have hfz55_0 := blk_frozen BK101.out 0; have hfz55_1 := blk_frozen BK101.out 1; have hfz55_2 := blk_frozen BK101.out 2; have hfz55_3 := blk_frozen BK101.out 3; have hfz55_4 := blk_frozen BK101.out 4) | (go_at_call 20; (with_reducible refine (unicodetextref47_Same.calls k _ _ t120 _ _ t123 t126 t127 t128 _ _ l0_0 _ _ l0_1 a0_2 a0_3 a0_4 true _ ?side1 ?side2 ?side3 ?side4 ?side5 ?side6 ?side7 ?side8 A12.out).mono ?_); (case side1 => refine (Kd.S_reads' (e := 49) (base := w.heap.size) (ok := fun k_ => (some k_ ≠ (.slice Ao25 t104.length co25 : Value).ownBlock ∧ some k_ ≠ (.slice Ao47 t131.length co47 : Value).ownBlock)) (n := t120.length) (c := co36) ?_).2.2; exact (by (with_reducible repeat (first | apply Kd.S_alloc | apply Kd.S_drewN | apply Kd.S_drew)); exact (Kd.S_mono (Kd.S_far (p := ⟨gb141, 4, none⟩) (Kd.S_far (p := ⟨gb141, 3, none⟩) (Kd.S_far (p := ⟨gb141, 2, none⟩) (Kd.S_far (p := ⟨gb141, 1, none⟩) (Kd.S_far (p := ⟨gb141, 0, none⟩) (Kd.S_types HO122.out BK141.out (by decide)) (fun _ hk => hk.2) (.slice Ao47 t131.length co47)) (fun _ hk => hk.2) (.slice Ao52 t134.length co52)) (fun _ hk => hk.2) (.int .i64 t137)) (fun _ hk => hk.2) (.int .i64 t138)) (fun _ hk => hk.2) (.int .i64 t139)) (fun _ h_ => h_.1)))); (case side2 => exact (Kd.S_reads' HO122.out).2.1); (case side3 => refine (Kd.R_reads' (e := 36) (base := w.heap.size) (ok := fun k_ => (some k_ ≠ (.slice Ao28 t107.length co28 : Value).ownBlock ∧ some k_ ≠ (.slice Ao52 t134.length co52 : Value).ownBlock)) (n := t123.length) (c := co38) ?_).2.2; exact (by (with_reducible repeat (first | apply Kd.R_alloc | apply Kd.R_drewN | apply Kd.R_drew)); exact (Kd.R_mono (Kd.R_far (p := ⟨gb141, 4, none⟩) (Kd.R_far (p := ⟨gb141, 3, none⟩) (Kd.R_far (p := ⟨gb141, 2, none⟩) (Kd.R_far (p := ⟨gb141, 1, none⟩) (Kd.R_far (p := ⟨gb141, 0, none⟩) (Kd.R_types HO125.out BK141.out (by decide)) (fun _ hk => hk.2) (.slice Ao47 t131.length co47)) (fun _ hk => hk.2) (.slice Ao52 t134.length co52)) (fun _ hk => hk.2) (.int .i64 t137)) (fun _ hk => hk.2) (.int .i64 t138)) (fun _ hk => hk.2) (.int .i64 t139)) (fun _ h_ => h_.1)))); (case side4 => exact (Kd.R_reads' HO125.out).2.1); (case side5 => exact Kd.C_below HR0_0.out (by repeat (first | (with_reducible first | exact HB.out | apply below_alloc | apply pw_below_drewN | apply below_drew1 | refine below_set ?_ GE101.out | refine below_set ?_ GE114.out | refine below_set ?_ GE130.out | refine below_set ?_ GE141.out) | exact HB.out))); (case side6 => exact HC0_0.out); (case side7 => exact Kd.C_below HR0_1.out (by repeat (first | (with_reducible first | exact HB.out | apply below_alloc | apply pw_below_drewN | apply below_drew1 | refine below_set ?_ GE101.out | refine below_set ?_ GE114.out | refine below_set ?_ GE130.out | refine below_set ?_ GE141.out) | exact HB.out))); (case side8 => exact HC0_1.out); rintro e w56 ⟨rfl, hb⟩; have n0_ := Aside0.mk (Kd.S_below (by (with_reducible repeat (first | apply Kd.S_alloc | apply Kd.S_drewN | apply Kd.S_drew)); exact (Kd.S_mono (Kd.S_far (p := ⟨gb141, 4, none⟩) (Kd.S_far (p := ⟨gb141, 3, none⟩) (Kd.S_far (p := ⟨gb141, 2, none⟩) (Kd.S_far (p := ⟨gb141, 1, none⟩) (Kd.S_far (p := ⟨gb141, 0, none⟩) (Kd.S_types HO106.out BK141.out (by decide)) (fun _ hk => hk.2) (.slice Ao47 t131.length co47)) (fun _ hk => hk.2) (.slice Ao52 t134.length co52)) (fun _ hk => hk.2) (.int .i64 t137)) (fun _ hk => hk.2) (.int .i64 t138)) (fun _ hk => hk.2) (.int .i64 t139)) (fun _ h_ => h_.1))) hb); have n1_ := Aside0.mk (Kd.R_below (by (with_reducible repeat (first | apply Kd.R_alloc | apply Kd.R_drewN | apply Kd.R_drew)); exact (Kd.R_mono (Kd.R_far (p := ⟨gb141, 4, none⟩) (Kd.R_far (p := ⟨gb141, 3, none⟩) (Kd.R_far (p := ⟨gb141, 2, none⟩) (Kd.R_far (p := ⟨gb141, 1, none⟩) (Kd.R_far (p := ⟨gb141, 0, none⟩) (Kd.R_types HO109.out BK141.out (by decide)) (fun _ hk => hk.2) (.slice Ao47 t131.length co47)) (fun _ hk => hk.2) (.slice Ao52 t134.length co52)) (fun _ hk => hk.2) (.int .i64 t137)) (fun _ hk => hk.2) (.int .i64 t138)) (fun _ hk => hk.2) (.int .i64 t139)) (fun _ h_ => h_.1))) hb); have n2_ := Aside0.mk (Kd.R_below (by (with_reducible repeat (first | apply Kd.R_alloc | apply Kd.R_drewN | apply Kd.R_drew)); exact (Kd.R_mono (Kd.R_far (p := ⟨gb141, 4, none⟩) (Kd.R_far (p := ⟨gb141, 3, none⟩) (Kd.R_far (p := ⟨gb141, 2, none⟩) (Kd.R_far (p := ⟨gb141, 1, none⟩) (Kd.R_far (p := ⟨gb141, 0, none⟩) (Kd.R_types HO119.out BK141.out (by decide)) (fun _ hk => hk.2) (.slice Ao47 t131.length co47)) (fun _ hk => hk.2) (.slice Ao52 t134.length co52)) (fun _ hk => hk.2) (.int .i64 t137)) (fun _ hk => hk.2) (.int .i64 t138)) (fun _ hk => hk.2) (.int .i64 t139)) (fun _ h_ => h_.1))) hb); have n3_ := Aside0.mk (Kd.S_below (by (with_reducible repeat (first | apply Kd.S_alloc | apply Kd.S_drewN | apply Kd.S_drew)); exact (Kd.S_mono (Kd.S_far (p := ⟨gb141, 4, none⟩) (Kd.S_far (p := ⟨gb141, 3, none⟩) (Kd.S_far (p := ⟨gb141, 2, none⟩) (Kd.S_far (p := ⟨gb141, 1, none⟩) (Kd.S_far (p := ⟨gb141, 0, none⟩) (Kd.S_types HO122.out BK141.out (by decide)) (fun _ hk => hk.2) (.slice Ao47 t131.length co47)) (fun _ hk => hk.2) (.slice Ao52 t134.length co52)) (fun _ hk => hk.2) (.int .i64 t137)) (fun _ hk => hk.2) (.int .i64 t138)) (fun _ hk => hk.2) (.int .i64 t139)) (fun _ h_ => h_.1))) hb); have n4_ := Aside0.mk (Kd.R_below (by (with_reducible repeat (first | apply Kd.R_alloc | apply Kd.R_drewN | apply Kd.R_drew)); exact (Kd.R_mono (Kd.R_far (p := ⟨gb141, 4, none⟩) (Kd.R_far (p := ⟨gb141, 3, none⟩) (Kd.R_far (p := ⟨gb141, 2, none⟩) (Kd.R_far (p := ⟨gb141, 1, none⟩) (Kd.R_far (p := ⟨gb141, 0, none⟩) (Kd.R_types HO125.out BK141.out (by decide)) (fun _ hk => hk.2) (.slice Ao47 t131.length co47)) (fun _ hk => hk.2) (.slice Ao52 t134.length co52)) (fun _ hk => hk.2) (.int .i64 t137)) (fun _ hk => hk.2) (.int .i64 t138)) (fun _ hk => hk.2) (.int .i64 t139)) (fun _ h_ => h_.1))) hb); have n5_ := Aside0.mk (Kd.S_below (by (with_reducible repeat (first | apply Kd.S_alloc | apply Kd.S_drewN | apply Kd.S_drew)); exact (Kd.S_mono (Kd.S_far (p := ⟨gb141, 4, none⟩) (Kd.S_far (p := ⟨gb141, 3, none⟩) (Kd.S_far (p := ⟨gb141, 2, none⟩) (Kd.S_far (p := ⟨gb141, 1, none⟩) (Kd.S_far (p := ⟨gb141, 0, none⟩) (Kd.S_types HO133.out BK141.out (by decide)) (fun _ hk => hk.2) (.slice Ao47 t131.length co47)) (fun _ hk => hk.2) (.slice Ao52 t134.length co52)) (fun _ hk => hk.2) (.int .i64 t137)) (fun _ hk => hk.2) (.int .i64 t138)) (fun _ hk => hk.2) (.int .i64 t139)) (fun _ h_ => h_.1))) hb); have n6_ := Aside0.mk (Kd.R_below (by (with_reducible repeat (first | apply Kd.R_alloc | apply Kd.R_drewN | apply Kd.R_drew)); exact (Kd.R_mono (Kd.R_far (p := ⟨gb141, 4, none⟩) (Kd.R_far (p := ⟨gb141, 3, none⟩) (Kd.R_far (p := ⟨gb141, 2, none⟩) (Kd.R_far (p := ⟨gb141, 1, none⟩) (Kd.R_far (p := ⟨gb141, 0, none⟩) (Kd.R_types HO136.out BK141.out (by decide)) (fun _ hk => hk.2) (.slice Ao47 t131.length co47)) (fun _ hk => hk.2) (.slice Ao52 t134.length co52)) (fun _ hk => hk.2) (.int .i64 t137)) (fun _ hk => hk.2) (.int .i64 t138)) (fun _ hk => hk.2) (.int .i64 t139)) (fun _ h_ => h_.1))) hb); have n7_ := Aside0.mk (blk_below (g := gb101) (o := .cells #[.slice A0_0 l0_0.length c0_0, .slice A0_1 l0_1.length c0_1, .int .i64 a0_2, .int .i64 a0_3, .int .i64 a0_4] 25 (0, 0)) (by (with_reducible repeat (first | refine blk_drewN ?_ _ | refine blk_drew ?_ | refine blk_alloc ?_ _)); refine blk_far ?_ NB101_141.out _; (with_reducible repeat (first | refine blk_drewN ?_ _ | refine blk_drew ?_ | refine blk_alloc ?_ _)); refine blk_far ?_ NB101_141.out _; (with_reducible repeat (first | refine blk_drewN ?_ _ | refine blk_drew ?_ | refine blk_alloc ?_ _)); refine blk_far ?_ NB101_141.out _; (with_reducible repeat (first | refine blk_drewN ?_ _ | refine blk_drew ?_ | refine blk_alloc ?_ _)); refine blk_far ?_ NB101_141.out _; (with_reducible repeat (first | refine blk_drewN ?_ _ | refine blk_drew ?_ | refine blk_alloc ?_ _)); refine blk_far ?_ NB101_141.out _; (with_reducible repeat (first | refine blk_drewN ?_ _ | refine blk_drew ?_ | refine blk_alloc ?_ _)); exact BK101.out) hb); have n8_ := Aside0.mk (blk_below (g := gb114) (o := .cells #[.slice Ao25 t104.length co25, .slice Ao28 t107.length co28, .int .i64 t110, .int .i64 t111, .int .i64 t112] 25 (0, 0)) (by (with_reducible repeat (first | refine blk_drewN ?_ _ | refine blk_drew ?_ | refine blk_alloc ?_ _)); refine blk_far ?_ NB114_141.out _; (with_reducible repeat (first | refine blk_drewN ?_ _ | refine blk_drew ?_ | refine blk_alloc ?_ _)); refine blk_far ?_ NB114_141.out _; (with_reducible repeat (first | refine blk_drewN ?_ _ | refine blk_drew ?_ | refine blk_alloc ?_ _)); refine blk_far ?_ NB114_141.out _; (with_reducible repeat (first | refine blk_drewN ?_ _ | refine blk_drew ?_ | refine blk_alloc ?_ _)); refine blk_far ?_ NB114_141.out _; (with_reducible repeat (first | refine blk_drewN ?_ _ | refine blk_drew ?_ | refine blk_alloc ?_ _)); refine blk_far ?_ NB114_141.out _; (with_reducible repeat (first | refine blk_drewN ?_ _ | refine blk_drew ?_ | refine blk_alloc ?_ _)); exact BK114.out) hb); have n9_ := Aside0.mk (blk_below (g := gb130) (o := .cells #[.slice Ao36 t120.length co36, .slice Ao38 t123.length co38, .int .i64 t126, .int .i64 t127, .int .i64 t128] 25 (0, 0)) (by (with_reducible repeat (first | refine blk_drewN ?_ _ | refine blk_drew ?_ | refine blk_alloc ?_ _)); refine blk_far ?_ NB130_141.out _; (with_reducible repeat (first | refine blk_drewN ?_ _ | refine blk_drew ?_ | refine blk_alloc ?_ _)); refine blk_far ?_ NB130_141.out _; (with_reducible repeat (first | refine blk_drewN ?_ _ | refine blk_drew ?_ | refine blk_alloc ?_ _)); refine blk_far ?_ NB130_141.out _; (with_reducible repeat (first | refine blk_drewN ?_ _ | refine blk_drew ?_ | refine blk_alloc ?_ _)); refine blk_far ?_ NB130_141.out _; (with_reducible repeat (first | refine blk_drewN ?_ _ | refine blk_drew ?_ | refine blk_alloc ?_ _)); refine blk_far ?_ NB130_141.out _; (with_reducible repeat (first | refine blk_drewN ?_ _ | refine blk_drew ?_ | refine blk_alloc ?_ _)); exact BK130.out) hb); have n10_ := Aside0.mk (blk_below (g := gb141) (o := .cells #[.slice Ao47 t131.length co47, .slice Ao52 t134.length co52, .int .i64 t137, .int .i64 t138, .int .i64 t139] 25 (0, 0)) (by (with_reducible repeat (first | refine blk_drewN ?_ _ | refine blk_drew ?_ | refine blk_alloc ?_ _)); refine blk_put (cs := #[.slice Ao47 t131.length co47, .slice Ao52 t134.length co52, .int .i64 t137, .int .i64 t138, .int .i64 0]) ?_ 4 _ rfl; (with_reducible repeat (first | refine blk_drewN ?_ _ | refine blk_drew ?_ | refine blk_alloc ?_ _)); refine blk_put (cs := #[.slice Ao47 t131.length co47, .slice Ao52 t134.length co52, .int .i64 t137, .int .i64 0, .int .i64 0]) ?_ 3 _ rfl; (with_reducible repeat (first | refine blk_drewN ?_ _ | refine blk_drew ?_ | refine blk_alloc ?_ _)); refine blk_put (cs := #[.slice Ao47 t131.length co47, .slice Ao52 t134.length co52, .int .i64 0, .int .i64 0, .int .i64 0]) ?_ 2 _ rfl; (with_reducible repeat (first | refine blk_drewN ?_ _ | refine blk_drew ?_ | refine blk_alloc ?_ _)); refine blk_put (cs := #[.slice Ao47 t131.length co47, .slice none 0 0, .int .i64 0, .int .i64 0, .int .i64 0]) ?_ 1 _ rfl; (with_reducible repeat (first | refine blk_drewN ?_ _ | refine blk_drew ?_ | refine blk_alloc ?_ _)); refine blk_put (cs := #[.slice none 0 0, .slice none 0 0, .int .i64 0, .int .i64 0, .int .i64 0]) ?_ 0 _ rfl; (with_reducible repeat (first | refine blk_drewN ?_ _ | refine blk_drew ?_ | refine blk_alloc ?_ _)); exact BK141.out) hb); have n11_ := Aside0.mk (below_step (by repeat (first | (with_reducible first | exact HB.out | apply below_alloc | apply pw_below_drewN | apply below_drew1 | refine below_set ?_ GE101.out | refine below_set ?_ GE114.out | refine below_set ?_ GE130.out | refine below_set ?_ GE141.out) | exact HB.out)) hb); clear HO106; clear HO109; clear HO119; clear HO122; clear HO125; clear HO133; clear HO136; clear BK101; clear BK114; clear BK130; clear BK141; clear HB; have HO106 := n0_; have HO109 := n1_; have HO119 := n2_; have HO122 := n3_; have HO125 := n4_; have HO133 := n5_; have HO136 := n6_; have BK101 := n7_; have BK114 := n8_; have BK130 := n9_; have BK141 := n10_; have HB := n11_; clear n0_ n1_ n2_ n3_ n4_ n5_ n6_ n7_ n8_ n9_ n10_ n11_; (try clear hb); (try clear hb2); (try clear hk); (try clear hi); have hcz57_0 : w56.cell? ⟨gb141, 0, none⟩ = some (.slice Ao47 t131.length co47) := (blk_cell BK141.out 0).trans rfl; have hcz57_1 : w56.cell? ⟨gb141, 1, none⟩ = some (.slice Ao52 t134.length co52) := (blk_cell BK141.out 1).trans rfl; have hcz57_2 : w56.cell? ⟨gb141, 2, none⟩ = some (.int .i64 t137) := (blk_cell BK141.out 2).trans rfl; have hcz57_3 : w56.cell? ⟨gb141, 3, none⟩ = some (.int .i64 t138) := (blk_cell BK141.out 3).trans rfl; have hcz57_4 : w56.cell? ⟨gb141, 4, none⟩ = some (.int .i64 t139) := (blk_cell BK141.out 4).trans rfl; have hfz57_0 := blk_frozen BK141.out 0; have hfz57_1 := blk_frozen BK141.out 1; have hfz57_2 := blk_frozen BK141.out 2; have hfz57_3 := blk_frozen BK141.out 3; have hfz57_4 := blk_frozen BK141.out 4; have hcz58_0 : w56.cell? ⟨gb101, 0, none⟩ = some (.slice A0_0 l0_0.length c0_0) := (blk_cell BK101.out 0).trans rfl; have hcz58_1 : w56.cell? ⟨gb101, 1, none⟩ = some (.slice A0_1 l0_1.length c0_1) := (blk_cell BK101.out 1).trans rfl; have hcz58_2 : w56.cell? ⟨gb101, 2, none⟩ = some (.int .i64 a0_2) := (blk_cell BK101.out 2).trans rfl; have hcz58_3 : w56.cell? ⟨gb101, 3, none⟩ = some (.int .i64 a0_3) := (blk_cell BK101.out 3).trans rfl; have hcz58_4 : w56.cell? ⟨gb101, 4, none⟩ = some (.int .i64 a0_4) := (blk_cell BK101.out 4).trans rfl; have hfz58_0 := blk_frozen BK101.out 0; have hfz58_1 := blk_frozen BK101.out 1; have hfz58_2 := blk_frozen BK101.out 2; have hfz58_3 := blk_frozen BK101.out 3; have hfz58_4 := blk_frozen BK101.out 4) | (go_at_call 20; (with_reducible refine (unicodetextref47_Same.calls k _ _ t131 _ _ t134 t137 t138 t139 _ _ l0_0 _ _ l0_1 a0_2 a0_3 a0_4 true _ ?side1 ?side2 ?side3 ?side4 ?side5 ?side6 ?side7 ?side8 A14.out).mono ?_); (case side1 => repeat (first | exact (Kd.S_reads' HO133.out).2.2 | (with_reducible refine Kd.C_alloc ?_ _) | (with_reducible refine Kd.C_drewN ?_ _) | (with_reducible refine Kd.C_drew ?_))); (case side2 => exact (Kd.S_reads' HO133.out).2.1); (case side3 => repeat (first | exact (Kd.R_reads' HO136.out).2.2 | (with_reducible refine Kd.C_alloc ?_ _) | (with_reducible refine Kd.C_drewN ?_ _) | (with_reducible refine Kd.C_drew ?_))); (case side4 => exact (Kd.R_reads' HO136.out).2.1); (case side5 => repeat (first | exact (Kd.C_below HR0_0.out HB.out) | (with_reducible refine Kd.C_alloc ?_ _) | (with_reducible refine Kd.C_drewN ?_ _) | (with_reducible refine Kd.C_drew ?_))); (case side6 => exact HC0_0.out); (case side7 => repeat (first | exact (Kd.C_below HR0_1.out HB.out) | (with_reducible refine Kd.C_alloc ?_ _) | (with_reducible refine Kd.C_drewN ?_ _) | (with_reducible refine Kd.C_drew ?_))); (case side8 => exact HC0_1.out); rintro e w59 ⟨rfl, hb⟩; have n0_ := Aside0.mk (Kd.S_below (by (with_reducible repeat (first | apply Kd.S_alloc | apply Kd.S_drewN | apply Kd.S_drew)); exact HO106.out) hb); have n1_ := Aside0.mk (Kd.R_below (by (with_reducible repeat (first | apply Kd.R_alloc | apply Kd.R_drewN | apply Kd.R_drew)); exact HO109.out) hb); have n2_ := Aside0.mk (Kd.R_below (by (with_reducible repeat (first | apply Kd.R_alloc | apply Kd.R_drewN | apply Kd.R_drew)); exact HO119.out) hb); have n3_ := Aside0.mk (Kd.S_below (by (with_reducible repeat (first | apply Kd.S_alloc | apply Kd.S_drewN | apply Kd.S_drew)); exact HO122.out) hb); have n4_ := Aside0.mk (Kd.R_below (by (with_reducible repeat (first | apply Kd.R_alloc | apply Kd.R_drewN | apply Kd.R_drew)); exact HO125.out) hb); have n5_ := Aside0.mk (Kd.S_below (by (with_reducible repeat (first | apply Kd.S_alloc | apply Kd.S_drewN | apply Kd.S_drew)); exact HO133.out) hb); have n6_ := Aside0.mk (Kd.R_below (by (with_reducible repeat (first | apply Kd.R_alloc | apply Kd.R_drewN | apply Kd.R_drew)); exact HO136.out) hb); have n7_ := Aside0.mk (blk_below (g := gb101) (o := .cells #[.slice A0_0 l0_0.length c0_0, .slice A0_1 l0_1.length c0_1, .int .i64 a0_2, .int .i64 a0_3, .int .i64 a0_4] 25 (0, 0)) (by (with_reducible repeat (first | refine blk_drewN ?_ _ | refine blk_drew ?_ | refine blk_alloc ?_ _)); exact BK101.out) hb); have n8_ := Aside0.mk (blk_below (g := gb114) (o := .cells #[.slice Ao25 t104.length co25, .slice Ao28 t107.length co28, .int .i64 t110, .int .i64 t111, .int .i64 t112] 25 (0, 0)) (by (with_reducible repeat (first | refine blk_drewN ?_ _ | refine blk_drew ?_ | refine blk_alloc ?_ _)); exact BK114.out) hb); have n9_ := Aside0.mk (blk_below (g := gb130) (o := .cells #[.slice Ao36 t120.length co36, .slice Ao38 t123.length co38, .int .i64 t126, .int .i64 t127, .int .i64 t128] 25 (0, 0)) (by (with_reducible repeat (first | refine blk_drewN ?_ _ | refine blk_drew ?_ | refine blk_alloc ?_ _)); exact BK130.out) hb); have n10_ := Aside0.mk (blk_below (g := gb141) (o := .cells #[.slice Ao47 t131.length co47, .slice Ao52 t134.length co52, .int .i64 t137, .int .i64 t138, .int .i64 t139] 25 (0, 0)) (by (with_reducible repeat (first | refine blk_drewN ?_ _ | refine blk_drew ?_ | refine blk_alloc ?_ _)); exact BK141.out) hb); have n11_ := Aside0.mk (below_step (by repeat (first | (with_reducible first | exact HB.out | apply below_alloc | apply pw_below_drewN | apply below_drew1 | refine below_set ?_ GE101.out | refine below_set ?_ GE114.out | refine below_set ?_ GE130.out | refine below_set ?_ GE141.out) | exact HB.out)) hb); clear HO106; clear HO109; clear HO119; clear HO122; clear HO125; clear HO133; clear HO136; clear BK101; clear BK114; clear BK130; clear BK141; clear HB; have HO106 := n0_; have HO109 := n1_; have HO119 := n2_; have HO122 := n3_; have HO125 := n4_; have HO133 := n5_; have HO136 := n6_; have BK101 := n7_; have BK114 := n8_; have BK130 := n9_; have BK141 := n10_; have HB := n11_; clear n0_ n1_ n2_ n3_ n4_ n5_ n6_ n7_ n8_ n9_ n10_ n11_; (try clear hb); (try clear hb2); (try clear hk); (try clear hi); have hcz60_0 : w59.cell? ⟨gb114, 0, none⟩ = some (.slice Ao25 t104.length co25) := (blk_cell BK114.out 0).trans rfl; have hcz60_1 : w59.cell? ⟨gb114, 1, none⟩ = some (.slice Ao28 t107.length co28) := (blk_cell BK114.out 1).trans rfl; have hcz60_2 : w59.cell? ⟨gb114, 2, none⟩ = some (.int .i64 t110) := (blk_cell BK114.out 2).trans rfl; have hcz60_3 : w59.cell? ⟨gb114, 3, none⟩ = some (.int .i64 t111) := (blk_cell BK114.out 3).trans rfl; have hcz60_4 : w59.cell? ⟨gb114, 4, none⟩ = some (.int .i64 t112) := (blk_cell BK114.out 4).trans rfl; have hfz60_0 := blk_frozen BK114.out 0; have hfz60_1 := blk_frozen BK114.out 1; have hfz60_2 := blk_frozen BK114.out 2; have hfz60_3 := blk_frozen BK114.out 3; have hfz60_4 := blk_frozen BK114.out 4) | (go_at_call 22; (with_reducible refine (colltable_Check.calls k _ _ t104 _ _ t107 t110 t111 t112 t144 _ ?side1 ?side2 ?side3 ?side4 A16.out).mono ?_); (case side1 => repeat (first | exact (Kd.S_reads' HO106.out).2.2 | (with_reducible refine Kd.C_alloc ?_ _) | (with_reducible refine Kd.C_drewN ?_ _) | (with_reducible refine Kd.C_drew ?_))); (case side2 => exact (Kd.S_reads' HO106.out).2.1); (case side3 => repeat (first | exact (Kd.R_reads' HO109.out).2.2 | (with_reducible refine Kd.C_alloc ?_ _) | (with_reducible refine Kd.C_drewN ?_ _) | (with_reducible refine Kd.C_drew ?_))); (case side4 => exact (Kd.R_reads' HO109.out).2.1); rintro e w61 ⟨rfl, hb⟩; have n0_ := Aside0.mk (Kd.S_below (by (with_reducible repeat (first | apply Kd.S_alloc | apply Kd.S_drewN | apply Kd.S_drew)); exact HO106.out) hb); have n1_ := Aside0.mk (Kd.R_below (by (with_reducible repeat (first | apply Kd.R_alloc | apply Kd.R_drewN | apply Kd.R_drew)); exact HO109.out) hb); have n2_ := Aside0.mk (Kd.R_below (by (with_reducible repeat (first | apply Kd.R_alloc | apply Kd.R_drewN | apply Kd.R_drew)); exact HO119.out) hb); have n3_ := Aside0.mk (Kd.S_below (by (with_reducible repeat (first | apply Kd.S_alloc | apply Kd.S_drewN | apply Kd.S_drew)); exact HO122.out) hb); have n4_ := Aside0.mk (Kd.R_below (by (with_reducible repeat (first | apply Kd.R_alloc | apply Kd.R_drewN | apply Kd.R_drew)); exact HO125.out) hb); have n5_ := Aside0.mk (Kd.S_below (by (with_reducible repeat (first | apply Kd.S_alloc | apply Kd.S_drewN | apply Kd.S_drew)); exact HO133.out) hb); have n6_ := Aside0.mk (Kd.R_below (by (with_reducible repeat (first | apply Kd.R_alloc | apply Kd.R_drewN | apply Kd.R_drew)); exact HO136.out) hb); have n7_ := Aside0.mk (blk_below (g := gb101) (o := .cells #[.slice A0_0 l0_0.length c0_0, .slice A0_1 l0_1.length c0_1, .int .i64 a0_2, .int .i64 a0_3, .int .i64 a0_4] 25 (0, 0)) (by (with_reducible repeat (first | refine blk_drewN ?_ _ | refine blk_drew ?_ | refine blk_alloc ?_ _)); exact BK101.out) hb); have n8_ := Aside0.mk (blk_below (g := gb114) (o := .cells #[.slice Ao25 t104.length co25, .slice Ao28 t107.length co28, .int .i64 t110, .int .i64 t111, .int .i64 t112] 25 (0, 0)) (by (with_reducible repeat (first | refine blk_drewN ?_ _ | refine blk_drew ?_ | refine blk_alloc ?_ _)); exact BK114.out) hb); have n9_ := Aside0.mk (blk_below (g := gb130) (o := .cells #[.slice Ao36 t120.length co36, .slice Ao38 t123.length co38, .int .i64 t126, .int .i64 t127, .int .i64 t128] 25 (0, 0)) (by (with_reducible repeat (first | refine blk_drewN ?_ _ | refine blk_drew ?_ | refine blk_alloc ?_ _)); exact BK130.out) hb); have n10_ := Aside0.mk (blk_below (g := gb141) (o := .cells #[.slice Ao47 t131.length co47, .slice Ao52 t134.length co52, .int .i64 t137, .int .i64 t138, .int .i64 t139] 25 (0, 0)) (by (with_reducible repeat (first | refine blk_drewN ?_ _ | refine blk_drew ?_ | refine blk_alloc ?_ _)); exact BK141.out) hb); have n11_ := Aside0.mk (below_step (by repeat (first | (with_reducible first | exact HB.out | apply below_alloc | apply pw_below_drewN | apply below_drew1 | refine below_set ?_ GE101.out | refine below_set ?_ GE114.out | refine below_set ?_ GE130.out | refine below_set ?_ GE141.out) | exact HB.out)) hb); clear HO106; clear HO109; clear HO119; clear HO122; clear HO125; clear HO133; clear HO136; clear BK101; clear BK114; clear BK130; clear BK141; clear HB; have HO106 := n0_; have HO109 := n1_; have HO119 := n2_; have HO122 := n3_; have HO125 := n4_; have HO133 := n5_; have HO136 := n6_; have BK101 := n7_; have BK114 := n8_; have BK130 := n9_; have BK141 := n10_; have HB := n11_; clear n0_ n1_ n2_ n3_ n4_ n5_ n6_ n7_ n8_ n9_ n10_ n11_; (try clear hb); (try clear hb2); (try clear hk); (try clear hi)) | (go_at_call 11; (with_reducible refine (unicodetextlaw47_alive.calls k  t145 _ A18.out).mono ?_); rintro e w62 ⟨rfl, hb⟩; have n0_ := Aside0.mk (Kd.S_below (by (with_reducible repeat (first | apply Kd.S_alloc | apply Kd.S_drewN | apply Kd.S_drew)); exact HO106.out) hb); have n1_ := Aside0.mk (Kd.R_below (by (with_reducible repeat (first | apply Kd.R_alloc | apply Kd.R_drewN | apply Kd.R_drew)); exact HO109.out) hb); have n2_ := Aside0.mk (Kd.R_below (by (with_reducible repeat (first | apply Kd.R_alloc | apply Kd.R_drewN | apply Kd.R_drew)); exact HO119.out) hb); have n3_ := Aside0.mk (Kd.S_below (by (with_reducible repeat (first | apply Kd.S_alloc | apply Kd.S_drewN | apply Kd.S_drew)); exact HO122.out) hb); have n4_ := Aside0.mk (Kd.R_below (by (with_reducible repeat (first | apply Kd.R_alloc | apply Kd.R_drewN | apply Kd.R_drew)); exact HO125.out) hb); have n5_ := Aside0.mk (Kd.S_below (by (with_reducible repeat (first | apply Kd.S_alloc | apply Kd.S_drewN | apply Kd.S_drew)); exact HO133.out) hb); have n6_ := Aside0.mk (Kd.R_below (by (with_reducible repeat (first | apply Kd.R_alloc | apply Kd.R_drewN | apply Kd.R_drew)); exact HO136.out) hb); have n7_ := Aside0.mk (blk_below (g := gb101) (o := .cells #[.slice A0_0 l0_0.length c0_0, .slice A0_1 l0_1.length c0_1, .int .i64 a0_2, .int .i64 a0_3, .int .i64 a0_4] 25 (0, 0)) (by (with_reducible repeat (first | refine blk_drewN ?_ _ | refine blk_drew ?_ | refine blk_alloc ?_ _)); exact BK101.out) hb); have n8_ := Aside0.mk (blk_below (g := gb114) (o := .cells #[.slice Ao25 t104.length co25, .slice Ao28 t107.length co28, .int .i64 t110, .int .i64 t111, .int .i64 t112] 25 (0, 0)) (by (with_reducible repeat (first | refine blk_drewN ?_ _ | refine blk_drew ?_ | refine blk_alloc ?_ _)); exact BK114.out) hb); have n9_ := Aside0.mk (blk_below (g := gb130) (o := .cells #[.slice Ao36 t120.length co36, .slice Ao38 t123.length co38, .int .i64 t126, .int .i64 t127, .int .i64 t128] 25 (0, 0)) (by (with_reducible repeat (first | refine blk_drewN ?_ _ | refine blk_drew ?_ | refine blk_alloc ?_ _)); exact BK130.out) hb); have n10_ := Aside0.mk (blk_below (g := gb141) (o := .cells #[.slice Ao47 t131.length co47, .slice Ao52 t134.length co52, .int .i64 t137, .int .i64 t138, .int .i64 t139] 25 (0, 0)) (by (with_reducible repeat (first | refine blk_drewN ?_ _ | refine blk_drew ?_ | refine blk_alloc ?_ _)); exact BK141.out) hb); have n11_ := Aside0.mk (below_step (by repeat (first | (with_reducible first | exact HB.out | apply below_alloc | apply pw_below_drewN | apply below_drew1 | refine below_set ?_ GE101.out | refine below_set ?_ GE114.out | refine below_set ?_ GE130.out | refine below_set ?_ GE141.out) | exact HB.out)) hb); clear HO106; clear HO109; clear HO119; clear HO122; clear HO125; clear HO133; clear HO136; clear BK101; clear BK114; clear BK130; clear BK141; clear HB; have HO106 := n0_; have HO109 := n1_; have HO119 := n2_; have HO122 := n3_; have HO125 := n4_; have HO133 := n5_; have HO136 := n6_; have BK101 := n7_; have BK114 := n8_; have BK130 := n9_; have BK141 := n10_; have HB := n11_; clear n0_ n1_ n2_ n3_ n4_ n5_ n6_ n7_ n8_ n9_ n10_ n11_; (try clear hb); (try clear hb2); (try clear hk); (try clear hi)))
        go_ret
        exact ⟨by first | rfl | (simp [errW_none, errW_some] <;> rfl) | (simp [*, errW_none, errW_some] <;> rfl), by repeat (first | (with_reducible first | exact HB.out | apply below_alloc | apply pw_below_drewN | apply below_drew1 | refine below_set ?_ GE101.out | refine below_set ?_ GE114.out | refine below_set ?_ GE130.out | refine below_set ?_ GE141.out) | exact HB.out)⟩
       ·rw [if_neg c17] at H
        exact absurd H (by simp)
      ·rw [if_neg c15] at H
       exact absurd H (by simp)
     ·rw [if_neg c13] at H
      exact absurd H (by simp)
    ·rw [if_neg c11] at H
     exact absurd H (by simp)
   ·rw [if_neg c10] at H
    exact absurd H (by simp)
  ·rw [if_neg c6] at H
   have c6b0 : (t113 == 0) = false := beq_eq_false_iff_ne.mpr c6
   have c6b1 : (t113 != 0) = true := bne_iff_ne.mpr c6
   replace H := Option.bind_eq_some_iff.mp H
   obtain ⟨t115, A2530, H⟩ := H
   replace H : (if t115 = true then ((unicodetextlaw47_alive.f k).bind fun t116 => (some t116)) else (none)) = some r := H
   have A253 := Aside0.mk A2530
   clear A2530
   by_cases c254 : t115 = true
   ·subst c254
    have H1 : ((unicodetextlaw47_alive.f k).bind fun t116 => (some t116)) = some r := by rw [if_pos rfl] at H; exact H
    clear H
    have H := H1
    clear H1
    replace H := Option.bind_eq_some_iff.mp H
    obtain ⟨t116, A2550, H⟩ := H
    replace H : (some t116) = some r := H
    have A255 := Aside0.mk A2550
    clear A2550
    obtain rfl := Option.some.inj H
    go_enter Try.func8, Try.ntmps8
    go_wp2_with (first | ((with_reducible refine gate_dst (N := 2) rfl ?_); refine box_event ?hg (N := 2) ?hd (cs := #[.slice A0_0 l0_0.length c0_0, .slice A0_1 l0_1.length c0_1, .int .i64 a0_2, .int .i64 a0_3, .int .i64 a0_4]) (t := 25) ?hr ?_; (case hd => rfl); (case hg => rfl); (case hr => first | (go_simp; done) | (go_simp; rfl)); intro gb101 hg w256 hbox hb; have n0_ := Aside0.mk (below_step (by repeat (first | (with_reducible first | exact HB.out | apply below_alloc | apply pw_below_drewN | apply below_drew1) | exact HB.out)) hb); have n1_ := Aside0.mk (hbox); have n2_ := Aside0.mk ((by rw [hg]; exact (below_size (by repeat (first | (with_reducible first | exact HB.out | apply below_alloc | apply pw_below_drewN | apply below_drew1) | exact HB.out))) : w.heap.size ≤ gb101)); have n3_ := Aside0.mk ((by rw [hg]; exact (below_size (by repeat (first | (with_reducible first | exact HB.out | apply below_alloc | apply pw_below_drewN | apply below_drew1) | exact HB.out))) : w.heap.size ≤ gb101)); clear HB; have HB := n0_; have BK101 := n1_; have GW101 := n2_; have GE101 := n3_; clear n0_ n1_ n2_ n3_; clear hb hbox hg; have hcz257_0 : w256.cell? ⟨gb101, 0, none⟩ = some (.slice A0_0 l0_0.length c0_0) := (blk_cell BK101.out 0).trans rfl; have hcz257_1 : w256.cell? ⟨gb101, 1, none⟩ = some (.slice A0_1 l0_1.length c0_1) := (blk_cell BK101.out 1).trans rfl; have hcz257_2 : w256.cell? ⟨gb101, 2, none⟩ = some (.int .i64 a0_2) := (blk_cell BK101.out 2).trans rfl; have hcz257_3 : w256.cell? ⟨gb101, 3, none⟩ = some (.int .i64 a0_3) := (blk_cell BK101.out 3).trans rfl; have hcz257_4 : w256.cell? ⟨gb101, 4, none⟩ = some (.int .i64 a0_4) := (blk_cell BK101.out 4).trans rfl; have hfz257_0 := blk_frozen BK101.out 0; have hfz257_1 := blk_frozen BK101.out 1; have hfz257_2 := blk_frozen BK101.out 2; have hfz257_3 := blk_frozen BK101.out 3; have hfz257_4 := blk_frozen BK101.out 4) | ((with_reducible refine gate_callee (f := 10) rfl ?_); refine goesL_ (some 13) rfl rfl Try.func10 (by kernel_rfl) rfl #[.agg #[.slice A0_0 l0_0.length c0_0, .slice A0_1 l0_1.length c0_1, .int .i64 a0_2, .int .i64 a0_3, .int .i64 a0_4], .slice A1 l1.length c1] rfl (by (try simp only [List.map_toArray, List.map_cons, List.map_nil]); first | done | rfl | (simp only [List.length_drop, List.length_take]; rfl)) ?_; (with_reducible refine (unicodetextlaw47_few.calls k _ _ l0_0 _ _ l0_1 a0_2 a0_3 a0_4 _ _ l1 true _ ?side1 ?side2 ?side3 ?side4 ?side5 ?side6 A3.out).mono ?_); (case side1 => repeat (first | exact (Kd.C_below HR0_0.out HB.out) | (with_reducible refine Kd.C_alloc ?_ _) | (with_reducible refine Kd.C_drewN ?_ _) | (with_reducible refine Kd.C_drew ?_))); (case side2 => exact HC0_0.out); (case side3 => repeat (first | exact (Kd.C_below HR0_1.out HB.out) | (with_reducible refine Kd.C_alloc ?_ _) | (with_reducible refine Kd.C_drewN ?_ _) | (with_reducible refine Kd.C_drew ?_))); (case side4 => exact HC0_1.out); (case side5 => repeat (first | exact (Kd.C_below HR1.out HB.out) | (with_reducible refine Kd.C_alloc ?_ _) | (with_reducible refine Kd.C_drewN ?_ _) | (with_reducible refine Kd.C_drew ?_))); (case side6 => exact HC1.out); rintro e w258 ⟨rfl, hb⟩; refine ⟨_, rfl, ?_⟩; have n0_ := Aside0.mk (blk_below (g := gb101) (o := .cells #[.slice A0_0 l0_0.length c0_0, .slice A0_1 l0_1.length c0_1, .int .i64 a0_2, .int .i64 a0_3, .int .i64 a0_4] 25 (0, 0)) (by (with_reducible repeat (first | refine blk_drewN ?_ _ | refine blk_drew ?_ | refine blk_alloc ?_ _)); exact BK101.out) hb); have n1_ := Aside0.mk (below_step (by repeat (first | (with_reducible first | exact HB.out | apply below_alloc | apply pw_below_drewN | apply below_drew1 | refine below_set ?_ GE101.out) | exact HB.out)) hb); clear BK101; clear HB; have BK101 := n0_; have HB := n1_; clear n0_ n1_; (try clear hb); (try clear hb2); (try clear hk); (try clear hi); have hcz259_0 : w258.cell? ⟨gb101, 0, none⟩ = some (.slice A0_0 l0_0.length c0_0) := (blk_cell BK101.out 0).trans rfl; have hcz259_1 : w258.cell? ⟨gb101, 1, none⟩ = some (.slice A0_1 l0_1.length c0_1) := (blk_cell BK101.out 1).trans rfl; have hcz259_2 : w258.cell? ⟨gb101, 2, none⟩ = some (.int .i64 a0_2) := (blk_cell BK101.out 2).trans rfl; have hcz259_3 : w258.cell? ⟨gb101, 3, none⟩ = some (.int .i64 a0_3) := (blk_cell BK101.out 3).trans rfl; have hcz259_4 : w258.cell? ⟨gb101, 4, none⟩ = some (.int .i64 a0_4) := (blk_cell BK101.out 4).trans rfl; have hfz259_0 := blk_frozen BK101.out 0; have hfz259_1 := blk_frozen BK101.out 1; have hfz259_2 := blk_frozen BK101.out 2; have hfz259_3 := blk_frozen BK101.out 3; have hfz259_4 := blk_frozen BK101.out 4) | ((with_reducible refine gate_callee (f := 18) rfl ?_); refine goesL_ (some 19) rfl rfl Try.func18 (by kernel_rfl) rfl #[.agg #[.slice A0_0 l0_0.length c0_0, .slice A0_1 l0_1.length c0_1, .int .i64 a0_2, .int .i64 a0_3, .int .i64 a0_4], .slice A1 l1.length c1] rfl (by (try simp only [List.map_toArray, List.map_cons, List.map_nil]); first | done | rfl | (simp only [List.length_drop, List.length_take]; rfl)) ?_; (with_reducible refine (groups_Apply.calls k _ _ l0_0 _ _ l0_1 a0_2 a0_3 a0_4 _ _ l1 t104 t107 t110 t111 t112 t113 _ ?side1 ?side2 ?side3 ?side4 ?side5 ?side6 A5.out).mono ?_); (case side1 => repeat (first | exact (Kd.C_below HR0_0.out HB.out) | (with_reducible refine Kd.C_alloc ?_ _) | (with_reducible refine Kd.C_drewN ?_ _) | (with_reducible refine Kd.C_drew ?_))); (case side2 => exact HC0_0.out); (case side3 => repeat (first | exact (Kd.C_below HR0_1.out HB.out) | (with_reducible refine Kd.C_alloc ?_ _) | (with_reducible refine Kd.C_drewN ?_ _) | (with_reducible refine Kd.C_drew ?_))); (case side4 => exact HC0_1.out); (case side5 => repeat (first | exact (Kd.C_below HR1.out HB.out) | (with_reducible refine Kd.C_alloc ?_ _) | (with_reducible refine Kd.C_drewN ?_ _) | (with_reducible refine Kd.C_drew ?_))); (case side6 => exact HC1.out); rintro e w260 ⟨v105, v108, rfl, ho0, ho1, hb⟩; refine ⟨_, rfl, ?_⟩; have n0_ := Aside0.mk (Kd.S_lower ho0 (below_size (by repeat (first | (with_reducible first | exact HB.out | apply below_alloc | apply pw_below_drewN | apply below_drew1 | refine below_set ?_ GE101.out) | exact HB.out)))); have n1_ := Aside0.mk (Kd.R_lower ho1 (below_size (by repeat (first | (with_reducible first | exact HB.out | apply below_alloc | apply pw_below_drewN | apply below_drew1 | refine below_set ?_ GE101.out) | exact HB.out)))); have n2_ := Aside0.mk (blk_below (g := gb101) (o := .cells #[.slice A0_0 l0_0.length c0_0, .slice A0_1 l0_1.length c0_1, .int .i64 a0_2, .int .i64 a0_3, .int .i64 a0_4] 25 (0, 0)) (by (with_reducible repeat (first | refine blk_drewN ?_ _ | refine blk_drew ?_ | refine blk_alloc ?_ _)); exact BK101.out) hb); have n3_ := Aside0.mk (below_step (by repeat (first | (with_reducible first | exact HB.out | apply below_alloc | apply pw_below_drewN | apply below_drew1 | refine below_set ?_ GE101.out) | exact HB.out)) hb); clear BK101; clear HB; have HO106 := n0_; have HO109 := n1_; have BK101 := n2_; have HB := n3_; clear n0_ n1_ n2_ n3_; (try clear hb); (try clear hb2); (try clear hk); (try clear hi); (try clear ho0); (try clear ho1)) | ((with_reducible refine gate_dst (N := 5) rfl ?_); refine box_event ?hg (N := 5) ?hd (cs := #[.slice none 0 0, .slice none 0 0, .int .i64 0, .int .i64 0, .int .i64 0]) (t := 25) ?hr ?_; (case hd => rfl); (case hg => rfl); (case hr => first | (go_simp; done) | (go_simp; rfl)); intro gb114 hg w261 hbox hb; have n0_ := Aside0.mk (Kd.S_below (by (with_reducible repeat (first | apply Kd.S_alloc | apply Kd.S_drewN | apply Kd.S_drew)); exact HO106.out) hb); have n1_ := Aside0.mk (Kd.R_below (by (with_reducible repeat (first | apply Kd.R_alloc | apply Kd.R_drewN | apply Kd.R_drew)); exact HO109.out) hb); have n2_ := Aside0.mk (blk_below (g := gb101) (o := .cells #[.slice A0_0 l0_0.length c0_0, .slice A0_1 l0_1.length c0_1, .int .i64 a0_2, .int .i64 a0_3, .int .i64 a0_4] 25 (0, 0)) (by (with_reducible repeat (first | refine blk_drewN ?_ _ | refine blk_drew ?_ | refine blk_alloc ?_ _)); exact BK101.out) hb); have n3_ := Aside0.mk (below_step (by repeat (first | (with_reducible first | exact HB.out | apply below_alloc | apply pw_below_drewN | apply below_drew1 | refine below_set ?_ GE101.out) | exact HB.out)) hb); have n4_ := Aside0.mk (hbox); have n5_ := Aside0.mk ((by rw [hg]; exact (below_size (by repeat (first | (with_reducible first | exact HB.out | apply below_alloc | apply pw_below_drewN | apply below_drew1 | refine below_set ?_ GE101.out) | exact HB.out))) : w.heap.size ≤ gb114)); have n6_ := Aside0.mk ((by rw [hg]; exact (below_size (by repeat (first | (with_reducible first | exact HB.out | apply below_alloc | apply pw_below_drewN | apply below_drew1 | refine below_set ?_ GE101.out) | exact HB.out))) : w.heap.size ≤ gb114)); have n7_ := Aside0.mk ((by rw [hg]; exact Nat.ne_of_lt (blk_lt (g := gb101) (o := .cells #[.slice A0_0 l0_0.length c0_0, .slice A0_1 l0_1.length c0_1, .int .i64 a0_2, .int .i64 a0_3, .int .i64 a0_4] 25 (0, 0)) (by (with_reducible repeat (first | refine blk_drewN ?_ _ | refine blk_drew ?_ | refine blk_alloc ?_ _)); exact BK101.out)) : gb101 ≠ gb114)); have n8_ := Aside0.mk ((by rw [hg]; exact Nat.ne_of_gt (blk_lt (g := gb101) (o := .cells #[.slice A0_0 l0_0.length c0_0, .slice A0_1 l0_1.length c0_1, .int .i64 a0_2, .int .i64 a0_3, .int .i64 a0_4] 25 (0, 0)) (by (with_reducible repeat (first | refine blk_drewN ?_ _ | refine blk_drew ?_ | refine blk_alloc ?_ _)); exact BK101.out)) : gb114 ≠ gb101)); clear HO106; clear HO109; clear BK101; clear HB; have HO106 := n0_; have HO109 := n1_; have BK101 := n2_; have HB := n3_; have BK114 := n4_; have GW114 := n5_; have GE114 := n6_; have NB101_114 := n7_; have NB114_101 := n8_; clear n0_ n1_ n2_ n3_ n4_ n5_ n6_ n7_ n8_; clear hb hbox hg; obtain ⟨Ao262, co262, eo262⟩ := Kd.S_slice HO106.out; subst eo262; have hnb263 := NB114_101.out; have hnc263 := NB101_114.out; have hcz264_0 : w261.cell? ⟨gb114, 0, none⟩ = some (.slice none 0 0) := (blk_cell BK114.out 0).trans rfl; have hcz264_1 : w261.cell? ⟨gb114, 1, none⟩ = some (.slice none 0 0) := (blk_cell BK114.out 1).trans rfl; have hcz264_2 : w261.cell? ⟨gb114, 2, none⟩ = some (.int .i64 0) := (blk_cell BK114.out 2).trans rfl; have hcz264_3 : w261.cell? ⟨gb114, 3, none⟩ = some (.int .i64 0) := (blk_cell BK114.out 3).trans rfl; have hcz264_4 : w261.cell? ⟨gb114, 4, none⟩ = some (.int .i64 0) := (blk_cell BK114.out 4).trans rfl; have hfz264_0 := blk_frozen BK114.out 0; have hfz264_1 := blk_frozen BK114.out 1; have hfz264_2 := blk_frozen BK114.out 2; have hfz264_3 := blk_frozen BK114.out 3; have hfz264_4 := blk_frozen BK114.out 4; obtain ⟨Ao265, co265, eo265⟩ := Kd.R_slice HO109.out; subst eo265) | ((with_reducible refine gate_callee (f := 20) rfl ?_); refine goesL_ (some 26) rfl rfl Try.func20 (by kernel_rfl) rfl #[.agg #[.slice Ao262 t104.length co262, .slice Ao265 t107.length co265, .int .i64 t110, .int .i64 t111, .int .i64 t112], .agg #[.slice none 0 0, .slice none 0 0, .int .i64 0, .int .i64 0, .int .i64 0]] rfl (by (try simp only [List.map_toArray, List.map_cons, List.map_nil]); first | done | rfl | (simp only [List.length_drop, List.length_take]; rfl)) ?_; (refine (unicodetextref47_Same.calls k _ _ t104 _ _ t107 t110 t111 t112 _ _ ([] : List (S49)) _ _ ([] : List (S36)) 0 0 0 true _ ?side1 ?side2 ?side3 ?side4 ?side5 ?side6 ?side7 ?side8 A253.out).mono ?_); (case side1 => refine (Kd.S_reads' (e := 49) (base := w.heap.size) (ok := fun k_ => True) (n := t104.length) (c := co262) ?_).2.2; exact (by (with_reducible repeat (first | apply Kd.S_alloc | apply Kd.S_drewN | apply Kd.S_drew)); exact (Kd.S_mono (Kd.S_far (p := ⟨gb114, 4, none⟩) (Kd.S_far (p := ⟨gb114, 3, none⟩) (Kd.S_far (p := ⟨gb114, 2, none⟩) (Kd.S_far (p := ⟨gb114, 1, none⟩) (Kd.S_far (p := ⟨gb114, 0, none⟩) (Kd.S_types HO106.out BK114.out (by decide)) (fun _ hk => hk.2) (.slice Ao262 t104.length co262)) (fun _ hk => hk.2) (.slice Ao265 t107.length co265)) (fun _ hk => hk.2) (.int .i64 t110)) (fun _ hk => hk.2) (.int .i64 t111)) (fun _ hk => hk.2) (.int .i64 t112)) (fun _ h_ => h_.1)))); (case side2 => exact (Kd.S_reads' HO106.out).2.1); (case side3 => refine (Kd.R_reads' (e := 36) (base := w.heap.size) (ok := fun k_ => True) (n := t107.length) (c := co265) ?_).2.2; exact (by (with_reducible repeat (first | apply Kd.R_alloc | apply Kd.R_drewN | apply Kd.R_drew)); exact (Kd.R_mono (Kd.R_far (p := ⟨gb114, 4, none⟩) (Kd.R_far (p := ⟨gb114, 3, none⟩) (Kd.R_far (p := ⟨gb114, 2, none⟩) (Kd.R_far (p := ⟨gb114, 1, none⟩) (Kd.R_far (p := ⟨gb114, 0, none⟩) (Kd.R_types HO109.out BK114.out (by decide)) (fun _ hk => hk.2) (.slice Ao262 t104.length co262)) (fun _ hk => hk.2) (.slice Ao265 t107.length co265)) (fun _ hk => hk.2) (.int .i64 t110)) (fun _ hk => hk.2) (.int .i64 t111)) (fun _ hk => hk.2) (.int .i64 t112)) (fun _ h_ => h_.1)))); (case side4 => exact (Kd.R_reads' HO109.out).2.1); (case side5 => exact Kd.C_nil _ _); (case side6 => exact Nat.le_refl _); (case side7 => exact Kd.C_nil _ _); (case side8 => exact Nat.le_refl _); rintro e w266 ⟨rfl, hb⟩; refine ⟨_, rfl, ?_⟩; have n0_ := Aside0.mk (Kd.S_below (by (with_reducible repeat (first | apply Kd.S_alloc | apply Kd.S_drewN | apply Kd.S_drew)); exact (Kd.S_mono (Kd.S_far (p := ⟨gb114, 4, none⟩) (Kd.S_far (p := ⟨gb114, 3, none⟩) (Kd.S_far (p := ⟨gb114, 2, none⟩) (Kd.S_far (p := ⟨gb114, 1, none⟩) (Kd.S_far (p := ⟨gb114, 0, none⟩) (Kd.S_types HO106.out BK114.out (by decide)) (fun _ hk => hk.2) (.slice Ao262 t104.length co262)) (fun _ hk => hk.2) (.slice Ao265 t107.length co265)) (fun _ hk => hk.2) (.int .i64 t110)) (fun _ hk => hk.2) (.int .i64 t111)) (fun _ hk => hk.2) (.int .i64 t112)) (fun _ h_ => h_.1))) hb); have n1_ := Aside0.mk (Kd.R_below (by (with_reducible repeat (first | apply Kd.R_alloc | apply Kd.R_drewN | apply Kd.R_drew)); exact (Kd.R_mono (Kd.R_far (p := ⟨gb114, 4, none⟩) (Kd.R_far (p := ⟨gb114, 3, none⟩) (Kd.R_far (p := ⟨gb114, 2, none⟩) (Kd.R_far (p := ⟨gb114, 1, none⟩) (Kd.R_far (p := ⟨gb114, 0, none⟩) (Kd.R_types HO109.out BK114.out (by decide)) (fun _ hk => hk.2) (.slice Ao262 t104.length co262)) (fun _ hk => hk.2) (.slice Ao265 t107.length co265)) (fun _ hk => hk.2) (.int .i64 t110)) (fun _ hk => hk.2) (.int .i64 t111)) (fun _ hk => hk.2) (.int .i64 t112)) (fun _ h_ => h_.1))) hb); have n2_ := Aside0.mk (blk_below (g := gb101) (o := .cells #[.slice A0_0 l0_0.length c0_0, .slice A0_1 l0_1.length c0_1, .int .i64 a0_2, .int .i64 a0_3, .int .i64 a0_4] 25 (0, 0)) (by (with_reducible repeat (first | refine blk_drewN ?_ _ | refine blk_drew ?_ | refine blk_alloc ?_ _)); refine blk_far ?_ NB101_114.out _; (with_reducible repeat (first | refine blk_drewN ?_ _ | refine blk_drew ?_ | refine blk_alloc ?_ _)); refine blk_far ?_ NB101_114.out _; (with_reducible repeat (first | refine blk_drewN ?_ _ | refine blk_drew ?_ | refine blk_alloc ?_ _)); refine blk_far ?_ NB101_114.out _; (with_reducible repeat (first | refine blk_drewN ?_ _ | refine blk_drew ?_ | refine blk_alloc ?_ _)); refine blk_far ?_ NB101_114.out _; (with_reducible repeat (first | refine blk_drewN ?_ _ | refine blk_drew ?_ | refine blk_alloc ?_ _)); refine blk_far ?_ NB101_114.out _; (with_reducible repeat (first | refine blk_drewN ?_ _ | refine blk_drew ?_ | refine blk_alloc ?_ _)); exact BK101.out) hb); have n3_ := Aside0.mk (blk_below (g := gb114) (o := .cells #[.slice Ao262 t104.length co262, .slice Ao265 t107.length co265, .int .i64 t110, .int .i64 t111, .int .i64 t112] 25 (0, 0)) (by (with_reducible repeat (first | refine blk_drewN ?_ _ | refine blk_drew ?_ | refine blk_alloc ?_ _)); refine blk_put (cs := #[.slice Ao262 t104.length co262, .slice Ao265 t107.length co265, .int .i64 t110, .int .i64 t111, .int .i64 0]) ?_ 4 _ rfl; (with_reducible repeat (first | refine blk_drewN ?_ _ | refine blk_drew ?_ | refine blk_alloc ?_ _)); refine blk_put (cs := #[.slice Ao262 t104.length co262, .slice Ao265 t107.length co265, .int .i64 t110, .int .i64 0, .int .i64 0]) ?_ 3 _ rfl; (with_reducible repeat (first | refine blk_drewN ?_ _ | refine blk_drew ?_ | refine blk_alloc ?_ _)); refine blk_put (cs := #[.slice Ao262 t104.length co262, .slice Ao265 t107.length co265, .int .i64 0, .int .i64 0, .int .i64 0]) ?_ 2 _ rfl; (with_reducible repeat (first | refine blk_drewN ?_ _ | refine blk_drew ?_ | refine blk_alloc ?_ _)); refine blk_put (cs := #[.slice Ao262 t104.length co262, .slice none 0 0, .int .i64 0, .int .i64 0, .int .i64 0]) ?_ 1 _ rfl; (with_reducible repeat (first | refine blk_drewN ?_ _ | refine blk_drew ?_ | refine blk_alloc ?_ _)); refine blk_put (cs := #[.slice none 0 0, .slice none 0 0, .int .i64 0, .int .i64 0, .int .i64 0]) ?_ 0 _ rfl; (with_reducible repeat (first | refine blk_drewN ?_ _ | refine blk_drew ?_ | refine blk_alloc ?_ _)); exact BK114.out) hb); have n4_ := Aside0.mk (below_step (by repeat (first | (with_reducible first | exact HB.out | apply below_alloc | apply pw_below_drewN | apply below_drew1 | refine below_set ?_ GE101.out | refine below_set ?_ GE114.out) | exact HB.out)) hb); clear HO106; clear HO109; clear BK101; clear BK114; clear HB; have HO106 := n0_; have HO109 := n1_; have BK101 := n2_; have BK114 := n3_; have HB := n4_; clear n0_ n1_ n2_ n3_ n4_; (try clear hb); (try clear hb2); (try clear hk); (try clear hi)) | (go_at_call 11; (with_reducible refine (unicodetextlaw47_alive.calls k  t116 _ A255.out).mono ?_); rintro e w267 ⟨rfl, hb⟩; have n0_ := Aside0.mk (Kd.S_below (by (with_reducible repeat (first | apply Kd.S_alloc | apply Kd.S_drewN | apply Kd.S_drew)); exact HO106.out) hb); have n1_ := Aside0.mk (Kd.R_below (by (with_reducible repeat (first | apply Kd.R_alloc | apply Kd.R_drewN | apply Kd.R_drew)); exact HO109.out) hb); have n2_ := Aside0.mk (blk_below (g := gb101) (o := .cells #[.slice A0_0 l0_0.length c0_0, .slice A0_1 l0_1.length c0_1, .int .i64 a0_2, .int .i64 a0_3, .int .i64 a0_4] 25 (0, 0)) (by (with_reducible repeat (first | refine blk_drewN ?_ _ | refine blk_drew ?_ | refine blk_alloc ?_ _)); exact BK101.out) hb); have n3_ := Aside0.mk (blk_below (g := gb114) (o := .cells #[.slice Ao262 t104.length co262, .slice Ao265 t107.length co265, .int .i64 t110, .int .i64 t111, .int .i64 t112] 25 (0, 0)) (by (with_reducible repeat (first | refine blk_drewN ?_ _ | refine blk_drew ?_ | refine blk_alloc ?_ _)); exact BK114.out) hb); have n4_ := Aside0.mk (below_step (by repeat (first | (with_reducible first | exact HB.out | apply below_alloc | apply pw_below_drewN | apply below_drew1 | refine below_set ?_ GE101.out | refine below_set ?_ GE114.out) | exact HB.out)) hb); clear HO106; clear HO109; clear BK101; clear BK114; clear HB; have HO106 := n0_; have HO109 := n1_; have BK101 := n2_; have BK114 := n3_; have HB := n4_; clear n0_ n1_ n2_ n3_ n4_; (try clear hb); (try clear hb2); (try clear hk); (try clear hi)))
    go_ret
    exact ⟨by first | rfl | (simp [errW_none, errW_some] <;> rfl) | (simp [*, errW_none, errW_some] <;> rfl), by repeat (first | (with_reducible first | exact HB.out | apply below_alloc | apply pw_below_drewN | apply below_drew1 | refine below_set ?_ GE101.out | refine below_set ?_ GE114.out) | exact HB.out)⟩
   ·rw [if_neg c254] at H
    exact absurd H (by simp)
 ·replace c4 := Bool.eq_false_iff.mpr c4
  subst c4
  have H1 : ((unicodetextlaw47_alive.f k).bind fun t103 => (some t103)) = some r := by rw [if_neg (show ¬ (false = true) by decide)] at H; exact H
  clear H
  have H := H1
  clear H1
  replace H := Option.bind_eq_some_iff.mp H
  obtain ⟨t103, A2790, H⟩ := H
  replace H : (some t103) = some r := H
  have A279 := Aside0.mk A2790
  clear A2790
  obtain rfl := Option.some.inj H
  go_enter Try.func8, Try.ntmps8
  go_wp2_with (first | ((with_reducible refine gate_dst (N := 2) rfl ?_); refine box_event ?hg (N := 2) ?hd (cs := #[.slice A0_0 l0_0.length c0_0, .slice A0_1 l0_1.length c0_1, .int .i64 a0_2, .int .i64 a0_3, .int .i64 a0_4]) (t := 25) ?hr ?_; (case hd => rfl); (case hg => rfl); (case hr => first | (go_simp; done) | (go_simp; rfl)); intro gb101 hg w280 hbox hb; have n0_ := Aside0.mk (below_step (by repeat (first | (with_reducible first | exact HB.out | apply below_alloc | apply pw_below_drewN | apply below_drew1) | exact HB.out)) hb); have n1_ := Aside0.mk (hbox); have n2_ := Aside0.mk ((by rw [hg]; exact (below_size (by repeat (first | (with_reducible first | exact HB.out | apply below_alloc | apply pw_below_drewN | apply below_drew1) | exact HB.out))) : w.heap.size ≤ gb101)); have n3_ := Aside0.mk ((by rw [hg]; exact (below_size (by repeat (first | (with_reducible first | exact HB.out | apply below_alloc | apply pw_below_drewN | apply below_drew1) | exact HB.out))) : w.heap.size ≤ gb101)); clear HB; have HB := n0_; have BK101 := n1_; have GW101 := n2_; have GE101 := n3_; clear n0_ n1_ n2_ n3_; clear hb hbox hg; have hcz281_0 : w280.cell? ⟨gb101, 0, none⟩ = some (.slice A0_0 l0_0.length c0_0) := (blk_cell BK101.out 0).trans rfl; have hcz281_1 : w280.cell? ⟨gb101, 1, none⟩ = some (.slice A0_1 l0_1.length c0_1) := (blk_cell BK101.out 1).trans rfl; have hcz281_2 : w280.cell? ⟨gb101, 2, none⟩ = some (.int .i64 a0_2) := (blk_cell BK101.out 2).trans rfl; have hcz281_3 : w280.cell? ⟨gb101, 3, none⟩ = some (.int .i64 a0_3) := (blk_cell BK101.out 3).trans rfl; have hcz281_4 : w280.cell? ⟨gb101, 4, none⟩ = some (.int .i64 a0_4) := (blk_cell BK101.out 4).trans rfl; have hfz281_0 := blk_frozen BK101.out 0; have hfz281_1 := blk_frozen BK101.out 1; have hfz281_2 := blk_frozen BK101.out 2; have hfz281_3 := blk_frozen BK101.out 3; have hfz281_4 := blk_frozen BK101.out 4) | ((with_reducible refine gate_callee (f := 10) rfl ?_); refine goesL_ (some 13) rfl rfl Try.func10 (by kernel_rfl) rfl #[.agg #[.slice A0_0 l0_0.length c0_0, .slice A0_1 l0_1.length c0_1, .int .i64 a0_2, .int .i64 a0_3, .int .i64 a0_4], .slice A1 l1.length c1] rfl (by (try simp only [List.map_toArray, List.map_cons, List.map_nil]); first | done | rfl | (simp only [List.length_drop, List.length_take]; rfl)) ?_; (with_reducible refine (unicodetextlaw47_few.calls k _ _ l0_0 _ _ l0_1 a0_2 a0_3 a0_4 _ _ l1 false _ ?side1 ?side2 ?side3 ?side4 ?side5 ?side6 A3.out).mono ?_); (case side1 => repeat (first | exact (Kd.C_below HR0_0.out HB.out) | (with_reducible refine Kd.C_alloc ?_ _) | (with_reducible refine Kd.C_drewN ?_ _) | (with_reducible refine Kd.C_drew ?_))); (case side2 => exact HC0_0.out); (case side3 => repeat (first | exact (Kd.C_below HR0_1.out HB.out) | (with_reducible refine Kd.C_alloc ?_ _) | (with_reducible refine Kd.C_drewN ?_ _) | (with_reducible refine Kd.C_drew ?_))); (case side4 => exact HC0_1.out); (case side5 => repeat (first | exact (Kd.C_below HR1.out HB.out) | (with_reducible refine Kd.C_alloc ?_ _) | (with_reducible refine Kd.C_drewN ?_ _) | (with_reducible refine Kd.C_drew ?_))); (case side6 => exact HC1.out); rintro e w282 ⟨rfl, hb⟩; refine ⟨_, rfl, ?_⟩; have n0_ := Aside0.mk (blk_below (g := gb101) (o := .cells #[.slice A0_0 l0_0.length c0_0, .slice A0_1 l0_1.length c0_1, .int .i64 a0_2, .int .i64 a0_3, .int .i64 a0_4] 25 (0, 0)) (by (with_reducible repeat (first | refine blk_drewN ?_ _ | refine blk_drew ?_ | refine blk_alloc ?_ _)); exact BK101.out) hb); have n1_ := Aside0.mk (below_step (by repeat (first | (with_reducible first | exact HB.out | apply below_alloc | apply pw_below_drewN | apply below_drew1 | refine below_set ?_ GE101.out) | exact HB.out)) hb); clear BK101; clear HB; have BK101 := n0_; have HB := n1_; clear n0_ n1_; (try clear hb); (try clear hb2); (try clear hk); (try clear hi)) | ((with_reducible refine gate_callee (f := 11) rfl ?_); refine goesL_ (some 15) rfl rfl Try.func11 (by kernel_rfl) rfl #[] rfl (by (try simp only [List.map_toArray, List.map_cons, List.map_nil]); first | done | rfl | (simp only [List.length_drop, List.length_take]; rfl)) ?_; (with_reducible refine (unicodetextlaw47_alive.calls k  t103 _ A279.out).mono ?_); rintro e w283 ⟨rfl, hb⟩; refine ⟨_, rfl, ?_⟩; have n0_ := Aside0.mk (blk_below (g := gb101) (o := .cells #[.slice A0_0 l0_0.length c0_0, .slice A0_1 l0_1.length c0_1, .int .i64 a0_2, .int .i64 a0_3, .int .i64 a0_4] 25 (0, 0)) (by (with_reducible repeat (first | refine blk_drewN ?_ _ | refine blk_drew ?_ | refine blk_alloc ?_ _)); exact BK101.out) hb); have n1_ := Aside0.mk (below_step (by repeat (first | (with_reducible first | exact HB.out | apply below_alloc | apply pw_below_drewN | apply below_drew1 | refine below_set ?_ GE101.out) | exact HB.out)) hb); clear BK101; clear HB; have BK101 := n0_; have HB := n1_; clear n0_ n1_; (try clear hb); (try clear hb2); (try clear hk); (try clear hi)))
  go_ret
  exact ⟨by first | rfl | (simp [errW_none, errW_some] <;> rfl) | (simp [*, errW_none, errW_some] <;> rfl), by repeat (first | (with_reducible first | exact HB.out | apply below_alloc | apply pw_below_drewN | apply below_drew1 | refine below_set ?_ GE101.out) | exact HB.out)⟩
end Go.Proofs.Ytfcpebjjcijgcaa.G
-- by hand: lemmas
namespace Go.Proofs.Ytfcpebjjcijgcaa.G
open Go.RowKit Go.Proofs.YtfcpebjjcijgcaaW.PrintWords Go.Proofs.YtfcpebjjcijgcaaW.PrintLast Go.Proofs.YtfcpebjjcijgcaaW.PrintMore
attribute [local go_sem] max2_int min2_int max_two min_two max_three min_three max_four min_four   -- for this text's walks alone
set_option linter.unusedVariables false
set_option linter.unusedSimpArgs false
/-! What a reading of an argument says of its cells -/
theorem skolem_list {α : Type} {Q : Nat → α → Prop} : ∀ n, (∀ i, i < n → ∃ x, Q i x) → ∃ xs : List α, xs.length = n ∧ ∀ i x, xs[i]? = some x → Q i x
  | 0, _ => ⟨[], rfl, fun i x h => by simp at h⟩
  | n + 1, h => by
    obtain ⟨xs, hl, hx⟩ := skolem_list n fun i hi => h i (by omega)
    obtain ⟨y, hy⟩ := h n (by omega)
    refine ⟨xs ++ [y], by simp [hl], fun i x hi => ?_⟩
    by_cases hlt : i < xs.length
    · rw [List.getElem?_append_left hlt] at hi
      exact hx i x hi
    · rw [List.getElem?_append_right (by omega)] at hi
      obtain ⟨h0, _⟩ := List.getElem?_eq_some_iff.1 hi
      have h0 : i - xs.length < 1 := h0
      have e : i = n := by omega
      subst e
      rw [hl, Nat.sub_self] at hi
      obtain rfl := Option.some.inj hi
      exact hy
section
variable {H : Type} {enc : TypeId × Value → H} {P : Program} {w : World} {sp : Nat → Bool} {held : Bool}
/-- Cells of a type read as something of the kind d. -/
def Opens {α : Type} (enc : TypeId × Value → H) (P : Program) (w : World) (sp : Nat → Bool) (held : Bool) (t : TypeId) (d : Kd α) (Good : α → Prop) : Prop :=
  ∀ fuel cs y, DataW.trod enc P w 0 sp held fuel t cs = some y → ∃ x, d.K w x cs ∧ Good x
theorem opens_int {t : TypeId} {k : IntKind} (ht : P.underlying t = some (.int k)) : Opens enc P w sp held t (Kd.int k) (fun n => (Lit.int k n).wf = true) := fun fuel cs y h => by
  obtain ⟨n, rfl, _, hw⟩ := DataW.trod_int ht h
  exact ⟨n, rfl, hw⟩
theorem opens_string {t : TypeId} (ht : P.underlying t = some .string) : Opens enc P w sp held t Kd.string (fun s => s.size ≤ 9223372036854775807) := fun fuel cs y h => by
  obtain ⟨s, rfl, _, hw⟩ := DataW.trod_string ht h
  exact ⟨s, rfl, hw⟩
theorem opens_bool {t : TypeId} (ht : P.underlying t = some .bool) : Opens enc P w sp held t Kd.bool (fun _ => True) := fun fuel cs y h => by
  obtain ⟨b, rfl, _⟩ := DataW.trod_bool ht h
  exact ⟨b, rfl, trivial⟩
theorem opens_rows {α : Type} {d : Kd α} {Good : α → Prop} {t e : TypeId} (ht : P.underlying t = some (.slice e)) (hc : P.cellsOf e = d.sz) (he : Opens enc P w sp held e d Good) {fuel : Nat} {cs : List Value} {y : DataW H × List MemPlace} (h : DataW.trod enc P w 0 sp held fuel t cs = some y) :
    ∃ A cap, ∃ xs : List α, cs = [.slice A xs.length cap] ∧ xs.length ≤ cap ∧ d.C w A xs.length xs ∧ ∀ x, x ∈ xs → Good x := by
  rcases DataW.trod_slice ht h with ⟨rfl, _⟩ | ⟨a, len, cap, elems, rest, n, _, rfl, rfl, hb, hl, hm, hlen, hel, _, _⟩
  · exact ⟨none, 0, [], rfl, Nat.le_refl _, Kd.C_nil d w, fun x hx => by cases hx⟩
  · obtain ⟨xs, hxl, hx⟩ := skolem_list (α := α) (Q := fun i x => (∃ c, c.length = d.sz ∧ d.K w x c ∧ ∀ j u, c[j]? = some u → w.cell? (a.add (i * d.sz + j)) = some u) ∧ Good x) len (fun i hi => by
      have h1 := hel i hi
      rw [List.getElem?_eq_getElem (by omega), Option.bind_eq_some_iff] at h1
      obtain ⟨c, h2, h3⟩ := h1
      obtain ⟨x, hK, hg⟩ := he _ _ _ h3
      obtain ⟨_, hcl, hcc⟩ := World.cells?_some h2
      refine ⟨x, ⟨c, by omega, hK, fun j u hu => ?_⟩, hg⟩
      obtain ⟨hj, _⟩ := List.getElem?_eq_some_iff.1 hu
      have := hcc j (by omega)
      rw [hu, hc] at this
      rw [← this, Addr.add_add])
    subst hxl
    refine ⟨some a, cap, xs, rfl, hl, ⟨rfl, by unfold maxLen at hm; omega, fun _ => ⟨a, rfl, fun j p hp => (hx j p hp).1⟩⟩, fun x hxm => ?_⟩
    obtain ⟨i, hi⟩ := List.getElem?_of_mem hxm
    exact (hx i x hi).2
theorem opens_slice {α : Type} {d : Kd α} {Good : α → Prop} {t e : TypeId} (ht : P.underlying t = some (.slice e)) (hc : P.cellsOf e = d.sz) (he : Opens enc P w sp held e d Good) : Opens enc P w sp held t (Kd.slice e d) (fun xs => ∀ x, x ∈ xs → Good x) := fun fuel cs y h => by
  obtain ⟨A, cap, xs, rfl, h1, h2, h3⟩ := opens_rows ht hc he h
  exact ⟨xs, ⟨A, cap, rfl, h1, h2⟩, h3⟩
/-- The part of a field. -/
theorem field_at {t : TypeId} {fs : Array Field} {fuel : Nat} {cs : List Value} {y : DataW H × List MemPlace} (ht : P.underlying t = some (.struct fs)) (h : DataW.trod enc P w 0 sp held fuel t cs = some y) :
    cs.length = P.cellsOf t ∧ ∀ (i : Nat) (f : Field), fs[i]? = some f → ∀ {α : Type} {d : Kd α} {Good : α → Prop}, Opens enc P w sp held f.type d Good → ∃ x, d.K w x ((cs.drop f.offset).take (P.cellsOf f.type)) ∧ Good x := by
  obtain ⟨xs, n, rfl, _, hl, hxl, hx⟩ := DataW.trod_struct ht h
  refine ⟨hl, fun i f hf α d Good hO => ?_⟩
  have h1 := hx i f hf
  have hi : i < fs.size := (Array.getElem?_eq_some_iff.1 hf).1
  rw [List.getElem?_eq_getElem (by omega)] at h1
  exact hO _ _ _ h1
end
section
variable {H : Type} {enc : TypeId × Value → H} {w : World} {sp : Nat → Bool} {held : Bool}
theorem opens_group : Opens enc Try.prog w sp held 36 k36 (fun g => g.f0.size ≤ 9223372036854775807) := fun fuel cs y h => by
  obtain ⟨hl, hf⟩ := field_at Try.underlying36 h
  have hl : cs.length = 3 := hl
  obtain ⟨s, h0, g0⟩ := hf 0 _ rfl (opens_string Try.underlying9)
  obtain ⟨a, h1, _⟩ := hf 1 _ rfl (opens_int Try.underlying3)
  obtain ⟨b, h2, _⟩ := hf 2 _ rfl (opens_int Try.underlying3)
  match cs, hl with
  | [c0, c1, c2], _ =>
    have h0 : [c0] = [.string s] := h0
    have h1 : [c1] = [.int .i64 a] := h1
    have h2 : [c2] = [.int .i64 b] := h2
    obtain ⟨rfl, _⟩ := List.cons.inj h0
    obtain ⟨rfl, _⟩ := List.cons.inj h1
    obtain ⟨rfl, _⟩ := List.cons.inj h2
    exact ⟨⟨s, a, b⟩, k36_mk w ⟨s, a, b⟩, g0⟩
theorem opens_element : Opens enc Try.prog w sp held 51 k51 (fun _ => True) := fun fuel cs y h => by
  obtain ⟨hl, hf⟩ := field_at Try.underlying51 h
  have hl : cs.length = 4 := hl
  obtain ⟨a, h0, _⟩ := hf 0 _ rfl (opens_int Try.underlying3)
  obtain ⟨b, h1, _⟩ := hf 1 _ rfl (opens_int Try.underlying3)
  obtain ⟨c, h2, _⟩ := hf 2 _ rfl (opens_int Try.underlying3)
  obtain ⟨v, h3, _⟩ := hf 3 _ rfl (opens_bool Try.underlying4)
  match cs, hl with
  | [c0, c1, c2, c3], _ =>
    have h0 : [c0] = [.int .i64 a] := h0
    have h1 : [c1] = [.int .i64 b] := h1
    have h2 : [c2] = [.int .i64 c] := h2
    have h3 : [c3] = [.bool v] := h3
    obtain ⟨rfl, _⟩ := List.cons.inj h0
    obtain ⟨rfl, _⟩ := List.cons.inj h1
    obtain ⟨rfl, _⟩ := List.cons.inj h2
    obtain ⟨rfl, _⟩ := List.cons.inj h3
    exact ⟨⟨a, b, c, v⟩, k51_mk w ⟨a, b, c, v⟩, trivial⟩
theorem opens_entry : Opens enc Try.prog w sp held 49 k49 (fun _ => True) := fun fuel cs y h => by
  obtain ⟨hl, hf⟩ := field_at Try.underlying49 h
  have hl : cs.length = 2 := hl
  obtain ⟨xs, h0, _⟩ := hf 0 _ rfl (opens_slice Try.underlying46 (by kernel_rfl) (opens_int Try.underlying3))
  obtain ⟨es, h1, _⟩ := hf 1 _ rfl (opens_slice Try.underlying47 (by kernel_rfl) opens_element)
  match cs, hl with
  | [c0, c1], _ =>
    obtain ⟨A0, p0, e0, l0, g0⟩ := h0
    obtain ⟨A1, p1, e1, l1, g1⟩ := h1
    have e0 : [c0] = [.slice A0 xs.length p0] := e0
    have e1 : [c1] = [.slice A1 es.length p1] := e1
    obtain ⟨rfl, _⟩ := List.cons.inj e0
    obtain ⟨rfl, _⟩ := List.cons.inj e1
    exact ⟨⟨xs, es⟩, k49_mk w ⟨xs, es⟩ l0 g0 l1 g1, trivial⟩
/-- A collation that came in. -/
theorem opens_coll {fuel : Nat} {cs : List Value} {y : DataW H × List MemPlace} (h : DataW.trod enc Try.prog w 0 sp held fuel 25 cs = some y) :
    ∃ A0 c0, ∃ E : List S49, ∃ A1 c1, ∃ G : List S36, ∃ b2 b3 b4 : Int, cs = [.slice A0 E.length c0, .slice A1 G.length c1, .int .i64 b2, .int .i64 b3, .int .i64 b4] ∧ E.length ≤ c0 ∧ Kd.C k49 w A0 E.length E ∧ G.length ≤ c1 ∧ Kd.C k36 w A1 G.length G ∧ ∀ g, g ∈ G → g.f0.size ≤ 9223372036854775807 := by
  obtain ⟨hl, hf⟩ := field_at Try.underlying25 h
  have hl : cs.length = 5 := hl
  obtain ⟨E, h0, _⟩ := hf 0 _ rfl (opens_slice Try.underlying22 (by kernel_rfl) opens_entry)
  obtain ⟨G, h1, hg⟩ := hf 1 _ rfl (opens_slice Try.underlying23 (by kernel_rfl) opens_group)
  obtain ⟨b2, h2, _⟩ := hf 2 _ rfl (opens_int Try.underlying3)
  obtain ⟨b3, h3, _⟩ := hf 3 _ rfl (opens_int Try.underlying3)
  obtain ⟨b4, h4, _⟩ := hf 4 _ rfl (opens_int Try.underlying3)
  match cs, hl with
  | [d0, d1, d2, d3, d4], _ =>
    obtain ⟨A0, p0, e0, l0, g0⟩ := h0
    obtain ⟨A1, p1, e1, l1, g1⟩ := h1
    have e0 : [d0] = [.slice A0 E.length p0] := e0
    have e1 : [d1] = [.slice A1 G.length p1] := e1
    have h2 : [d2] = [.int .i64 b2] := h2
    have h3 : [d3] = [.int .i64 b3] := h3
    have h4 : [d4] = [.int .i64 b4] := h4
    obtain ⟨rfl, _⟩ := List.cons.inj e0
    obtain ⟨rfl, _⟩ := List.cons.inj e1
    obtain ⟨rfl, _⟩ := List.cons.inj h2
    obtain ⟨rfl, _⟩ := List.cons.inj h3
    obtain ⟨rfl, _⟩ := List.cons.inj h4
    exact ⟨A0, p0, E, A1, p1, G, b2, b3, b4, rfl, l0, g0, l1, g1, hg⟩
/-- Names that came in. -/
theorem opens_names {fuel : Nat} {cs : List Value} {y : DataW H × List MemPlace} (h : DataW.trod enc Try.prog w 0 sp held fuel 26 cs = some y) :
    ∃ A c, ∃ l : List ByteArray, cs = [.slice A l.length c] ∧ l.length ≤ c ∧ Kd.C Kd.string w A l.length l ∧ ∀ s, s ∈ l → s.size ≤ 9223372036854775807 :=
  opens_rows Try.underlying26 (by kernel_rfl) (opens_string Try.underlying9) h
end
end Go.Proofs.Ytfcpebjjcijgcaa.G
-- unicodetext/unicodetextref47.Move: by hand
namespace Go.Proofs.Ytfcpebjjcijgcaa.G
open Go.RowKit Go.Proofs.YtfcpebjjcijgcaaW.PrintWords Go.Proofs.YtfcpebjjcijgcaaW.PrintLast Go.Proofs.YtfcpebjjcijgcaaW.PrintMore
attribute [local go_sem] max2_int min2_int max_two min_two max_three min_three max_four min_four   -- for this text's walks alone
set_option linter.unusedVariables false
set_option linter.unusedSimpArgs false
-- BY HAND: function 16 (unicodetextref47_Move)
/-- The group that a weight lies in. -/
def inG (x : Int) (g : S36) : Bool := decide (g.f1 ≤ x) && decide (x ≤ g.f2)
end Go.Proofs.Ytfcpebjjcijgcaa.G
-- by hand: lemmas
namespace Go.Proofs.Ytfcpebjjcijgcaa.G
open Go.RowKit Go.Proofs.YtfcpebjjcijgcaaW.PrintWords Go.Proofs.YtfcpebjjcijgcaaW.PrintLast Go.Proofs.YtfcpebjjcijgcaaW.PrintMore
attribute [local go_sem] max2_int min2_int max_two min_two max_three min_three max_four min_four   -- for this text's walks alone
set_option linter.unusedVariables false
set_option linter.unusedSimpArgs false
/-! The whole check, twice -/
section
variable (E : List S49) (G : List S36) (base b3 b4 : Int) (cs : List Int) (es : List S51) (x : Int)
end
/-- The entry before entry i. -/
def prevOf (l : List S49) (i : Nat) : Option S49 := if i = 0 then none else l[i - 1]?
/-- The first error of entries behind p. -/
def entErrs (base : Int) : Option S49 → List S49 → Int
  | _, [] => 0
  | p, e :: l => if enErr base e.f0 e.f1 ≠ 0 then enErr base e.f0 e.f1 else match p with
    | some q => if 0 ≤ cmpL q.f0 e.f0 then 4 else entErrs base (some e) l
    | none => entErrs base (some e) l
/-- The first error of a collation. -/
def chk (E : List S49) (G : List S36) (base b3 b4 : Int) : Int :=
  if base < 1 ∨ 65502 < base ∨ b3 < 1 ∨ 65535 < b3 ∨ b4 < 1 ∨ 65535 < b4 then 1 else if grErr G base = 0 then entErrs base none E else grErr G base
/-- Nothing of the entries is longer than any machine bears. -/
def eFits (E : List S49) : Prop := E.length ≤ 1099511627776 ∧ ∀ e, e ∈ E → e.f0.length ≤ 1099511627776 ∧ e.f1.length ≤ 1099511627776
theorem prevOf_succ {l : List S49} {i : Nat} (h : i < l.length) : prevOf l (i + 1) = some l[i] := by
  unfold prevOf
  rw [if_neg (by omega), Nat.add_sub_cancel, List.getElem?_eq_getElem h]
section
variable (E : List S49) (G : List S36) (base b3 b4 : Int) (hE : eFits E)
include hE
theorem cchk_loop : ∀ (d i : Nat), E.length - i = d → Ev (fun k => colltable_Check.l0 k E (E.length : Int) (i : Int) E G base b3 b4) (entErrs base (prevOf E i) (E.drop i)) := by
  have hl := hE.1
  intro d
  induction d with
  | zero =>
    intro i hd
    rw [List.drop_of_length_le (by omega)]
    refine Ev.step (f := fun _ => some 0) (fun k => ?_) (by unfold entErrs; exact Ev.now _)
    simp only [colltable_Check.l0]
    rw [if_neg (by omega)]
  | succ d ih =>
    intro i hd
    have hi : i < E.length := by omega
    rw [List.drop_eq_getElem_cons hi]
    have hn := ih (i + 1) (by omega)
    rw [prevOf_succ hi] at hn
    unfold entErrs
    by_cases he : enErr base E[i].f0 E[i].f1 = 0
    · rw [if_neg (by rw [he]; simp)]
      cases i with
      | zero =>
        have hp : prevOf E 0 = none := rfl
        rw [hp]
        refine Ev.step (f := fun k => colltable_Check.l0 k E (E.length : Int) ((0 + 1 : Nat) : Int) E G base b3 b4) (fun k => ?_) hn
        simp only [colltable_Check.l0]
        rw [rdT49 hi, if_pos (by omega), if_pos (by omega), if_pos (by omega), wrap_nat (by omega)]
        simp only [colltable_ofEntry.f, Option.bind_some]
        rw [if_pos he, if_neg (by omega)]
      | succ j =>
        have hj : j < E.length := by omega
        rw [prevOf_succ hj]
        by_cases hc : 0 ≤ cmpL E[j].f0 E[j + 1].f0
        · simp only [if_pos hc]
          refine Ev.step (f := fun _ => some 4) (fun k => ?_) (Ev.now _)
          simp only [colltable_Check.l0]
          rw [rdT49 hi, if_pos (by omega), if_pos (by omega), if_pos (by omega), wrap_pred (by omega), rdT49 hj]
          simp only [colltable_ofEntry.f, codepoint_Compare.f, Option.bind_some]
          rw [if_pos he, if_pos (by omega), if_pos (by omega), if_pos (by omega), if_pos hc]
        · simp only [if_neg hc]
          refine Ev.step (f := fun k => colltable_Check.l0 k E (E.length : Int) ((j + 1 + 1 : Nat) : Int) E G base b3 b4) (fun k => ?_) hn
          simp only [colltable_Check.l0]
          rw [rdT49 hi, if_pos (by omega), if_pos (by omega), if_pos (by omega), wrap_pred (by omega), rdT49 hj, wrap_nat (by omega)]
          simp only [colltable_ofEntry.f, codepoint_Compare.f, Option.bind_some]
          rw [if_pos he, if_pos (by omega), if_pos (by omega), if_pos (by omega), if_neg hc]
    · rw [if_pos he]
      refine Ev.step (f := fun _ => some (enErr base E[i].f0 E[i].f1)) (fun k => ?_) (Ev.now _)
      simp only [colltable_Check.l0]
      rw [rdT49 hi, if_pos (by omega), if_pos (by omega), if_pos (by omega)]
      simp only [colltable_ofEntry.f, Option.bind_some]
      rw [if_neg he]
theorem cchk_ev (hG : fits G = true) : Ev (fun k => colltable_Check.f k E G base b3 b4) (chk E G base b3 b4) := by
  have h0 : ∀ k, colltable_Check.f k E G base b3 b4 = colltable_Check.j0 k (decide (base < 1 ∨ 65502 < base ∨ b3 < 1 ∨ 65535 < b3 ∨ b4 < 1 ∨ 65535 < b4)) E G base b3 b4 := fun k => by
    unfold colltable_Check.f
    repeat' split
    all_goals first | (rw [decide_eq_true (by omega)]; done) | (congr 1; rw [Bool.eq_iff_iff, decide_eq_true_iff, decide_eq_true_iff]; omega)
  refine Ev.congr h0 ?_
  unfold chk
  by_cases hb : base < 1 ∨ 65502 < base ∨ b3 < 1 ∨ 65535 < b3 ∨ b4 < 1 ∨ 65535 < b4
  · rw [decide_eq_true hb, if_pos hb]
    refine Ev.step (f := fun _ => some 1) (fun k => ?_) (Ev.now _)
    simp only [colltable_Check.j0, if_true]
  · rw [decide_eq_false hb, if_neg hb]
    have hg : colltable_ofGroups.f E G base b3 b4 = some (grErr G base) := by
      unfold colltable_ofGroups.f
      rw [if_pos hG]
    by_cases hz : grErr G base = 0
    · rw [if_pos hz]
      refine Ev.step (f := fun k => colltable_Check.l0 k E (E.length : Int) ((0 : Nat) : Int) E G base b3 b4) (fun k => ?_) (cchk_loop E G base b3 b4 hE _ 0 rfl)
      simp only [colltable_Check.j0, Bool.false_eq_true, if_false]
      rw [hg, Option.bind_some, if_pos hz]
      rfl
    · rw [if_neg hz]
      refine Ev.step (f := fun _ => some (grErr G base)) (fun k => ?_) (Ev.now _)
      simp only [colltable_Check.j0, Bool.false_eq_true, if_false]
      rw [hg, Option.bind_some, if_neg hz]
end
/-! small collations -/
def smallP (E : List S49) (G : List S36) : Bool := decide (E.length ≤ 12) && decide (G.length ≤ 8) && E.all fun e => decide (e.f0.length ≤ 10) && decide (e.f1.length ≤ 20)
theorem small_ev (E : List S49) (G : List S36) (base b3 b4 : Int) : Ev (fun k => unicodetextref43_Small.f k E G base b3 b4) (smallP E G) := by
  have h0 : ∀ k, unicodetextref43_Small.f k E G base b3 b4 = unicodetextref43_Small.j0 k (!(decide (E.length ≤ 12) && decide (G.length ≤ 8))) E G base b3 b4 := fun k => by
    unfold unicodetextref43_Small.f
    by_cases h1 : E.length ≤ 12
    · rw [if_neg (by omega), decide_eq_true h1, Bool.true_and]
      congr 1
      rw [Bool.eq_iff_iff, decide_eq_true_iff, Bool.not_eq_true', decide_eq_false_iff_not]
      omega
    · rw [if_pos (by omega), decide_eq_false h1]
      rfl
  refine Ev.congr h0 ?_
  unfold smallP
  by_cases h : E.length ≤ 12 ∧ G.length ≤ 8
  · obtain ⟨h1, h2⟩ := h
    rw [decide_eq_true h1, decide_eq_true h2]
    have loop : ∀ (d i : Nat), E.length - i = d → Ev (fun k => unicodetextref43_Small.l0 k (i : Int) E G base b3 b4) ((E.drop i).all fun e => decide (e.f0.length ≤ 10) && decide (e.f1.length ≤ 20)) := by
      intro d
      induction d with
      | zero =>
        intro i hd
        rw [List.drop_of_length_le (by omega)]
        refine Ev.step (f := fun _ => some true) (fun k => ?_) (Ev.now _)
        simp only [unicodetextref43_Small.l0]
        rw [if_neg (by omega)]
      | succ d ih =>
        intro i hd
        have hi : i < E.length := by omega
        rw [List.drop_eq_getElem_cons hi, List.all_cons]
        by_cases ha : E[i].f0.length ≤ 10 ∧ E[i].f1.length ≤ 20
        · rw [decide_eq_true ha.1, decide_eq_true ha.2]
          refine Ev.step (f := fun k => unicodetextref43_Small.l0 k ((i + 1 : Nat) : Int) E G base b3 b4) (fun k => ?_) (by simpa using ih (i + 1) (by omega))
          simp only [unicodetextref43_Small.l0]
          rw [rdT49 hi, if_pos (by omega), if_pos (by omega), if_neg (by omega), if_neg (by omega), wrap_nat (by omega)]
        · rw [show (decide (E[i].f0.length ≤ 10) && decide (E[i].f1.length ≤ 20)) = false by rw [← Bool.decide_and]; exact decide_eq_false ha, Bool.false_and]
          refine Ev.step (f := fun _ => some false) (fun k => ?_) (Ev.now _)
          simp only [unicodetextref43_Small.l0]
          rw [rdT49 hi, if_pos (by omega), if_pos (by omega)]
          repeat' split
          all_goals first | rfl | (exfalso; omega)
    have := loop _ 0 rfl
    rw [List.drop_zero] at this
    refine Ev.step (f := fun k => unicodetextref43_Small.l0 k ((0 : Nat) : Int) E G base b3 b4) (fun k => ?_) (by simpa using this)
    simp only [unicodetextref43_Small.j0, Bool.and_self, Bool.not_true, Bool.false_eq_true, if_false]
    rfl
  · rw [show (decide (E.length ≤ 12) && decide (G.length ≤ 8)) = false by rw [← Bool.decide_and]; exact decide_eq_false h]
    refine Ev.step (f := fun _ => some false) (fun k => ?_) (Ev.now _)
    simp only [unicodetextref43_Small.j0, Bool.not_false, if_true]
theorem small_fits {E : List S49} {G : List S36} (h : smallP E G = true) : eFits E ∧ G.length ≤ 8 := by
  simp only [smallP, Bool.and_eq_true, List.all_eq_true, decide_eq_true_eq] at h
  refine ⟨⟨by omega, fun e he => ?_⟩, h.1.2⟩
  have := h.2 e he
  omega
theorem few_ev (E : List S49) (G : List S36) (base b3 b4 : Int) (names : List ByteArray) : Ev (fun k => unicodetextlaw47_few.f k E G base b3 b4 names) (smallP E G && decide (names.length ≤ 12)) := by
  refine Ev.bind (small_ev E G base b3 b4) ?_
  by_cases h : smallP E G = true
  · simp only [h, if_true, Bool.true_and]
    rw [show decide (names.length ≤ 12) = decide ((names.length : Int) ≤ 12) by rw [Bool.eq_iff_iff, decide_eq_true_iff, decide_eq_true_iff]; omega]
    exact Ev.now _
  · simp only [Bool.eq_false_iff.2 h, Bool.false_eq_true, if_false, Bool.false_and]
    exact Ev.now _
end Go.Proofs.Ytfcpebjjcijgcaa.G
-- by hand: lemmas
namespace Go.Proofs.Ytfcpebjjcijgcaa.G
open Go.RowKit Go.Proofs.YtfcpebjjcijgcaaW.PrintWords Go.Proofs.YtfcpebjjcijgcaaW.PrintLast Go.Proofs.YtfcpebjjcijgcaaW.PrintMore
attribute [local go_sem] max2_int min2_int max_two min_two max_three min_three max_four min_four   -- for this text's walks alone
set_option linter.unusedVariables false
set_option linter.unusedSimpArgs false
/-! The plain answer of the document's Order -/
/-- Where a name stands, or -1. -/
def posI (l : List S36) (s : ByteArray) : Int := if memB s (nms l) = true then ((nms l).findIdx fun t => decide (t = s) : Nat) else -1
/-- The group of a name. -/
theorem posI_get {l : List S36} {s : ByteArray} (h : memB s (nms l) = true) : ∃ j : Nat, ∃ hj : j < l.length, posI l s = (j : Int) ∧ l[j].f0 = s ∧ ∀ i (hi : i < j), l[i].f0 ≠ s := by
  have hlt : ((nms l).findIdx fun t => decide (t = s)) < (nms l).length := List.findIdx_lt_length_of_exists ⟨s, memB_iff.1 h, decide_eq_true rfl⟩
  have hlen : (nms l).length = l.length := by simp [nms]
  refine ⟨(nms l).findIdx fun t => decide (t = s), by omega, by unfold posI; rw [if_pos h], ?_, fun i hi e => ?_⟩
  · have := List.findIdx_getElem (w := hlt)
    have := of_decide_eq_true this
    simpa [nms] using this
  · have := List.not_of_lt_findIdx hi
    have e2 : (nms l)[i]'(by omega) = s := by simpa [nms] using e
    rw [decide_eq_true e2] at this
    cases this
/-- The group of a name (the last part of what the document builds). -/
def gOf (l : List S36) (s : ByteArray) : S36 := rd_T36 l (posI l s)
/-- What the document builds ahead of numbering. -/
def refRow (l : List S36) (names : List ByteArray) : List S36 := names.map (gOf l) ++ l.filter fun g => !memB g.f0 names
section
variable (E : List S49) (G : List S36) (base b3 b4 : Int) (names : List ByteArray) (hG : fits G = true) (hn : names.length ≤ 1099511627776)
end
section
variable (E : List S49) (G : List S36) (base b3 b4 : Int) (names : List ByteArray) (hn : names.length ≤ 1099511627776)
include hn
end
section
variable (E : List S49) (G : List S36) (base b3 b4 : Int) (names : List ByteArray) (hG : fits G = true) (hn : names.length ≤ 1099511627776)
include hG hn
end
/-- The document's order, when nothing is wrong. -/
def rordP (l : List S36) (names : List ByteArray) : List S36 × Int :=
  if names.any (fun s => !memB s (nms l)) = true then ([], 6) else if names.Nodup then (renum (rd_T36 l 0).f1 (refRow l names), 0) else ([], 5)
end Go.Proofs.Ytfcpebjjcijgcaa.G
-- by hand: lemmas
namespace Go.Proofs.Ytfcpebjjcijgcaa.G
open Go.RowKit Go.Proofs.YtfcpebjjcijgcaaW.PrintWords Go.Proofs.YtfcpebjjcijgcaaW.PrintLast Go.Proofs.YtfcpebjjcijgcaaW.PrintMore
attribute [local go_sem] max2_int min2_int max_two min_two max_three min_three max_four min_four   -- for this text's walks alone
set_option linter.unusedVariables false
set_option linter.unusedSimpArgs false
/-! The two orders are one -/
theorem filter_range {α : Type} (l : List α) (f : α → Nat) (n : Nat) : (List.range (n + 1)).flatMap (fun v => l.filter fun x => f x == v) = (List.range n).flatMap (fun v => l.filter fun x => f x == v) ++ l.filter (fun x => f x == n) := by
  rw [List.range_succ, List.flatMap_append]
  simp
theorem filter_one {l : List S36} (hd : (nms l).Nodup) {s : ByteArray} (hs : memB s (nms l) = true) : (l.filter fun g => decide (g.f0 = s)) = [gOf l s] := by
  obtain ⟨j, hj, he, hf, hlt⟩ := posI_get hs
  have hg : gOf l s = l[j] := by
    unfold gOf
    rw [he, rdT36 hj]
  rw [hg]
  have key : ∀ (m : List S36), (nms m).Nodup → ∀ g, g ∈ m → g.f0 = s → (m.filter fun g => decide (g.f0 = s)) = [g] := by
    intro m
    induction m with
    | nil => intro _ g hg; cases hg
    | cons a m ih =>
      intro hd g hg hf
      have hd' : ¬ a.f0 ∈ nms m ∧ (nms m).Nodup := List.nodup_cons.1 hd
      rcases List.mem_cons.1 hg with rfl | hg
      · rw [List.filter_cons_of_pos (by simp [hf])]
        congr 1
        rw [List.filter_eq_nil_iff]
        intro b hb h
        have hb2 : b.f0 = s := by simpa using h
        exact hd'.1 (by rw [hf, ← hb2]; exact List.mem_map.2 ⟨b, hb, rfl⟩)
      · rw [List.filter_cons_of_neg (by
          intro h
          have h : a.f0 = s := by simpa using h
          exact hd'.1 (by rw [h, ← hf]; exact List.mem_map.2 ⟨g, hg, rfl⟩))]
        exact ih hd'.2 g hg hf
  exact key l hd _ (List.getElem_mem hj) hf
theorem sortG_row {l : List S36} {names : List ByteArray} (hd : (nms l).Nodup) (hn : names.Nodup) (hall : ∀ s, s ∈ names → memB s (nms l) = true) : sortG names l = refRow l names := by
  unfold sortG bucket refRow
  rw [filter_range]
  congr 1
  · have h : ∀ i, i ≤ names.length → (List.range i).flatMap (fun v => l.filter fun x => idxN names x.f0 == v) = (names.take i).map (gOf l) := by
      intro i
      induction i with
      | zero => intro _; simp
      | succ i ih =>
        intro hi
        rw [filter_range, ih (by omega), take_name (show i < names.length by omega), List.map_append]
        congr 1
        rw [List.map_cons, List.map_nil, ← filter_one hd (hall names[i] (List.getElem_mem (by omega)))]
        refine List.filter_congr fun x _ => ?_
        rw [Bool.eq_iff_iff, beq_iff_eq, decide_eq_true_iff]
        constructor
        · intro he
          have hlt : idxN names x.f0 < names.length := by omega
          have h2 : names[idxN names x.f0]'hlt = x.f0 := of_decide_eq_true (List.findIdx_getElem (w := hlt))
          subst he
          exact h2.symm
        · intro he
          unfold idxN
          rw [List.findIdx_eq (show i < names.length by omega)]
          refine ⟨decide_eq_true he.symm, fun j hj => decide_eq_false fun e => ?_⟩
          have := (List.getElem_inj (h₀ := show j < names.length by omega) (h₁ := show i < names.length by omega) hn).1 (e.trans he)
          omega
    rw [h _ (Nat.le_refl _), List.take_length]
  · refine List.filter_congr fun x _ => ?_
    rw [Bool.eq_iff_iff, beq_iff_eq]
    constructor
    · intro he
      cases hm : memB x.f0 names with
      | false => rfl
      | true =>
        have := idxN_lt hm
        omega
    · intro he
      rw [Bool.not_eq_true'] at he
      exact idxN_not he
theorem grErr_zero {l : List S36} {base : Int} (h : grErr l base = 0) : (∀ g, g ∈ l → nameP g.f0 = true) ∧ (nms l).Nodup ∧ (∀ g, g ∈ l → 1 ≤ g.f1 ∧ g.f1 ≤ g.f2 ∧ g.f2 < base) ∧ inRow l = true := by
  unfold grErr at h
  split at h
  · cases h
  · rename_i h1
    split at h
    · cases h
    · rename_i h2
      split at h
      · cases h
      · rename_i h3
        split at h
        · rename_i h4
          refine ⟨fun g hg => ?_, ?_, fun g hg => ?_, h4⟩
          · cases hn : nameP g.f0 with
            | true => rfl
            | false => exact absurd (List.any_eq_true.2 ⟨g, hg, by rw [hn]; rfl⟩) h1
          · unfold dupG at h2
            simpa using h2
          · have hb : ¬ badR base g = true := fun e => h3 (List.any_eq_true.2 ⟨g, hg, e⟩)
            simp only [badR, Bool.or_eq_true, decide_eq_true_eq] at hb
            omega
        · cases h
theorem chk_zero {E : List S49} {G : List S36} {base b3 b4 : Int} (h : chk E G base b3 b4 = 0) : 1 ≤ base ∧ base ≤ 65502 ∧ grErr G base = 0 := by
  unfold chk at h
  split at h
  · cases h
  · split at h
    · rename_i h1 h2
      exact ⟨by omega, by omega, h2⟩
    · contradiction
/-- The answer to Order. -/
def ordA (E : List S49) (G : List S36) (base b3 b4 : Int) (names : List ByteArray) : List S36 × Int := if chk E G base b3 b4 = 0 then rordP G names else ([], chk E G base b3 b4)
section
variable (E : List S49) (G : List S36) (base b3 b4 : Int) (names : List ByteArray) (hE : eFits E) (hG : fits G = true) (h8 : G.length ≤ 8) (hN : namesFit names = true)
include hE hG h8 hN
theorem order_ev : Ev (fun k => groups_Order.f k E G base b3 b4 names) (ordA E G base b3 b4 names) := by
  refine Ev.bind (cchk_ev E G base b3 b4 hE hG) ?_
  unfold ordA
  by_cases hc : chk E G base b3 b4 = 0
  · simp only [hc, if_true]
    rw [if_pos ⟨hG, by omega, hN⟩]
    have hz := grErr_zero (chk_zero hc).2.2
    have : ordP G names = rordP G names := by
      unfold ordP rordP
      split
      · rfl
      · rename_i hall
        by_cases hnd : names.Nodup
        · rw [if_pos hnd, if_neg (by simp [hnd]), sortG_row hz.2.1 hnd (fun s hs => ?_)]
          cases hm : memB s (nms G) with
          | true => rfl
          | false => exact absurd (List.any_eq_true.2 ⟨s, hs, by rw [hm]; rfl⟩) hall
        · rw [if_neg hnd, if_pos (by simp [hnd])]
    rw [this]
    exact Ev.now _
  · simp only [hc, if_false]
    exact Ev.now _
end
theorem same_loop (l : List S36) (hl : l.length ≤ 2199023255552) : ∀ (d i : Nat), l.length - i = d → Ev (fun k => unicodetextref47_SameGroups.l0 k l l (i : Int)) true := by
  intro d
  induction d with
  | zero =>
    intro i hd
    refine Ev.step (f := fun _ => some true) (fun k => ?_) (Ev.now _)
    simp only [unicodetextref47_SameGroups.l0]
    rw [if_neg (by omega)]
  | succ d ih =>
    intro i hd
    refine Ev.step (f := fun k => unicodetextref47_SameGroups.l0 k l l ((i + 1 : Nat) : Int)) (fun k => ?_) (ih (i + 1) (by omega))
    simp only [unicodetextref47_SameGroups.l0]
    rw [if_pos (by omega), if_pos (by omega), if_pos (by omega), if_neg (by simp), wrap_nat (by omega)]
theorem same_ev (l : List S36) (hl : l.length ≤ 2199023255552) : Ev (fun k => unicodetextref47_SameGroups.f k l l) true := by
  refine Ev.congr (f := fun k => unicodetextref47_SameGroups.l0 k l l ((0 : Nat) : Int)) (fun k => ?_) (same_loop l hl _ 0 rfl)
  unfold unicodetextref47_SameGroups.f
  rw [if_pos rfl]
  rfl
theorem renum_length : ∀ (p : Int) (l : List S36), (renum p l).length = l.length
  | _, [] => rfl
  | _, _ :: l => by
    show (renum _ l).length + 1 = l.length + 1
    rw [renum_length _ l]
theorem alive_row : rordP aliveG aliveN = (aliveR, 0) := by kernel_rfl
theorem alive_order : ordA [] aliveG 100 1 1 aliveN = (aliveR, 0) := by
  unfold ordA
  have hc : chk [] aliveG 100 1 1 = 0 := by decide +kernel
  rw [if_pos hc]
  exact alive_row
theorem move_ev (E : List S49) (G : List S36) (base b3 b4 : Int) (names : List ByteArray) (x : Int) (hE : eFits E) (hG : fits G = true) (h8 : G.length ≤ 8) (hN : namesFit names = true) (hfit : fits (ordA E G base b3 b4 names).1 = true) : Ev (fun k => groups_Move.f k E G base b3 b4 names x) (if (ordA E G base b3 b4 names).2 = 0 then moveP G (ordA E G base b3 b4 names).1 x else x) := by
  refine Ev.bind (order_ev E G base b3 b4 names hE hG h8 hN) ?_
  by_cases h : (ordA E G base b3 b4 names).2 = 0
  · simp only [h, if_true]
    rw [if_pos ⟨hG, hfit⟩]
    exact Ev.now _
  · simp only [h, if_false]
    exact Ev.now _
theorem alive_ev : Ev (fun k => unicodetextlaw47_alive.f k) true := by
  have hE : eFits ([] : List S49) := ⟨by simp, fun e he => by cases he⟩
  have hG : fits aliveG = true := by decide +kernel
  have hN : namesFit aliveN = true := by decide +kernel
  have hO := order_ev [] aliveG 100 1 1 aliveN hE hG (by decide) hN
  have hM := fun x => move_ev [] aliveG 100 1 1 aliveN x hE hG (by decide) hN (by rw [alive_order]; decide +kernel)
  rw [alive_order] at hO
  simp only [alive_order, if_true] at hM
  have m0 : moveP aliveG aliveR 12 = 3 := by decide +kernel
  have m1 : moveP aliveG aliveR 9 = 29 := by decide +kernel
  have m2 : moveP aliveG aliveR 30 = 30 := by decide +kernel
  have h0 := hM 12
  have h1 := hM 9
  have h2 := hM 30
  rw [m0] at h0
  rw [m1] at h1
  rw [m2] at h2
  refine Ev.bind hO ?_
  simp only [if_true]
  refine Ev.bind (same_ev aliveR (by decide)) ?_
  simp only [if_true]
  refine Ev.bind h0 ?_
  simp only [if_true]
  refine Ev.bind h1 ?_
  simp only [if_true]
  refine Ev.bind h2 ?_
  simp only [if_true]
  exact Ev.now _
end Go.Proofs.Ytfcpebjjcijgcaa.G
-- by hand: lemmas
namespace Go.Proofs.Ytfcpebjjcijgcaa.G
open Go.RowKit Go.Proofs.YtfcpebjjcijgcaaW.PrintWords Go.Proofs.YtfcpebjjcijgcaaW.PrintLast Go.Proofs.YtfcpebjjcijgcaaW.PrintMore
attribute [local go_sem] max2_int min2_int max_two min_two max_three min_three max_four min_four   -- for this text's walks alone
set_option linter.unusedVariables false
set_option linter.unusedSimpArgs false
/-! What the new order is -/
theorem nms_renum : ∀ (p : Int) (l : List S36), nms (renum p l) = nms l
  | _, [] => rfl
  | _, g :: l => by
    show g.f0 :: nms (renum _ l) = g.f0 :: nms l
    rw [nms_renum _ l]
theorem gOf_mem {G : List S36} {s : ByteArray} (h : memB s (nms G) = true) : gOf G s ∈ G ∧ (gOf G s).f0 = s := by
  obtain ⟨j, hj, he, hf, _⟩ := posI_get h
  unfold gOf
  rw [he, rdT36 hj]
  exact ⟨List.getElem_mem hj, hf⟩
theorem refRow_mem {G : List S36} {names : List ByteArray} (hall : ∀ s, s ∈ names → memB s (nms G) = true) {g : S36} (h : g ∈ refRow G names) : g ∈ G := by
  rcases List.mem_append.1 h with h | h
  · obtain ⟨s, hs, rfl⟩ := List.mem_map.1 h
    exact (gOf_mem (hall s hs)).1
  · exact (List.mem_filter.1 h).1
theorem nms_refRow {G : List S36} {names : List ByteArray} (hall : ∀ s, s ∈ names → memB s (nms G) = true) : nms (refRow G names) = names ++ (nms G).filter fun s => !memB s names := by
  unfold refRow nms
  rw [List.map_append, List.map_map, List.filter_map]
  congr 1
  conv => rhs; rw [← List.map_id names]
  exact List.map_congr_left fun s hs => (gOf_mem (hall s hs)).2
theorem refRow_nodup {G : List S36} {names : List ByteArray} (hall : ∀ s, s ∈ names → memB s (nms G) = true) (hn : names.Nodup) (hG : (nms G).Nodup) : (nms (refRow G names)).Nodup := by
  rw [nms_refRow hall, List.nodup_append]
  refine ⟨hn, (List.filter_sublist).nodup hG, fun a ha b hb e => ?_⟩
  subst e
  have := (List.mem_filter.1 hb).2
  rw [memB_iff.2 ha] at this
  cases this
theorem refRow_has {G : List S36} {names : List ByteArray} (hall : ∀ s, s ∈ names → memB s (nms G) = true) (s : ByteArray) : memB s (nms (refRow G names)) = memB s (nms G) := by
  rw [Bool.eq_iff_iff, memB_iff, memB_iff, nms_refRow hall, List.mem_append, List.mem_filter]
  constructor
  · rintro (h | h)
    · exact memB_iff.1 (hall s h)
    · exact h.1
  · intro h
    by_cases hm : memB s names = true
    · exact .inl (memB_iff.1 hm)
    · exact .inr ⟨h, by rw [Bool.eq_false_iff.2 hm]; rfl⟩
/-- Order has answered with no error. -/
structure Ordered (E : List S49) (G : List S36) (base b3 b4 : Int) (names : List ByteArray) (R : List S36) : Prop where
  c : chk E G base b3 b4 = 0
  all : ∀ s, s ∈ names → memB s (nms G) = true
  nd : names.Nodup
  r : R = renum (rd_T36 G 0).f1 (refRow G names)
theorem ordA_zero {E : List S49} {G : List S36} {base b3 b4 : Int} {names : List ByteArray} (h : (ordA E G base b3 b4 names).2 = 0) : Ordered E G base b3 b4 names (ordA E G base b3 b4 names).1 := by
  unfold ordA at h ⊢
  by_cases hc : chk E G base b3 b4 = 0
  · rw [if_pos hc] at h ⊢
    unfold rordP at h ⊢
    by_cases h1 : names.any (fun s => !memB s (nms G)) = true
    · rw [if_pos h1] at h
      cases h
    · rw [if_neg h1] at h ⊢
      by_cases h2 : names.Nodup
      · rw [if_pos h2]
        refine ⟨hc, fun s hs => ?_, h2, rfl⟩
        cases hm : memB s (nms G) with
        | true => rfl
        | false => exact absurd (List.any_eq_true.2 ⟨s, hs, by rw [hm]; rfl⟩) h1
      · rw [if_neg h2] at h
        cases h
  · rw [if_neg hc] at h
    exact absurd h hc
theorem ordA_bad {E : List S49} {G : List S36} {base b3 b4 : Int} {names : List ByteArray} (h : (ordA E G base b3 b4 names).2 ≠ 0) : (ordA E G base b3 b4 names).1 = [] := by
  unfold ordA at h ⊢
  by_cases hc : chk E G base b3 b4 = 0
  · rw [if_pos hc] at h ⊢
    unfold rordP at h ⊢
    by_cases h1 : names.any (fun s => !memB s (nms G)) = true
    · rw [if_pos h1]
    · rw [if_neg h1] at h ⊢
      by_cases h2 : names.Nodup
      · rw [if_pos h2] at h
        exact absurd rfl h
      · rw [if_neg h2]
  · rw [if_neg hc]
theorem Ordered.gr {E : List S49} {G : List S36} {base b3 b4 : Int} {names : List ByteArray} {R : List S36} (h : Ordered E G base b3 b4 names R) : (∀ g, g ∈ G → nameP g.f0 = true) ∧ (nms G).Nodup ∧ (∀ g, g ∈ G → 1 ≤ g.f1 ∧ g.f1 ≤ g.f2 ∧ g.f2 < base) ∧ inRow G = true := grErr_zero (chk_zero h.c).2.2
theorem Ordered.nms_eq {E : List S49} {G : List S36} {base b3 b4 : Int} {names : List ByteArray} {R : List S36} (h : Ordered E G base b3 b4 names R) : nms R = nms (refRow G names) := by rw [h.r, nms_renum]
theorem Ordered.nodup {E : List S49} {G : List S36} {base b3 b4 : Int} {names : List ByteArray} {R : List S36} (h : Ordered E G base b3 b4 names R) : (nms R).Nodup := by rw [h.nms_eq]; exact refRow_nodup h.all h.nd h.gr.2.1
theorem Ordered.has {E : List S49} {G : List S36} {base b3 b4 : Int} {names : List ByteArray} {R : List S36} (h : Ordered E G base b3 b4 names R) (s : ByteArray) : memB s (nms R) = memB s (nms G) := by rw [h.nms_eq]; exact refRow_has h.all s
theorem Ordered.row_len {E : List S49} {G : List S36} {base b3 b4 : Int} {names : List ByteArray} {R : List S36} (h : Ordered E G base b3 b4 names R) : (refRow G names).length = G.length := by rw [← sortG_row h.gr.2.1 h.nd h.all, sortG_length]
theorem Ordered.len {E : List S49} {G : List S36} {base b3 b4 : Int} {names : List ByteArray} {R : List S36} (h : Ordered E G base b3 b4 names R) : R.length = G.length := by rw [h.r, renum_length, h.row_len]
theorem fits_iff {l : List S36} : fits l = true ↔ l.length ≤ 1099511627776 ∧ ∀ s, s ∈ nms l → s.size ≤ 9223372036854775807 := by
  simp only [fits, Bool.and_eq_true, List.all_eq_true, decide_eq_true_eq, nms, List.mem_map]
  constructor
  · rintro ⟨h1, h2⟩
    exact ⟨h1, fun s ⟨g, hg, e⟩ => e ▸ h2 g hg⟩
  · rintro ⟨h1, h2⟩
    exact ⟨h1, fun g hg => h2 _ ⟨g, hg, rfl⟩⟩
theorem ordA_fits (E : List S49) (G : List S36) (base b3 b4 : Int) (names : List ByteArray) (hG : fits G = true) : fits (ordA E G base b3 b4 names).1 = true := by
  by_cases h : (ordA E G base b3 b4 names).2 = 0
  · have ho := ordA_zero h
    rw [fits_iff] at hG ⊢
    refine ⟨by rw [ho.len]; exact hG.1, fun s hs => hG.2 s ?_⟩
    rw [← memB_iff, ← ho.has, memB_iff]
    exact hs
  · rw [ordA_bad h]
    rfl
theorem loL_last : ∀ (l : List S36) (s : ByteArray), memB s (nms l) = false → ∀ a : Int, l.foldl (fun acc g => if g.f0 = s then g.f1 else acc) a = a
  | [], _, _, _ => rfl
  | g :: l, s, h, a => by
    have h : (decide (g.f0 = s) || memB s (nms l)) = false := h
    rw [Bool.or_eq_false_iff, decide_eq_false_iff_not] at h
    rw [List.foldl_cons, if_neg h.1]
    exact loL_last l s h.2 a
theorem loL_fold : ∀ (l : List S36) (_ : (nms l).Nodup) (j : Nat) (hj : j < l.length) (a : Int), l.foldl (fun acc g => if g.f0 = l[j].f0 then g.f1 else acc) a = l[j].f1
  | [], _, _, hj, _ => by simp at hj
  | g :: l, hd, j, hj, a => by
    have hd : ¬ g.f0 ∈ nms l ∧ (nms l).Nodup := List.nodup_cons.1 hd
    cases j with
    | zero =>
      rw [List.foldl_cons]
      simp only [List.getElem_cons_zero, if_true]
      exact loL_last l g.f0 (memB_false.2 hd.1) _
    | succ j =>
      rw [List.foldl_cons]
      simp only [List.getElem_cons_succ]
      exact loL_fold l hd.2 j (by simpa using hj) _
theorem loL_get {l : List S36} (hd : (nms l).Nodup) {j : Nat} (hj : j < l.length) : loL l l[j].f0 = l[j].f1 := loL_fold l hd j hj 0
/-- The group of a name begins where loL says. -/
theorem loL_pos {l : List S36} (hd : (nms l).Nodup) {s : ByteArray} (hs : memB s (nms l) = true) : loL l s = (rd_T36 l (posI l s)).f1 := by
  obtain ⟨j, hj, he, hf, _⟩ := posI_get hs
  rw [he, rdT36 hj, ← hf, loL_get hd hj]
section
variable (E : List S49) (G : List S36) (base b3 b4 : Int) (names : List ByteArray) (hE : eFits E) (hG : fits G = true) (h8 : G.length ≤ 8) (hN : namesFit names = true)
include hE hG h8 hN
end
/-- What a small collation and few names bring along. -/
theorem few_fits {E : List S49} {G : List S36} {names : List ByteArray} (hsG : ∀ g, g ∈ G → g.f0.size ≤ 9223372036854775807) (hsN : ∀ s, s ∈ names → s.size ≤ 9223372036854775807) (hf : (smallP E G && decide (names.length ≤ 12)) = true) : eFits E ∧ fits G = true ∧ G.length ≤ 8 ∧ namesFit names = true ∧ names.length ≤ 12 := by
  simp only [Bool.and_eq_true, decide_eq_true_eq] at hf
  obtain ⟨hE, h8⟩ := small_fits hf.1
  refine ⟨hE, ?_, h8, ?_, hf.2⟩
  · simp only [fits, Bool.and_eq_true, List.all_eq_true, decide_eq_true_eq]
    exact ⟨by omega, hsG⟩
  · simp only [namesFit, Bool.and_eq_true, List.all_eq_true, decide_eq_true_eq]
    exact ⟨by omega, hsN⟩
end Go.Proofs.Ytfcpebjjcijgcaa.G
-- by hand: lemmas
namespace Go.Proofs.Ytfcpebjjcijgcaa.G
open Go.RowKit Go.Proofs.YtfcpebjjcijgcaaW.PrintWords Go.Proofs.YtfcpebjjcijgcaaW.PrintLast Go.Proofs.YtfcpebjjcijgcaaW.PrintMore
attribute [local go_sem] max2_int min2_int max_two min_two max_three min_three max_four min_four   -- for this text's walks alone
set_option linter.unusedVariables false
set_option linter.unusedSimpArgs false
/-! GroupsKeeps -/
/-- How many weights a group has. -/
def wid (g : S36) : Int := g.f2 - g.f1 + 1
def sumW : List S36 → Int
  | [] => 0
  | g :: l => wid g + sumW l
/-- Numbered anew with no wrap. -/
def renumZ : Int → List S36 → List S36
  | _, [] => []
  | p, g :: l => ⟨g.f0, p, p + g.f2 - g.f1⟩ :: renumZ (p + wid g) l
def posW (l : List S36) : Prop := ∀ g, g ∈ l → 1 ≤ wid g
theorem sumW_pos : ∀ {l : List S36}, posW l → 0 ≤ sumW l
  | [], _ => by simp [sumW]
  | g :: l, h => by
    have h1 := h g List.mem_cons_self
    have h2 := sumW_pos (l := l) fun x hx => h x (List.mem_cons_of_mem _ hx)
    unfold sumW
    omega
theorem renum_Z : ∀ (l : List S36) (p : Int), posW l → (∀ g, g ∈ l → 0 ≤ g.f1 ∧ g.f2 ≤ 1000000) → 0 ≤ p → p + sumW l ≤ 1000000 → renum p l = renumZ p l
  | [], _, _, _, _, _ => rfl
  | g :: l, p, hp, hb, h0, h1 => by
    have hg := hp g List.mem_cons_self
    have hg2 := hb g List.mem_cons_self
    have hp2 : posW l := fun x hx => hp x (List.mem_cons_of_mem _ hx)
    have hs := sumW_pos hp2
    unfold sumW at h1
    have hw := hg
    unfold wid at hw h1
    have e1 : wrap64 (wrap64 (p + g.f2) - g.f1) = p + g.f2 - g.f1 := by unfold wrap64; omega
    have e2 : wrap64 (wrap64 (wrap64 (p + g.f2) - g.f1) + 1) = p + wid g := by rw [e1]; unfold wrap64 wid; omega
    unfold renum renumZ
    rw [e2, e1, renum_Z l (p + wid g) hp2 (fun x hx => hb x (List.mem_cons_of_mem _ hx)) (by unfold wid; omega) (by unfold wid; omega)]
theorem renumZ_mem : ∀ (l : List S36) (p : Int), posW l → ∀ g, g ∈ renumZ p l → p ≤ g.f1 ∧ g.f1 ≤ g.f2 ∧ g.f2 < p + sumW l
  | [], _, _, g, hg => by cases hg
  | a :: l, p, hp, g, hg => by
    have ha := hp a List.mem_cons_self
    have hp2 : posW l := fun x hx => hp x (List.mem_cons_of_mem _ hx)
    have hs := sumW_pos hp2
    unfold sumW
    unfold wid at ha ⊢
    rcases List.mem_cons.1 hg with rfl | hg
    · show p ≤ p ∧ p ≤ p + a.f2 - a.f1 ∧ p + a.f2 - a.f1 < _
      omega
    · have := renumZ_mem l (p + wid a) hp2 g hg
      unfold wid at this
      omega
theorem inG_iff {x : Int} {g : S36} : inG x g = true ↔ g.f1 ≤ x ∧ x ≤ g.f2 := by simp [inG]
theorem renumZ_cover : ∀ (l : List S36) (p : Int), posW l → ∀ x, p ≤ x → x < p + sumW l → ∃ i, ∃ hi : i < (renumZ p l).length, inG x (renumZ p l)[i] = true
  | [], p, _, x, h0, h1 => by simp [sumW] at h1; omega
  | a :: l, p, hp, x, h0, h1 => by
    have ha := hp a List.mem_cons_self
    have hp2 : posW l := fun x hx => hp x (List.mem_cons_of_mem _ hx)
    by_cases hx : x ≤ p + a.f2 - a.f1
    · exact ⟨0, by simp [renumZ], inG_iff.2 ⟨h0, hx⟩⟩
    · obtain ⟨i, hi, h⟩ := renumZ_cover l (p + wid a) hp2 x (by unfold wid; omega) (by unfold sumW at h1; omega)
      exact ⟨i + 1, by simpa [renumZ] using hi, h⟩
theorem renumZ_find : ∀ (l : List S36) (p : Int), posW l → ∀ (x : Int) (i : Nat) (hi : i < (renumZ p l).length), inG x (renumZ p l)[i] = true → ∀ j (hj : j < i), inG x ((renumZ p l)[j]'(by omega)) = false
  | [], _, _, _, i, hi, _, _, _ => by simp [renumZ] at hi
  | a :: l, p, hp, x, i, hi, h, j, hj => by
    have ha := hp a List.mem_cons_self
    have hp2 : posW l := fun x hx => hp x (List.mem_cons_of_mem _ hx)
    obtain ⟨i, rfl⟩ : ∃ m, i = m + 1 := ⟨i - 1, by omega⟩
    have hi2 : i < (renumZ (p + wid a) l).length := by simpa [renumZ] using hi
    have h2 : inG x (renumZ (p + wid a) l)[i] = true := h
    cases j with
    | zero =>
      have h3 := renumZ_mem l (p + wid a) hp2 _ (List.getElem_mem hi2)
      have h4 := (inG_iff.1 h2).1
      rw [← Bool.not_eq_true]
      intro h5
      have h5 : p ≤ x ∧ x ≤ p + a.f2 - a.f1 := inG_iff.1 h5
      have hw : wid a = a.f2 - a.f1 + 1 := rfl
      omega
    | succ j => exact renumZ_find l (p + wid a) hp2 x i hi2 h2 j (by omega)
theorem renumZ_wid : ∀ (l : List S36) (p : Int) (i : Nat) (hi : i < (renumZ p l).length) (hl : i < l.length), (renumZ p l)[i].f0 = l[i].f0 ∧ wid (renumZ p l)[i] = wid l[i]
  | [], _, _, hi, _ => by simp [renumZ] at hi
  | g :: l, p, i, hi, hl => by
    cases i with
    | zero =>
      refine ⟨rfl, ?_⟩
      show p + g.f2 - g.f1 - p + 1 = g.f2 - g.f1 + 1
      omega
    | succ i => exact renumZ_wid l (p + wid g) i (by simpa [renumZ] using hi) (by simpa using hl)
/-- The groups of a valid collation follow each other. -/
theorem inRow_Z : ∀ (l : List S36) (a : S36), (∀ g, g ∈ a :: l → 1 ≤ g.f1 ∧ g.f1 ≤ g.f2 ∧ g.f2 < 1000000) → inRow (a :: l) = true → a :: l = renumZ a.f1 (a :: l)
  | [], a, _, _ => by
    show [a] = [⟨a.f0, a.f1, a.f1 + a.f2 - a.f1⟩]
    rw [show a.f1 + a.f2 - a.f1 = a.f2 by omega]
  | b :: l, a, hb, h => by
    have ha := hb a List.mem_cons_self
    unfold inRow at h
    rw [Bool.and_eq_true, decide_eq_true_iff] at h
    have ih := inRow_Z l b (fun g hg => hb g (List.mem_cons_of_mem _ hg)) h.2
    have e1 : b.f1 = a.f1 + wid a := by
      rw [h.1]
      unfold wrap64 wid
      omega
    show a :: b :: l = ⟨a.f0, a.f1, a.f1 + a.f2 - a.f1⟩ :: renumZ (a.f1 + wid a) (b :: l)
    rw [← e1, ← ih, show a.f1 + a.f2 - a.f1 = a.f2 by omega]
theorem sumW_append : ∀ (l m : List S36), sumW (l ++ m) = sumW l + sumW m
  | [], m => by simp [sumW]
  | g :: l, m => by
    show wid g + sumW (l ++ m) = wid g + sumW l + sumW m
    rw [sumW_append l m]
    omega
theorem sumW_bucket (key : S36 → Nat) (l : List S36) : ∀ N, sumW (bucket key N l) = sumW (l.filter fun g => decide (key g < N))
  | 0 => by
    unfold bucket
    rw [List.range_zero, List.flatMap_nil]
    have : (l.filter fun g => decide (key g < 0)) = [] := List.filter_eq_nil_iff.2 fun g _ => by simp
    rw [this]
  | N + 1 => by
    have ih := sumW_bucket key l N
    unfold bucket at ih ⊢
    rw [filter_range, sumW_append, ih]
    clear ih
    induction l with
    | nil => rfl
    | cons g l ih =>
      rcases Nat.lt_trichotomy (key g) N with h | h | h
      · rw [List.filter_cons_of_pos (by simpa using h), List.filter_cons_of_neg (by simp; omega), List.filter_cons_of_pos (by simp; omega)]
        show wid g + sumW _ + sumW _ = wid g + sumW _
        omega
      · rw [List.filter_cons_of_neg (by simp; omega), List.filter_cons_of_pos (by simpa using h), List.filter_cons_of_pos (by simp; omega)]
        show sumW _ + (wid g + sumW _) = wid g + sumW _
        omega
      · rw [List.filter_cons_of_neg (by simp; omega), List.filter_cons_of_neg (by simp; omega), List.filter_cons_of_neg (by simp; omega)]
        exact ih
theorem refRow_sum {G : List S36} {names : List ByteArray} (hd : (nms G).Nodup) (hn : names.Nodup) (hall : ∀ s, s ∈ names → memB s (nms G) = true) : sumW (refRow G names) = sumW G := by
  rw [← sortG_row hd hn hall]
  unfold sortG
  rw [sumW_bucket]
  congr 1
  rw [List.filter_eq_self]
  intro g _
  have := idxN_le names g.f0
  simp
  omega
/-- Which group a weight lies in. -/
def grpI (l : List S36) (x : Int) : Int := match l.findIdx? (inG x) with | some i => (i : Int) | none => -1
/-- Two lists of groups that follow each other, of the same names and widths: what keeps the weights. -/
structure Moved (G R : List S36) (a0 S : Int) : Prop where
  cov : ∀ x, (∃ i, ∃ hi : i < G.length, inG x G[i] = true) ↔ a0 ≤ x ∧ x < a0 + S
  covR : ∀ x, (∃ i, ∃ hi : i < R.length, inG x R[i] = true) ↔ a0 ≤ x ∧ x < a0 + S
  one : ∀ (x : Int) (i : Nat) (hi : i < G.length), inG x G[i] = true → G.findIdx? (inG x) = some i
  oneR : ∀ (x : Int) (i : Nat) (hi : i < R.length), inG x R[i] = true → R.findIdx? (inG x) = some i
  same : ∀ (i : Nat) (hi : i < G.length), ∃ j, ∃ hj : j < R.length, R[j].f0 = G[i].f0 ∧ wid R[j] = wid G[i] ∧ posI R G[i].f0 = (j : Int) ∧ ∀ k (hk : k < G.length), posI R G[k].f0 = (j : Int) → k = i
  small : 0 ≤ a0 ∧ a0 + S ≤ 1000000
theorem Z_cov {l : List S36} {p : Int} (hp : posW l) (x : Int) : (∃ i, ∃ hi : i < (renumZ p l).length, inG x (renumZ p l)[i] = true) ↔ p ≤ x ∧ x < p + sumW l := by
  constructor
  · rintro ⟨i, hi, h⟩
    have h1 := renumZ_mem l p hp _ (List.getElem_mem hi)
    have h2 := inG_iff.1 h
    omega
  · rintro ⟨h0, h1⟩
    exact renumZ_cover l p hp x h0 h1
theorem Z_one {l : List S36} {p : Int} (hp : posW l) (x : Int) (i : Nat) (hi : i < (renumZ p l).length) (h : inG x (renumZ p l)[i] = true) : (renumZ p l).findIdx? (inG x) = some i := by
  rw [List.findIdx?_eq_some_iff_getElem]
  exact ⟨hi, h, fun j hj => by rw [renumZ_find l p hp x i hi h j hj]; simp⟩
theorem nms_inj {l : List S36} (hd : (nms l).Nodup) {i j : Nat} (hi : i < l.length) (hj : j < l.length) (h : l[i].f0 = l[j].f0) : i = j := by
  have hi2 : i < (nms l).length := by simpa [nms] using hi
  have hj2 : j < (nms l).length := by simpa [nms] using hj
  refine (List.getElem_inj (h₀ := hi2) (h₁ := hj2) hd).1 ?_
  simpa [nms] using h
theorem ordered_moved {E : List S49} {G : List S36} {base b3 b4 : Int} {names : List ByteArray} {R : List S36} (h : Ordered E G base b3 b4 names R) (hne : G ≠ []) : ∃ a0 S, Moved G R a0 S := by
  obtain ⟨_, hnd, hval, hrow⟩ := h.gr
  have hbase := (chk_zero h.c).2.1
  have hlen := h.len
  have hrl := h.row_len
  obtain ⟨a, l, rfl⟩ : ∃ a l, G = a :: l := by
    cases G with
    | nil => exact absurd rfl hne
    | cons a l => exact ⟨a, l, rfl⟩
  have hb : ∀ g, g ∈ a :: l → 1 ≤ g.f1 ∧ g.f1 ≤ g.f2 ∧ g.f2 < 1000000 := fun g hg => by
    have := hval g hg
    omega
  have hGZ := inRow_Z l a hb hrow
  have hpG : posW (a :: l) := fun g hg => by
    have := hb g hg
    unfold wid
    omega
  have hpR : posW (refRow (a :: l) names) := fun g hg => hpG g (refRow_mem h.all hg)
  have hsum := refRow_sum hnd h.nd h.all
  have ha := hb a List.mem_cons_self
  have hend : a.f1 + sumW (a :: l) ≤ 1000000 := by
    have := (Z_cov (p := a.f1) hpG (a.f1 + sumW (a :: l) - 1)).2 (by
      have : 1 ≤ sumW (a :: l) := by
        have h1 := hpG a List.mem_cons_self
        have h2 := sumW_pos (l := l) fun x hx => hpG x (List.mem_cons_of_mem _ hx)
        unfold sumW
        omega
      omega)
    rw [← hGZ] at this
    obtain ⟨i, hi, hx⟩ := this
    have h1 := (inG_iff.1 hx).2
    have h2 := hb _ (List.getElem_mem hi)
    omega
  have hRZ : R = renumZ a.f1 (refRow (a :: l) names) := by
    rw [h.r]
    exact renum_Z _ _ hpR (fun g hg => by
      have := hb g (refRow_mem h.all hg)
      omega) (by show 0 ≤ a.f1; omega) (by rw [hsum]; exact hend)
  have covG := fun x => Z_cov (p := a.f1) hpG x
  have oneG := fun x => Z_one (p := a.f1) hpG x
  rw [← hGZ] at covG oneG
  have covR := fun x => Z_cov (p := a.f1) hpR x
  have oneR := fun x => Z_one (p := a.f1) hpR x
  rw [← hRZ] at covR oneR
  refine ⟨a.f1, sumW (a :: l), ⟨covG, fun x => by rw [covR x, hsum], oneG, oneR, fun i hi => ?_, by omega, hend⟩⟩
  have hm : memB (a :: l)[i].f0 (nms R) = true := by
    rw [h.has]
    exact memB_iff.2 (List.mem_map.2 ⟨_, List.getElem_mem hi, rfl⟩)
  obtain ⟨j, hj, hpos, hf, _⟩ := posI_get hm
  refine ⟨j, hj, hf, ?_, hpos, fun k hk hk2 => ?_⟩
  · have hj2 : j < (refRow (a :: l) names).length := by omega
    subst hRZ
    obtain ⟨w0, w1⟩ := renumZ_wid (refRow (a :: l) names) a.f1 j hj hj2
    rw [w1]
    obtain ⟨i2, hi2, he⟩ := List.mem_iff_getElem.1 (refRow_mem h.all (List.getElem_mem hj2))
    rw [← he]
    congr 1
    have : i2 = i := nms_inj hnd hi2 hi (by rw [he, ← w0, hf])
    subst this
    rfl
  · have hm2 : memB (a :: l)[k].f0 (nms R) = true := by
      rw [h.has]
      exact memB_iff.2 (List.mem_map.2 ⟨_, List.getElem_mem hk, rfl⟩)
    obtain ⟨j2, hj2, hpos2, hf2, _⟩ := posI_get hm2
    have e : j2 = j := by omega
    subst e
    exact nms_inj hnd hk hi (by rw [← hf2, hf])
theorem find_of_idx {l : List S36} {p : S36 → Bool} {i : Nat} (hi : i < l.length) (h : l.findIdx? p = some i) : l.find? p = some l[i] := by
  rw [List.findIdx?_eq_some_iff_getElem] at h
  obtain ⟨_, h1, h2⟩ := h
  rw [List.find?_eq_some_iff_getElem]
  refine ⟨h1, i, hi, rfl, fun j hj => ?_⟩
  have := h2 j hj
  rw [Bool.not_eq_true] at this
  rw [this]
  rfl
theorem moved_in {G R : List S36} {a0 S : Int} (h : Moved G R a0 S) (hd : (nms R).Nodup) {x : Int} {i : Nat} (hi : i < G.length) (hx : inG x G[i] = true) : ∃ j, ∃ hj : j < R.length, moveP G R x = x - G[i].f1 + R[j].f1 ∧ inG (moveP G R x) R[j] = true ∧ R[j].f0 = G[i].f0 ∧ posI R G[i].f0 = (j : Int) := by
  obtain ⟨j, hj, hf, hw, hpos, _⟩ := h.same i hi
  have hx2 := inG_iff.1 hx
  have hsm := h.small
  have c1 := (h.cov x).1 ⟨i, hi, hx⟩
  have c2 := (h.cov G[i].f1).1 ⟨i, hi, inG_iff.2 (by omega)⟩
  unfold wid at hw
  have c3 := (h.covR R[j].f1).1 ⟨j, hj, inG_iff.2 (by omega)⟩
  have hm : memB G[i].f0 (nms R) = true := by
    rw [← hf]
    exact memB_iff.2 (List.mem_map.2 ⟨_, List.getElem_mem hj, rfl⟩)
  have e : moveP G R x = x - G[i].f1 + R[j].f1 := by
    unfold moveP
    show (match G.find? (inG x) with | some g => wrap64 (wrap64 (x - g.f1) + if memB g.f0 (nms R) = true then loL R g.f0 else 0) | none => x) = _
    rw [find_of_idx hi (h.one x i hi hx)]
    show wrap64 (wrap64 (x - G[i].f1) + if memB G[i].f0 (nms R) = true then loL R G[i].f0 else 0) = _
    rw [if_pos hm, loL_pos hd hm, hpos, rdT36 hj]
    unfold wrap64
    omega
  refine ⟨j, hj, e, ?_, hf, hpos⟩
  rw [e, inG_iff]
  omega
theorem moved_out {G R : List S36} {x : Int} (hx : ¬ ∃ i, ∃ hi : i < G.length, inG x G[i] = true) : moveP G R x = x ∧ grpI G x = -1 := by
  have h1 : G.find? (inG x) = none := by
    rw [List.find?_eq_none]
    intro g hg h
    obtain ⟨j, hj, rfl⟩ := List.mem_iff_getElem.1 hg
    exact hx ⟨j, hj, h⟩
  have h2 : G.findIdx? (inG x) = none := by
    rw [List.findIdx?_eq_none_iff]
    intro g hg
    obtain ⟨j, hj, rfl⟩ := List.mem_iff_getElem.1 hg
    exact Bool.eq_false_iff.2 fun h => hx ⟨j, hj, h⟩
  constructor
  · unfold moveP
    show (match G.find? (inG x) with | some g => wrap64 (wrap64 (x - g.f1) + if memB g.f0 (nms R) = true then loL R g.f0 else 0) | none => x) = _
    rw [h1]
  · unfold grpI
    rw [h2]
theorem ordered_moved' {E : List S49} {G : List S36} {base b3 b4 : Int} {names : List ByteArray} {R : List S36} (h : Ordered E G base b3 b4 names R) : ∃ a0 S, Moved G R a0 S := by
  by_cases hne : G = []
  · subst hne
    have hR : R = [] := List.length_eq_zero_iff.1 h.len
    subst hR
    refine ⟨0, 0, ⟨fun x => ⟨?_, fun hx => by omega⟩, fun x => ⟨?_, fun hx => by omega⟩, fun _ i hi => by simp at hi, fun _ i hi => by simp at hi, fun i hi => by simp at hi, by omega, by omega⟩⟩
    · rintro ⟨i, hi, _⟩
      simp at hi
    · rintro ⟨i, hi, _⟩
      simp at hi
  · exact ordered_moved h hne
end Go.Proofs.Ytfcpebjjcijgcaa.G
-- by hand: lemmas
namespace Go.Proofs.Ytfcpebjjcijgcaa.G
open Go.RowKit Go.Proofs.YtfcpebjjcijgcaaW.PrintWords Go.Proofs.YtfcpebjjcijgcaaW.PrintLast Go.Proofs.YtfcpebjjcijgcaaW.PrintMore
attribute [local go_sem] max2_int min2_int max_two min_two max_three min_three max_four min_four   -- for this text's walks alone
set_option linter.unusedVariables false
set_option linter.unusedSimpArgs false
/-! What groups.Apply answers. -/
section
variable (E : List S49) (G : List S36) (base b3 b4 : Int) (names : List ByteArray)
/-- The answer to Apply. -/
def aplA : List S49 × List S36 × Int × Int × Int × Int := if (ordA E G base b3 b4 names).2 = 0 then (E.map (moveE G (ordA E G base b3 b4 names).1), (ordA E G base b3 b4 names).1, base, b3, b4, 0) else ([], [], 0, 0, 0, (ordA E G base b3 b4 names).2)
theorem gapply_ev (hE : eFits E) (hG : fits G = true) (h8 : G.length ≤ 8) (hN : namesFit names = true) (hS : eSmall E = true) : Ev (fun k => groups_Apply.f k E G base b3 b4 names) (aplA E G base b3 b4 names) := by
  refine Ev.bind (order_ev E G base b3 b4 names hE hG h8 hN) ?_
  unfold aplA
  by_cases h : (ordA E G base b3 b4 names).2 = 0
  · simp only [h, if_true]
    rw [if_pos ⟨hG, ordA_fits E G base b3 b4 names hG, hS⟩]
    exact Ev.now _
  · simp only [h, if_false]
    exact Ev.now _
end
theorem small_eSmall {E : List S49} {G : List S36} (h : smallP E G = true) : eSmall E = true := by
  simp only [smallP, Bool.and_eq_true, decide_eq_true_eq, List.all_eq_true] at h
  simp only [eSmall, Bool.and_eq_true, decide_eq_true_eq, List.all_eq_true]
  refine ⟨by omega, fun e he => ?_⟩
  have := h.2 e he
  omega
theorem moveE_small {old fresh : List S36} {E : List S49} (h : eSmall E = true) : eSmall (E.map (moveE old fresh)) = true := by
  simp only [eSmall, Bool.and_eq_true, decide_eq_true_eq, List.all_eq_true, List.length_map] at h ⊢
  refine ⟨h.1, fun e he => ?_⟩
  obtain ⟨x, hx, rfl⟩ := List.mem_map.1 he
  simpa [moveE] using h.2 x hx
end Go.Proofs.Ytfcpebjjcijgcaa.G
-- by hand: lemmas
namespace Go.Proofs.Ytfcpebjjcijgcaa.G
open Go.RowKit Go.Proofs.YtfcpebjjcijgcaaW.PrintWords Go.Proofs.YtfcpebjjcijgcaaW.PrintLast Go.Proofs.YtfcpebjjcijgcaaW.PrintMore
attribute [local go_sem] max2_int min2_int max_two min_two max_three min_three max_four min_four   -- for this text's walks alone
set_option linter.unusedVariables false
set_option linter.unusedSimpArgs false
/-! The reference's Same is reflexive. -/
theorem ints_loop (l : List Int) (hl : l.length ≤ 1000000) : ∀ (d i : Nat), l.length - i = d → Ev (fun k => unicodetextref47_sameInts.l0 k l l (i : Int)) true := by
  intro d
  induction d with
  | zero =>
    intro i hd
    refine Ev.step (f := fun _ => some true) (fun k => ?_) (Ev.now _)
    simp only [unicodetextref47_sameInts.l0]
    rw [if_neg (by omega)]
  | succ d ih =>
    intro i hd
    refine Ev.step (f := fun k => unicodetextref47_sameInts.l0 k l l ((i + 1 : Nat) : Int)) (fun k => ?_) (ih (i + 1) (by omega))
    simp only [unicodetextref47_sameInts.l0]
    rw [if_pos (by omega), if_pos (by omega), if_pos (by omega), if_pos trivial, wrap_nat (by omega)]
theorem ints_ev (l : List Int) (hl : l.length ≤ 1000000) : Ev (fun k => unicodetextref47_sameInts.f k l l) true := by
  refine Ev.congr (f := fun k => unicodetextref47_sameInts.l0 k l l ((0 : Nat) : Int)) (fun k => ?_) (ints_loop l hl _ 0 rfl)
  unfold unicodetextref47_sameInts.f
  rw [if_pos rfl]
  rfl
theorem els_loop (l : List S51) (hl : l.length ≤ 1000000) : ∀ (d i : Nat), l.length - i = d → Ev (fun k => unicodetextref43_Same.l0 k l l (i : Int)) true := by
  intro d
  induction d with
  | zero =>
    intro i hd
    refine Ev.step (f := fun _ => some true) (fun k => ?_) (Ev.now _)
    simp only [unicodetextref43_Same.l0]
    rw [if_neg (by omega)]
  | succ d ih =>
    intro i hd
    refine Ev.step (f := fun k => unicodetextref43_Same.l0 k l l ((i + 1 : Nat) : Int)) (fun k => ?_) (ih (i + 1) (by omega))
    simp only [unicodetextref43_Same.l0]
    rw [if_pos (by omega), if_pos (by omega), if_pos (by omega), if_neg (by simp), wrap_nat (by omega)]
theorem els_ev (l : List S51) (hl : l.length ≤ 1000000) : Ev (fun k => unicodetextref43_Same.f k l l) true := by
  refine Ev.congr (f := fun k => unicodetextref43_Same.l0 k l l ((0 : Nat) : Int)) (fun k => ?_) (els_loop l hl _ 0 rfl)
  unfold unicodetextref43_Same.f
  rw [if_pos rfl]
  rfl
theorem ent_loop (E : List S49) (G : List S36) (a b c : Int) (hS : E.length ≤ 1000000 ∧ ∀ e, e ∈ E → e.f0.length ≤ 1000000 ∧ e.f1.length ≤ 1000000) : ∀ (d i : Nat), E.length - i = d → Ev (fun k => unicodetextref47_Same.l0 k (i : Int) E G a b c E G a b c) true := by
  intro d
  induction d with
  | zero =>
    intro i hd
    refine Ev.step (f := fun _ => some true) (fun k => ?_) (Ev.now _)
    simp only [unicodetextref47_Same.l0]
    rw [if_neg (by omega)]
  | succ d ih =>
    intro i hd
    have hi : i < E.length := by omega
    have hb := hS.2 E[i] (List.getElem_mem hi)
    refine Ev.step (f := fun k => (unicodetextref47_sameInts.f k E[i].f0 E[i].f0).bind fun t => if t = true then ((unicodetextref43_Same.f k E[i].f1 E[i].f1).bind fun t2 => if t2 = true then unicodetextref47_Same.l0 k ((i + 1 : Nat) : Int) E G a b c E G a b c else none) else none) (fun k => ?_) ?_
    · simp only [unicodetextref47_Same.l0]
      rw [if_pos (by omega), if_pos (by omega), if_pos (by omega), rdT49 hi, wrap_nat (by omega)]
    · refine Ev.bind (ints_ev _ hb.1) ?_
      simp only [if_true]
      refine Ev.bind (els_ev _ hb.2) ?_
      simp only [if_true]
      exact ih (i + 1) (by omega)
theorem rsame_ev (E : List S49) (G : List S36) (a b c : Int) (hS : eSmall E = true) (hG : G.length ≤ 2199023255552) : Ev (fun k => unicodetextref47_Same.f k E G a b c E G a b c) true := by
  refine Ev.bind (same_ev G hG) ?_
  simp only [if_true]
  refine Ev.step (f := fun k => unicodetextref47_Same.l0 k ((0 : Nat) : Int) E G a b c E G a b c) (fun k => ?_) (ent_loop E G a b c (eSmall_len hS) _ 0 rfl)
  simp only [unicodetextref47_Same.j0]
  rw [if_neg (by simp)]
  rfl
end Go.Proofs.Ytfcpebjjcijgcaa.G
