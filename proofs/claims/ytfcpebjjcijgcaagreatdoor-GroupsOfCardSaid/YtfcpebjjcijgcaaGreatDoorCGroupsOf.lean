/- PROVED HERE: the law GroupsOf of the groups (Of returns the names of the groups of a text) is true for every input: the row, and its TIED CARD. Conditions: the listed variables read as listed (the card ties them to the program's text). Out of the printed and hand-made walks and of plain Lean laws. -/
import Derived.Below
import Derived.BigQuiet
import Derived.BigRegion
import Derived.ChangeOld
import Derived.Deep.RegionHeld3
import Derived.LaidMore
import Derived.Lib.LaidTab
import Derived.MakeChecks
import Derived.OpenShut
import Derived.ProofKit
import Derived.SevenTiedAt
import Derived.ShutString
import Derived.SizedLaws
import Derived.Stop.Joined
import Derived.Test.YtfcpebjjcijgcaaGreatDoorB0
import Derived.Test.YtfcpebjjcijgcaaGreatDoorB1
import Derived.Test.YtfcpebjjcijgcaaGreatDoorB2
import Derived.Test.YtfcpebjjcijgcaaGreatDoorB3
import Derived.Test.YtfcpebjjcijgcaaGreatDoorCards
import Derived.Test.YtfcpebjjcijgcaaGreatDoorTie
import Derived.WalkKit
-- by hand: lemmas
namespace Go.Proofs.YtfcpebjjcijgcaaGreatDoor.G
open Go.RowKit Go.Proofs.YtfcpebjjcijgcaaGreatDoorW.PrintWords Go.Proofs.YtfcpebjjcijgcaaGreatDoorW.PrintLast Go.Proofs.YtfcpebjjcijgcaaGreatDoorW.PrintMore
attribute [local go_sem] max2_int min2_int max_two min_two max_three min_three max_four min_four   -- for this text's walks alone
set_option linter.unusedVariables false
set_option linter.unusedSimpArgs false
/-! GroupsOf: the plain law -/
theorem cmpL_zero : ∀ (l m : List Int), cmpL l m = 0 → l = m
  | [], [], _ => rfl
  | [], _ :: _, h => by simp [cmpL] at h
  | _ :: _, [], h => by simp [cmpL] at h
  | a :: l, b :: m, h => by
    unfold cmpL at h
    by_cases e : a = b
    · rw [if_pos e] at h
      rw [e, cmpL_zero l m h]
    · rw [if_neg e] at h
      split at h <;> cases h
theorem equal_ev (l m : List Int) (hl : l.length ≤ 1099511627776) (hm : m.length ≤ 1099511627776) : Ev (fun k => unicodetextref01_Equal.f k l m) (decide (l = m)) := by
  refine Ev.bind (rcmp_ev l m hl hm) ?_
  rw [show decide (l = m) = (cmpL l m == 0) by
    rw [Bool.eq_iff_iff, decide_eq_true_iff, beq_iff_eq]
    exact ⟨fun e => by rw [e]; exact cmpL_self m, cmpL_zero l m⟩]
  exact Ev.now _
/-- What the reference's find answers. -/
def fndP (E : List S50) (codes : List Int) : List S41 × Bool := (foundE E codes, (E.find? fun e => decide (e.f0 = codes)).isSome)
section
variable (E : List S50) (G : List S43) (b2 b3 b4 : Int) (codes : List Int) (hE : E.length ≤ 1099511627776) (hE0 : ∀ e, e ∈ E → e.f0.length ≤ 1099511627776 ∧ e.f1.length ≤ 1099511627776) (hc : codes.length ≤ 1099511627776)
include hE hE0 hc
theorem find_loop : ∀ (d i : Nat), E.length - i = d → Ev (fun k => unicodetextref43_find.l0 k codes (i : Int) E G b2 b3 b4) (fndP (E.drop i) codes) := by
  intro d
  induction d with
  | zero =>
    intro i hd
    rw [List.drop_of_length_le (by omega)]
    refine Ev.step (f := fun _ => some ([], false)) (fun k => ?_) (Ev.now _)
    simp only [unicodetextref43_find.l0]
    rw [if_neg (by omega)]
  | succ d ih =>
    intro i hd
    have hi : i < E.length := by omega
    rw [List.drop_eq_getElem_cons hi]
    have hm := hE0 _ (List.getElem_mem hi)
    have heq := equal_ev E[i].f0 codes hm.1 hc
    refine Ev.step (f := fun k => (unicodetextref01_Equal.f k E[i].f0 codes).bind fun t103 => if t103 = true then some (E[i].f1, true) else unicodetextref43_find.l0 k codes ((i + 1 : Nat) : Int) E G b2 b3 b4) (fun k => ?_) ?_
    · simp only [unicodetextref43_find.l0]
      rw [rdT49 hi, if_pos (by omega), if_pos (by omega), wrap_nat (by omega)]
      congr 1
      funext t
      by_cases ht : t = true
      · rw [if_pos ht, if_pos ht]
        show (if 0 + E[i].f1.length < 4398046511104 then some ([] ++ E[i].f1, true) else none) = _
        rw [if_pos (by omega), List.nil_append]
      · rw [if_neg ht, if_neg ht]
    · refine Ev.bind heq ?_
      by_cases he : E[i].f0 = codes
      · simp only [he, decide_true, if_true]
        rw [show fndP (E[i] :: E.drop (i + 1)) codes = (E[i].f1, true) by unfold fndP foundE; rw [List.find?_cons_of_pos (by simp [he])]; rfl]
        exact Ev.now _
      · simp only [he, decide_false, Bool.false_eq_true, if_false]
        rw [show fndP (E[i] :: E.drop (i + 1)) codes = fndP (E.drop (i + 1)) codes by unfold fndP foundE; rw [List.find?_cons_of_neg (by simp [he])]]
        exact ih (i + 1) (by omega)
theorem find_ev : Ev (fun k => unicodetextref43_find.f k E G b2 b3 b4 codes) (fndP E codes) := find_loop E G b2 b3 b4 codes hE hE0 hc _ 0 rfl
end
/-- For all the elements of a text at once. -/
theorem find_all (E : List S50) (G : List S43) (b2 b3 b4 : Int) (hE : E.length ≤ 1099511627776) (hE0 : ∀ e, e ∈ E → e.f0.length ≤ 1099511627776 ∧ e.f1.length ≤ 1099511627776) : ∀ text : List Int, ∃ K, ∀ k, K ≤ k → ∀ t, t ∈ text → unicodetextref43_find.f k E G b2 b3 b4 [t] = some (fndP E [t])
  | [] => ⟨0, fun _ _ _ h => by cases h⟩
  | t :: l => by
    obtain ⟨K1, h1⟩ := find_ev E G b2 b3 b4 [t] hE hE0 (by simp)
    obtain ⟨K2, h2⟩ := find_all E G b2 b3 b4 hE hE0 l
    refine ⟨K1 + K2, fun k hk u hu => ?_⟩
    rcases List.mem_cons.1 hu with rfl | hu
    · exact h1 k (by omega)
    · exact h2 k (by omega) u hu
theorem strings_ev (N : List ByteArray) (hN : N.length ≤ 1099511627776) : Ev (fun k => unicodetextref09_Strings.f k N N) true := by
  have loop : ∀ (d i : Nat), N.length - i = d → Ev (fun k => unicodetextref09_Strings.l0 k N N (i : Int)) true := by
    intro d
    induction d with
    | zero =>
      intro i hd
      refine Ev.step (f := fun _ => some true) (fun k => ?_) (Ev.now _)
      simp only [unicodetextref09_Strings.l0]
      rw [if_neg (by omega)]
    | succ d ih =>
      intro i hd
      refine Ev.step (f := fun k => unicodetextref09_Strings.l0 k N N ((i + 1 : Nat) : Int)) (fun k => ?_) (ih (i + 1) (by omega))
      simp only [unicodetextref09_Strings.l0]
      rw [if_pos (by omega), if_pos (by omega), if_pos (by omega), if_pos trivial, wrap_nat (by omega)]
  refine Ev.congr (f := fun k => unicodetextref09_Strings.l0 k N N ((0 : Nat) : Int)) (fun k => ?_) (loop _ 0 rfl)
  unfold unicodetextref09_Strings.f
  rw [if_pos rfl]
  rfl
theorem sameZ_ev (l : List S43) (hl : l.length ≤ 2199023255552) : Ev (fun k => unicodetextref47_SameGroups.f k l l) true := by
  have loop : ∀ (d i : Nat), l.length - i = d → Ev (fun k => unicodetextref47_SameGroups.l0 k l l (i : Int)) true := by
    intro d
    induction d with
    | zero =>
      intro i hd
      refine Ev.step (f := fun _ => some true) (fun k => ?_) (Ev.now _)
      simp only [unicodetextref47_SameGroups.l0]
      rw [if_neg (by omega)]
    | succ d ih =>
      intro i hd
      refine Ev.step (f := fun k => unicodetextref47_SameGroups.l0 k l l ((i + 1 : Nat) : Int)) (fun k => ?_) (ih (i + 1) (by omega))
      simp only [unicodetextref47_SameGroups.l0]
      rw [if_pos (by omega), if_pos (by omega), if_pos (by omega), if_neg (by simp), wrap_nat (by omega)]
  refine Ev.congr (f := fun k => unicodetextref47_SameGroups.l0 k l l ((0 : Nat) : Int)) (fun k => ?_) (loop _ 0 rfl)
  unfold unicodetextref47_SameGroups.f
  rw [if_pos rfl]
  rfl
theorem orderZ : ordP aliveG aliveN = (aliveR, 0) := by kernel_rfl
theorem orderZ_ev : Ev (fun k => groups_Order.f k [] aliveG 100 1 1 aliveN) (aliveR, 0) := by
  have hE : eFits ([] : List S50) := ⟨by simp, fun e he => by cases he⟩
  have hG : fits aliveG = true := by decide +kernel
  have hN : namesFit aliveN = true := by decide +kernel
  refine Ev.bind (cchk_ev [] aliveG 100 1 1 hE hG) ?_
  have hc : chk [] aliveG 100 1 1 = 0 := by decide +kernel
  rw [hc]
  simp only [if_true]
  rw [if_pos ⟨hG, by decide, hN⟩, orderZ]
  exact Ev.now _
theorem moveZ_ev (x : Int) : Ev (fun k => groups_Move.f k [] aliveG 100 1 1 aliveN x) (moveP aliveG aliveR x) := by
  have hG : fits aliveG = true := by decide +kernel
  have hR : fits aliveR = true := by decide +kernel
  refine Ev.bind orderZ_ev ?_
  simp only [if_true]
  rw [if_pos ⟨hG, hR⟩]
  exact Ev.now _
theorem aliveZ_ev : Ev (fun k => unicodetextlaw47_alive.f k) true := by
  have m0 : moveP aliveG aliveR 12 = 3 := by decide +kernel
  have m1 : moveP aliveG aliveR 9 = 29 := by decide +kernel
  have m2 : moveP aliveG aliveR 30 = 30 := by decide +kernel
  have h0 := moveZ_ev 12
  have h1 := moveZ_ev 9
  have h2 := moveZ_ev 30
  rw [m0] at h0
  rw [m1] at h1
  rw [m2] at h2
  refine Ev.bind orderZ_ev ?_
  simp only [if_true]
  refine Ev.bind (sameZ_ev aliveR (by decide)) ?_
  simp only [if_true]
  refine Ev.bind h0 ?_
  simp only [if_true]
  refine Ev.bind h1 ?_
  simp only [if_true]
  refine Ev.bind h2 ?_
  simp only [if_true]
  exact Ev.now _
/-- What validity says. -/
theorem chkZ {E : List S50} {G : List S43} {base b3 b4 : Int} (h : chk E G base b3 b4 = 0) : base ≤ 65502 ∧ grErr G base = 0 ∧ entErrs base none E = 0 := by
  unfold chk at h
  split at h
  · cases h
  · split at h
    · rename_i h1 h2
      exact ⟨by omega, h2, h⟩
    · contradiction
theorem grZ {l : List S43} {base : Int} (h : grErr l base = 0) (hb : base ≤ 65502) : ∀ g, g ∈ l → grpOk g := by
  intro g hg
  unfold grErr at h
  split at h
  · cases h
  · rename_i h1
    split at h
    · cases h
    · split at h
      · cases h
      · rename_i h3
        have hn : nameP g.f0 = true := by
          cases hn : nameP g.f0 with
          | true => rfl
          | false => exact absurd (List.any_eq_true.2 ⟨g, hg, by rw [hn]; rfl⟩) h1
        have hr : ¬ badR base g = true := fun e => h3 (List.any_eq_true.2 ⟨g, hg, e⟩)
        simp only [badR, Bool.or_eq_true, decide_eq_true_eq] at hr
        simp only [nameP, Bool.and_eq_true, decide_eq_true_eq] at hn
        exact ⟨by unfold maxLen; omega, ⟨by omega, by omega⟩, ⟨by omega, by omega⟩⟩
theorem enZ {base : Int} {codes : List Int} {els : List S41} (h : enErr base codes els = 0) : ∀ n, n ∈ codes → inI n := by
  intro n hn
  unfold enErr at h
  split at h
  · cases h
  · split at h
    · cases h
    · rename_i h2
      have hv : validP n = true := by
        cases hv : validP n with
        | true => rfl
        | false => exact absurd (List.any_eq_true.2 ⟨n, hn, by rw [hv]; rfl⟩) h2
      simp only [validP, Bool.and_eq_true, Bool.or_eq_true, decide_eq_true_eq] at hv
      exact ⟨by omega, by omega⟩
end Go.Proofs.YtfcpebjjcijgcaaGreatDoor.G
-- by hand: lemmas
namespace Go.Proofs.YtfcpebjjcijgcaaGreatDoor.G
open Go.RowKit Go.Proofs.YtfcpebjjcijgcaaGreatDoorW.PrintWords Go.Proofs.YtfcpebjjcijgcaaGreatDoorW.PrintLast Go.Proofs.YtfcpebjjcijgcaaGreatDoorW.PrintMore
attribute [local go_sem] max2_int min2_int max_two min_two max_three min_three max_four min_four   -- for this text's walks alone
set_option linter.unusedVariables false
set_option linter.unusedSimpArgs false
/-! The reference's Data and Find at a valid collation. -/
set_option maxHeartbeats 4000000 in
set_option maxRecDepth 100000 in
theorem refData_calls (k : Nat) (A0 : Option Addr) (c0 : Nat) (E : List S50) (A1 : Option Addr) (c1 : Nat) (G : List S43) (b2 b3 b4 : Int) (w : World) (hr0 : Kd.C k50 w A0 E.length E) (hc0 : E.length ≤ c0) (hr1 : Kd.C k43 w A1 G.length G) (hc1 : G.length ≤ c1) (hk : unicodetextref43_Check.f k E G b2 b3 b4 = some 0) :
    Calls Tryz.prog 46 #[.agg #[.slice A0 E.length c0, .slice A1 G.length c1, .int .i64 b2, .int .i64 b3, .int .i64 b4]] w fun e w' => e = .returned (.agg #[.slice A0 E.length c0, .slice A1 G.length c1, .int .i64 b2, .int .i64 b3, .int .i64 b4]) ∧ Below w.heap.size w w' := by
  have hbA := below_alloc (below_alloc (Below.refl w.heap.size w) (.cells #[.slice A0 E.length c0, .slice A1 G.length c1, .int .i64 b2, .int .i64 b3, .int .i64 b4] 25)) (.cells #[.slice none 0 0, .slice none 0 0, .int .i64 0, .int .i64 0, .int .i64 0] 25)
  have HCK := Aside0.mk (unicodetextref43_Check.calls k A0 c0 E A1 c1 G b2 b3 b4 0 _ (Kd.C_below hr0 hbA) hc0 (Kd.C_below hr1 hbA) hc1 hk)
  clear hr0 hc0 hr1 hc1 hk
  go_enter Tryz.func46, Tryz.ntmps46
  go_wp2_with (go_at_call 12; fail)
  refine HCK.out.mono ?_
  rintro e w1 ⟨rfl, hb1⟩
  have HB1 := Aside0.mk (below_step hbA hb1)
  have HKP := Aside0.mk (blk_below (blk_alloc (blk_new w (.cells #[.slice A0 E.length c0, .slice A1 G.length c1, .int .i64 b2, .int .i64 b3, .int .i64 b4] 25)) _) hb1)
  have HKR := Aside0.mk (blk_below (blk_new (w.alloc (.cells #[.slice A0 E.length c0, .slice A1 G.length c1, .int .i64 b2, .int .i64 b3, .int .i64 b4] 25)) (.cells #[.slice none 0 0, .slice none 0 0, .int .i64 0, .int .i64 0, .int .i64 0] 25)) hb1)
  have hz0 : w1.cell? ⟨w.heap.size, 0, none⟩ = some (.slice A0 E.length c0) := (blk_cell HKP.out 0).trans rfl
  have hz1 : w1.cell? ⟨w.heap.size, 1, none⟩ = some (.slice A1 G.length c1) := (blk_cell HKP.out 1).trans rfl
  have hz2 : w1.cell? ⟨w.heap.size, 2, none⟩ = some (.int .i64 b2) := (blk_cell HKP.out 2).trans rfl
  have hz3 : w1.cell? ⟨w.heap.size, 3, none⟩ = some (.int .i64 b3) := (blk_cell HKP.out 3).trans rfl
  have hz4 : w1.cell? ⟨w.heap.size, 4, none⟩ = some (.int .i64 b4) := (blk_cell HKP.out 4).trans rfl
  have hgs : (w.alloc (.cells #[.slice A0 E.length c0, .slice A1 G.length c1, .int .i64 b2, .int .i64 b3, .int .i64 b4] 25)).heap.size = w.heap.size + 1 := by simp
  rw [hgs] at HKR
  have HP1 := Aside0.mk (blk_put HKR.out 0 (.slice A0 E.length c0) rfl)
  have HP2 := Aside0.mk (blk_put HP1.out 1 (.slice A1 G.length c1) rfl)
  have HP3 := Aside0.mk (blk_put HP2.out 2 (.int .i64 b2) rfl)
  have HP4 := Aside0.mk (blk_put HP3.out 3 (.int .i64 b3) rfl)
  have HP5 := Aside0.mk (blk_put HP4.out 4 (.int .i64 b4) rfl)
  have hf0 := blk_frozen HKR.out 0
  have hf1 := blk_frozen HP1.out 1
  have hf2 := blk_frozen HP2.out 2
  have hf3 := blk_frozen HP3.out 3
  have hf4 := blk_frozen HP4.out 4
  have hv0 := (blk_cell HKR.out 0).trans (show _ = some (.slice none 0 0 : Value) from rfl)
  have hv1 := (blk_cell HP1.out 1).trans (show _ = some (.slice none 0 0 : Value) from rfl)
  have hv2 := (blk_cell HP2.out 2).trans (show _ = some (.int .i64 0 : Value) from rfl)
  have hv3 := (blk_cell HP3.out 3).trans (show _ = some (.int .i64 0 : Value) from rfl)
  have hv4 := (blk_cell HP4.out 4).trans (show _ = some (.int .i64 0 : Value) from rfl)
  clear hbA hb1 hgs
  go_wp2_with fail
  refine bodyPost_ret (results_cell_row rfl _ _ (w.heap.size + 1) 25 #[.slice A0 E.length c0, .slice A1 G.length c1, .int .i64 b2, .int .i64 b3, .int .i64 b4] (0, 0) _ rfl HP5.out Tryz.underlying25 rfl (by kernel_rfl)) rfl ?_
  exact ⟨rfl, below_set (below_set (below_set (below_set (below_set HB1.out (Nat.le_succ _)) (Nat.le_succ _)) (Nat.le_succ _)) (Nat.le_succ _)) (Nat.le_succ _)⟩
set_option maxHeartbeats 4000000 in
set_option maxRecDepth 100000 in
theorem refFind_calls (k : Nat) (A0 : Option Addr) (c0 : Nat) (E : List S50) (A1 : Option Addr) (c1 : Nat) (G : List S43) (b2 b3 b4 : Int) (A : Option Addr) (c : Nat) (codes : List Int) (L : List S41) (b : Bool) (w : World) (hr0 : Kd.C k50 w A0 E.length E) (hc0 : E.length ≤ c0) (hr1 : Kd.C k43 w A1 G.length G) (hc1 : G.length ≤ c1) (hk : unicodetextref43_Check.f k E G b2 b3 b4 = some 0) (hr : Kd.C (Kd.int .i64) w A codes.length codes) (hc : codes.length ≤ c) (hf : unicodetextref43_find.f k E G b2 b3 b4 codes = some (L, b)) :
    Calls Tryz.prog 26 #[.agg #[.slice A0 E.length c0, .slice A1 G.length c1, .int .i64 b2, .int .i64 b3, .int .i64 b4], .slice A codes.length c] w fun e w' => ∃ v : Value, e = .returned (.tuple #[v, .bool b]) ∧ Kd.R k41 41 w' w.heap.size (fun _ => True) v L ∧ Below w.heap.size w w' := by
  have hbA := below_alloc (Below.refl w.heap.size w) (.cells #[.slice A0 E.length c0, .slice A1 G.length c1, .int .i64 b2, .int .i64 b3, .int .i64 b4] 25)
  have HD := Aside0.mk (refData_calls k A0 c0 E A1 c1 G b2 b3 b4 _ (Kd.C_below hr0 hbA) hc0 (Kd.C_below hr1 hbA) hc1 hk)
  have HF := Aside0.mk (fun (W : World) (hb : Below w.heap.size w W) => unicodetextref43_find.calls k A0 c0 E A1 c1 G b2 b3 b4 A c codes L b W (Kd.C_below hr0 hb) hc0 (Kd.C_below hr1 hb) hc1 (Kd.C_below hr hb) hc hf)
  have HBA := Aside0.mk hbA
  clear hr0 hc0 hr1 hc1 hk hr hc hf hbA
  go_enter Tryz.func26, Tryz.ntmps26
  go_wp2_with (go_at_call 46; fail)
  refine HD.out.mono ?_
  rintro e w1 ⟨rfl, hb1⟩
  have HB1 := Aside0.mk (below_step HBA.out hb1)
  have HF1 := Aside0.mk (HF.out w1 HB1.out)
  clear hb1 HF HD
  go_wp2_with (go_at_call 45; fail)
  refine HF1.out.mono ?_
  rintro e w2 ⟨v, rfl, hR, hb2⟩
  have HB2 := Aside0.mk (below_step HB1.out hb2)
  have HR2 := Aside0.mk (Kd.R_lower hR HB1.out.size)
  clear hR hb2 HF1
  go_wp2_with fail
  go_ret2
  exact ⟨v, rfl, HR2.out, HB2.out⟩
end Go.Proofs.YtfcpebjjcijgcaaGreatDoor.G
-- by hand: lemmas
namespace Go.Proofs.YtfcpebjjcijgcaaGreatDoor.G
open Go.RowKit Go.Proofs.YtfcpebjjcijgcaaGreatDoorW.PrintWords Go.Proofs.YtfcpebjjcijgcaaGreatDoorW.PrintLast Go.Proofs.YtfcpebjjcijgcaaGreatDoorW.PrintMore
attribute [local go_sem] max2_int min2_int max_two min_two max_three min_three max_four min_four   -- for this text's walks alone
set_option linter.unusedVariables false
set_option linter.unusedSimpArgs false
/-! The reference's weighs at a valid collation. -/
theorem infoInt : (Tryz.prog.info? 3).map (fun i => (i.zero, i.size, i.bytes)) = some (some (.int .i64 0), 1, 8) := by kernel_rfl
theorem take_any {α : Type} (p : α → Bool) {l : List α} {i : Nat} {x : α} (h : l[i]? = some x) (h1 : (l.take i).any p = false) (h2 : p x = false) : (l.take (i + 1)).any p = false := by
  rw [List.take_add_one, h, List.any_append, h1]
  simp [h2]
theorem any_at_ {α : Type} (p : α → Bool) {l : List α} {i : Nat} {x : α} (h : l[i]? = some x) (h2 : p x = true) : l.any p = true := List.any_eq_true.2 ⟨x, List.mem_of_getElem? h, h2⟩
set_option maxHeartbeats 4000000 in
set_option maxRecDepth 100000 in
theorem weighs_calls (k : Nat) (A0 : Option Addr) (c0 : Nat) (E : List S50) (A1 : Option Addr) (c1 : Nat) (G : List S43) (b2 b3 b4 : Int) (g : S43) (A : Option Addr) (c : Nat) (text : List Int) (w : World) (hr0 : Kd.C k50 w A0 E.length E) (hc0 : E.length ≤ c0) (hr1 : Kd.C k43 w A1 G.length G) (hc1 : G.length ≤ c1) (hk : unicodetextref43_Check.f k E G b2 b3 b4 = some 0) (hr : Kd.C (Kd.int .i64) w A text.length text) (hc : text.length ≤ c) (hl : text.length ≤ 1000) (hE1 : ∀ e, e ∈ E → e.f1.length ≤ 1000) (hf : ∀ t, t ∈ text → ∃ b, unicodetextref43_find.f k E G b2 b3 b4 [t] = some (foundE E [t], b)) :
    Calls Tryz.prog 13 #[.agg #[.slice A0 E.length c0, .slice A1 G.length c1, .int .i64 b2, .int .i64 b3, .int .i64 b4], .agg #[.string g.f0, .int .i64 g.f1, .int .i64 g.f2], .slice A text.length c] w fun e w' => e = .returned (.bool (text.any fun t => (foundE E [t]).any fun e => inGrp e.f0 g)) ∧ Below w.heap.size w w' := by
  have HFL : Aside0 (∀ codes, (foundE E codes).length ≤ 1000) := ⟨fun codes => by
    unfold foundE
    split
    · rename_i e he
      exact hE1 e (List.mem_of_find?_eq_some he)
    · simp⟩
  have HFI := Aside0.mk (fun (W : World) (hb : Below w.heap.size w W) (t : Int) (b : Bool) (A' : Option Addr) (c' : Nat) (h1 : Kd.C (Kd.int .i64) W A' [t].length [t]) (h2 : [t].length ≤ c') (h3 : unicodetextref43_find.f k E G b2 b3 b4 [t] = some (foundE E [t], b)) => refFind_calls k A0 c0 E A1 c1 G b2 b3 b4 A' c' [t] (foundE E [t]) b W (Kd.C_below hr0 hb) hc0 (Kd.C_below hr1 hb) hc1 hk h1 h2 h3)
  have HR := Aside0.mk hr
  have HC := Aside0.mk hc
  have HL := Aside0.mk hl
  have HF := Aside0.mk hf
  have hb0 := below_alloc (below_alloc (Below.refl w.heap.size w) (.cells #[.slice A0 E.length c0, .slice A1 G.length c1, .int .i64 b2, .int .i64 b3, .int .i64 b4] 25)) (.cells #[.string g.f0, .int .i64 g.f1, .int .i64 g.f2] 43)
  have HKC := Aside0.mk (blk_alloc (blk_new w (.cells #[.slice A0 E.length c0, .slice A1 G.length c1, .int .i64 b2, .int .i64 b3, .int .i64 b4] 25)) (.cells #[.string g.f0, .int .i64 g.f1, .int .i64 g.f2] 43))
  have HKG : Aside0 (((w.alloc (.cells #[.slice A0 E.length c0, .slice A1 G.length c1, .int .i64 b2, .int .i64 b3, .int .i64 b4] 25)).alloc (.cells #[.string g.f0, .int .i64 g.f1, .int .i64 g.f2] 43)).heap[w.heap.size + 1]? = some (.cells #[.string g.f0, .int .i64 g.f1, .int .i64 g.f2] 43 (0, 0))) := ⟨by
    have h := blk_new (w.alloc (.cells #[.slice A0 E.length c0, .slice A1 G.length c1, .int .i64 b2, .int .i64 b3, .int .i64 b4] 25)) (.cells #[.string g.f0, .int .i64 g.f1, .int .i64 g.f2] 43)
    rw [show (w.alloc (.cells #[.slice A0 E.length c0, .slice A1 G.length c1, .int .i64 b2, .int .i64 b3, .int .i64 b4] 25)).heap.size = w.heap.size + 1 by simp] at h
    exact h⟩
  have HB0 := Aside0.mk hb0
  clear hr0 hc0 hr1 hc1 hk hr hc hl hE1 hf hb0
  go_enter Tryz.func13, Tryz.ntmps13
  go_wp2_with fail
  go_loopg [7] text.length (fun gg v w' => ∃ x : Nat, v = .int .i64 x ∧ Aside0 (gg = text.length - x ∧ x ≤ text.length) ∧ Aside0 ((text.take x).any (fun t => (foundE E [t]).any fun e => inGrp e.f0 g) = false) ∧ Aside0 (w'.heap[w.heap.size]? = some (.cells #[.slice A0 E.length c0, .slice A1 G.length c1, .int .i64 b2, .int .i64 b3, .int .i64 b4] 25 (0, 0))) ∧ Aside0 (w'.heap[w.heap.size + 1]? = some (.cells #[.string g.f0, .int .i64 g.f1, .int .i64 g.f2] 43 (0, 0))) ∧ Aside0 (Below w.heap.size w w'))
  case atStart => exact ⟨0, rfl, ⟨by simp, by omega⟩, ⟨by simp⟩, HKC, HKG, HB0⟩
  clear HKC HKG HB0
  case round =>
    obtain ⟨x, rfl, HX, HN, HKC, HKG, HB⟩ := hrel
    by_cases hlt : x < text.length
    · have hltz : (x : Int) < (text.length : Int) := by omega
      have p0 : 0 ≤ (x : Int) := by omega
      have hwx := wrap_up p0 (show (x : Int) < 9223372036854775807 by have := HL.out; omega)
      have hwx2 : IntKind.i64.wrap ((x : Int) + 1) = (x : Int) + 1 := IntWalk.i64_in _ (by have := HL.out; omega)
      have HWX := Aside0.mk hwx
      obtain ⟨t, ht⟩ : ∃ t, text[x] = t := ⟨_, rfl⟩
      have HT : Aside0 (text[x]? = some t) := ⟨by rw [List.getElem?_eq_getElem hlt, ht]⟩
      have HLT := Aside0.mk hlt
      obtain ⟨bf, hbf⟩ := HF.out t (List.mem_of_getElem? HT.out)
      have HBF := Aside0.mk hbf
      obtain ⟨i0, hi0, _, hsz0, _⟩ := info_parts infoInt
      have hone : (text.take ((x : Int) + 1).toNat).drop (x : Int).toNat = [t] := by
        rw [show ((x : Int) + 1).toNat = x + 1 by omega, Int.toNat_natCast, List.take_add_one, HT.out, List.drop_append_of_le_length (by rw [List.length_take]; omega), List.drop_of_length_le (by rw [List.length_take]; omega)]
        rfl
      obtain ⟨A', hcut, hA, hcl⟩ := print_mid_int (P := Tryz.prog) (k := .i64) 26 3 Tryz.underlying26 hi0 hsz0 A c text (x : Int) ((x : Int) + 1) p0 (by omega) (by omega) HC.out
      rw [hone] at hcut hA hcl
      have HA := Aside0.mk hA
      have HCL := Aside0.mk hcl
      have HCC := Aside0.mk (show ∀ W, Below w.heap.size w W → Kd.C (Kd.int .i64) W A' [t].length [t] from fun W hb => Kd.C_of_reads (h1 := fun _ => rfl) (hA W (Kd.reads_of_C (Kd.C_below HR.out hb))))
      have hS : ∀ W : World, W.heap[w.heap.size]? = wr.heap[w.heap.size]? → (W.cell? ⟨w.heap.size, 0, none⟩ = some (.slice A0 E.length c0) ∧ W.cell? ⟨w.heap.size, 1, none⟩ = some (.slice A1 G.length c1) ∧ W.cell? ⟨w.heap.size, 2, none⟩ = some (.int .i64 b2) ∧ W.cell? ⟨w.heap.size, 3, none⟩ = some (.int .i64 b3) ∧ W.cell? ⟨w.heap.size, 4, none⟩ = some (.int .i64 b4)) := fun W h => ⟨(blk_cell (h.trans HKC.out) 0).trans rfl, (blk_cell (h.trans HKC.out) 1).trans rfl, (blk_cell (h.trans HKC.out) 2).trans rfl, (blk_cell (h.trans HKC.out) 3).trans rfl, (blk_cell (h.trans HKC.out) 4).trans rfl⟩
      have hgl : w.heap.size < wr.heap.size := blk_lt HKC.out
      clear hlt ht hbf hi0 hsz0 hone hA hcl
      go_wp2_with fail
      go_region_held3 (fun W => W.cell? ⟨w.heap.size, 0, none⟩ = some (.slice A0 E.length c0) ∧ W.cell? ⟨w.heap.size, 1, none⟩ = some (.slice A1 G.length c1) ∧ W.cell? ⟨w.heap.size, 2, none⟩ = some (.int .i64 b2) ∧ W.cell? ⟨w.heap.size, 3, none⟩ = some (.int .i64 b3) ∧ W.cell? ⟨w.heap.size, 4, none⟩ = some (.int .i64 b4))
        (first
          | exact hS _ rfl
          | exact hS _ (hb5.block _ hgl))
        (first
          | (go_at_call 26; refine (HFI.out _ (below_step HB.out (below_drew (Below.refl _ _))) t bf A' _ (HCC.out _ (below_step HB.out (below_drew (Below.refl _ _)))) HCL.out HBF.out).mono ?_; rintro e w5 ⟨v5, rfl, hR5, hb5⟩))
      have hb5' := below_step (below_drew (Below.refl wr.heap.size wr)) hb5
      have HB5 := Aside0.mk (below_step HB.out hb5')
      have HKC5 := Aside0.mk (blk_below HKC.out hb5')
      have HKG5 := Aside0.mk (blk_below HKG.out hb5')
      obtain ⟨L, hL⟩ : ∃ L, foundE E [t] = L := ⟨_, rfl⟩
      rw [hL] at hR5
      have HFE := Aside0.mk hL
      have HLL : Aside0 (L.length ≤ 1000) := ⟨by rw [← hL]; exact HFL.out _⟩
      obtain ⟨A3, c3, rfl, hle3, hC3⟩ := Kd.R_reads hR5
      have HC3 := Aside0.mk hC3
      have HC3B := Aside0.mk (show ∀ W, Below w5.heap.size w5 W → Kd.C k41 W A3 L.length L from fun W hb => Kd.C_below hC3 hb)
      clear hS hgl hcut hwx hwx2 hb5 hb5' hR5 hle3 hC3 hL HKC HKG HB
      generalize hg5 : w5.heap.size = s5 at HC3B
      go_wp2_with fail
      go_loopg [10] L.length (fun gg v w' => ∃ y : Nat, v = .int .i64 y ∧ Aside0 (gg = L.length - y ∧ y ≤ L.length) ∧ Aside0 ((L.take y).any (fun e => inGrp e.f0 g) = false) ∧ Aside0 (Kd.C k41 w' A3 L.length L) ∧ Aside0 (w'.heap[w.heap.size]? = some (.cells #[.slice A0 E.length c0, .slice A1 G.length c1, .int .i64 b2, .int .i64 b3, .int .i64 b4] 25 (0, 0))) ∧ Aside0 (w'.heap[w.heap.size + 1]? = some (.cells #[.string g.f0, .int .i64 g.f1, .int .i64 g.f2] 43 (0, 0))) ∧ Aside0 (Below w.heap.size w w'))
      case atStart => exact ⟨0, rfl, ⟨by simp, by omega⟩, ⟨by simp⟩, HC3, HKC5, HKG5, HB5⟩
      clear HC3 HC3B HKC5 HKG5 HB5 hg5
      case round =>
        obtain ⟨y, rfl, HY, HNY, HC3, HKC, HKG, HB⟩ := hrel
        by_cases hlt : y < L.length
        · have hltz : (y : Int) < (L.length : Int) := by omega
          have q0 : 0 ≤ (y : Int) := by omega
          have HWY := Aside0.mk (wrap_up q0 (show (y : Int) < 9223372036854775807 by have := HLL.out; omega))
          obtain ⟨ad3, cc, e, hcl, hK, hcells⟩ := Kd.row_at HC3.out hlt
          cases e
          obtain ⟨ey, hey⟩ : ∃ ey, L[y] = ey := ⟨_, rfl⟩
          rw [hey] at hK
          obtain rfl := k41_open hK
          have hx0 : wr.cell? (ad3.add (y * 4)) = some (.int .i64 ey.f0) := hcells 0 _ rfl
          have HEY : Aside0 (L[y]? = some ey) := ⟨by rw [List.getElem?_eq_getElem hlt, hey]⟩
          have HLY := Aside0.mk hlt
          have hz1 : wr.cell? ⟨w.heap.size + 1, 1, none⟩ = some (.int .i64 g.f1) := (blk_cell HKG.out 1).trans rfl
          have hz2 : wr.cell? ⟨w.heap.size + 1, 2, none⟩ = some (.int .i64 g.f2) := (blk_cell HKG.out 2).trans rfl
          clear hcl hcells hK hey hlt
          by_cases hin : g.f1 ≤ ey.f0
          · have hinb : decide (g.f1 ≤ ey.f0) = true := decide_eq_true hin
            by_cases hin2 : ey.f0 ≤ g.f2
            · have hinb2 : decide (ey.f0 ≤ g.f2) = true := decide_eq_true hin2
              have HYES : Aside0 ((text.any fun t => (foundE E [t]).any fun e => inGrp e.f0 g) = true) := ⟨any_at_ _ HT.out (by rw [HFE.out]; exact any_at_ _ HEY.out (by unfold inGrp; rw [hinb, hinb2]; rfl))⟩
              go_wp2_with fail
              go_quiet (fail)
              go_wp2_with fail
              go_ret
              exact ⟨by rw [HYES.out]; rfl, pw_below_drewN HB.out _⟩
            · have hinb2 : decide (ey.f0 ≤ g.f2) = false := decide_eq_false hin2
              have HNO := Aside0.mk (take_any (fun e => inGrp e.f0 g) HEY.out HNY.out (by show inGrp ey.f0 g = false; unfold inGrp; rw [hinb2, Bool.and_false]))
              go_wp2_with fail
              go_quiet (fail)
              go_wp2_with fail
              go_roundg (L.length - (y + 1))
              case measure => have := HY.out; have := HLY.out; omega
              case rel => exact ⟨y + 1, (by first | (rw [HWY.out]; rfl) | rfl), ⟨rfl, Nat.succ_le_of_lt HLY.out⟩, HNO, ⟨Kd.C_drewN HC3.out _⟩, ⟨blk_drewN HKC.out _⟩, ⟨blk_drewN HKG.out _⟩, ⟨pw_below_drewN HB.out _⟩⟩
          · have hinb : decide (g.f1 ≤ ey.f0) = false := decide_eq_false hin
            have HNO := Aside0.mk (take_any (fun e => inGrp e.f0 g) HEY.out HNY.out (by show inGrp ey.f0 g = false; unfold inGrp; rw [hinb, Bool.false_and]))
            go_wp2_with fail
            go_quiet (fail)
            go_wp2_with fail
            go_roundg (L.length - (y + 1))
            case measure => have := HY.out; have := HLY.out; omega
            case rel => exact ⟨y + 1, (by first | (rw [HWY.out]; rfl) | rfl), ⟨rfl, Nat.succ_le_of_lt HLY.out⟩, HNO, ⟨Kd.C_drewN HC3.out _⟩, ⟨blk_drewN HKC.out _⟩, ⟨blk_drewN HKG.out _⟩, ⟨pw_below_drewN HB.out _⟩⟩
        · have hye : y = L.length := by have := HY.out; omega
          have hny := HNY.out
          rw [hye, List.take_length] at hny
          have HNX := Aside0.mk (take_any (fun t => (foundE E [t]).any fun e => inGrp e.f0 g) HT.out HN.out (by show (foundE E [t]).any _ = false; rw [HFE.out]; exact hny))
          clear hye hny
          go_wp2_with fail
          go_roundg (text.length - (x + 1))
          case measure => have := HX.out; have := HLT.out; omega
          case rel => exact ⟨x + 1, (by first | (rw [HWX.out]; rfl) | rfl), ⟨rfl, Nat.succ_le_of_lt HLT.out⟩, HNX, HKC, HKG, HB⟩
    · have hxe : x = text.length := by have := HX.out; omega
      have hn := HN.out
      rw [hxe, List.take_length] at hn
      have HNN := Aside0.mk hn
      clear hxe hn
      go_wp2_with fail
      go_ret
      exact ⟨by rw [HNN.out]; rfl, HB.out⟩
end Go.Proofs.YtfcpebjjcijgcaaGreatDoor.G
-- by hand: lemmas
namespace Go.Proofs.YtfcpebjjcijgcaaGreatDoor.G
open Go.RowKit Go.Proofs.YtfcpebjjcijgcaaGreatDoorW.PrintWords Go.Proofs.YtfcpebjjcijgcaaGreatDoorW.PrintLast Go.Proofs.YtfcpebjjcijgcaaGreatDoorW.PrintMore
attribute [local go_sem] max2_int min2_int max_two min_two max_three min_three max_four min_four   -- for this text's walks alone
set_option linter.unusedVariables false
set_option linter.unusedSimpArgs false
/-! The reference's Of. -/
set_option maxHeartbeats 4000000 in
set_option maxRecDepth 100000 in
theorem refOf_bad (k : Nat) (r : Int) (A0 : Option Addr) (c0 : Nat) (E : List S50) (A1 : Option Addr) (c1 : Nat) (G : List S43) (b2 b3 b4 : Int) (va : Value) (w : World) (hr0 : Kd.C k50 w A0 E.length E) (hc0 : E.length ≤ c0) (hr1 : Kd.C k43 w A1 G.length G) (hc1 : G.length ≤ c1) (hk : unicodetextref43_Check.f k E G b2 b3 b4 = some r) (hne : r ≠ 0) :
    Calls Tryz.prog 7 #[.agg #[.slice A0 E.length c0, .slice A1 G.length c1, .int .i64 b2, .int .i64 b3, .int .i64 b4], va] w fun e w' => e = .returned (.slice none 0 0) ∧ Below w.heap.size w w' := by
  have hbA := below_alloc (Below.refl w.heap.size w) (.cells #[.slice A0 E.length c0, .slice A1 G.length c1, .int .i64 b2, .int .i64 b3, .int .i64 b4] 25)
  have HCK := Aside0.mk (unicodetextref43_Check.calls k A0 c0 E A1 c1 G b2 b3 b4 r _ (Kd.C_below hr0 hbA) hc0 (Kd.C_below hr1 hbA) hc1 hk)
  have HBA := Aside0.mk hbA
  have hn : (r != 0) = true := bne_iff_ne.2 hne
  clear hr0 hc0 hr1 hc1 hk hbA
  go_enter Tryz.func7, Tryz.ntmps7
  go_wp2_with (go_at_call 12; fail)
  refine HCK.out.mono ?_
  rintro e w1 ⟨rfl, hb1⟩
  have HB1 := Aside0.mk (below_step HBA.out hb1)
  clear hb1
  go_wp2_with fail
  go_ret
  exact ⟨rfl, HB1.out⟩
set_option maxHeartbeats 4000000 in
set_option maxRecDepth 100000 in
theorem of_bad (k : Nat) (r : Int) (A0 : Option Addr) (c0 : Nat) (E : List S50) (A1 : Option Addr) (c1 : Nat) (G : List S43) (b2 b3 b4 : Int) (va : Value) (w : World) (hr0 : Kd.C k50 w A0 E.length E) (hc0 : E.length ≤ c0) (hr1 : Kd.C k43 w A1 G.length G) (hc1 : G.length ≤ c1) (hk : colltable_Check.f k E G b2 b3 b4 = some r) (hne : r ≠ 0) :
    Calls Tryz.prog 6 #[.agg #[.slice A0 E.length c0, .slice A1 G.length c1, .int .i64 b2, .int .i64 b3, .int .i64 b4], va] w fun e w' => e = .returned (.slice none 0 0) ∧ Below w.heap.size w w' := by
  have hbA := below_alloc (Below.refl w.heap.size w) (.cells #[.slice A0 E.length c0, .slice A1 G.length c1, .int .i64 b2, .int .i64 b3, .int .i64 b4] 25)
  have HCK := Aside0.mk (colltable_Check.calls k A0 c0 E A1 c1 G b2 b3 b4 r _ (Kd.C_below hr0 hbA) hc0 (Kd.C_below hr1 hbA) hc1 hk)
  have HBA := Aside0.mk hbA
  have hn : (r != 0) = true := bne_iff_ne.2 hne
  clear hr0 hc0 hr1 hc1 hk hbA
  go_enter Tryz.func6, Tryz.ntmps6
  go_wp2_with (go_at_call 10; fail)
  refine HCK.out.mono ?_
  rintro e w1 ⟨rfl, hb1⟩
  have HB1 := Aside0.mk (below_step HBA.out hb1)
  clear hb1
  go_wp2_with fail
  go_ret
  exact ⟨rfl, HB1.out⟩
set_option maxHeartbeats 4000000 in
set_option maxRecDepth 100000 in
theorem refOf_calls (k : Nat) (A0 : Option Addr) (c0 : Nat) (E : List S50) (A1 : Option Addr) (c1 : Nat) (G : List S43) (b2 b3 b4 : Int) (A : Option Addr) (c : Nat) (text : List Int) (w : World) (hr0 : Kd.C k50 w A0 E.length E) (hc0 : E.length ≤ c0) (hr1 : Kd.C k43 w A1 G.length G) (hc1 : G.length ≤ c1) (hk : unicodetextref43_Check.f k E G b2 b3 b4 = some 0) (hr : Kd.C (Kd.int .i64) w A text.length text) (hc : text.length ≤ c) (hl : text.length ≤ 1000) (hG : G.length ≤ 1000) (hE1 : ∀ e, e ∈ E → e.f1.length ≤ 1000) (hf : ∀ t, t ∈ text → ∃ b, unicodetextref43_find.f k E G b2 b3 b4 [t] = some (foundE E [t], b)) :
    Calls Tryz.prog 7 #[.agg #[.slice A0 E.length c0, .slice A1 G.length c1, .int .i64 b2, .int .i64 b3, .int .i64 b4], .slice A text.length c] w fun e w' => ∃ v, e = .returned v ∧ Kd.R Kd.string 9 w' w.heap.size (fun _ => True) v ((G.filter fun g => text.any fun t => (foundE E [t]).any fun e => inGrp e.f0 g).map fun g => g.f0) ∧ Below w.heap.size w w' := by
  have hbA := below_alloc (Below.refl w.heap.size w) (.cells #[.slice A0 E.length c0, .slice A1 G.length c1, .int .i64 b2, .int .i64 b3, .int .i64 b4] 25)
  have HCK := Aside0.mk (unicodetextref43_Check.calls k A0 c0 E A1 c1 G b2 b3 b4 0 _ (Kd.C_below hr0 hbA) hc0 (Kd.C_below hr1 hbA) hc1 hk)
  have HWE := Aside0.mk (fun (W : World) (hb : Below w.heap.size w W) (g : S43) => weighs_calls k A0 c0 E A1 c1 G b2 b3 b4 g A c text W (Kd.C_below hr0 hb) hc0 (Kd.C_below hr1 hb) hc1 hk (Kd.C_below hr hb) hc hl hE1 hf)
  have HR1 := Aside0.mk hr1
  have HGL := Aside0.mk hG
  have HKN := Aside0.mk (blk_new w (.cells #[.slice A0 E.length c0, .slice A1 G.length c1, .int .i64 b2, .int .i64 b3, .int .i64 b4] 25))
  have HBA := Aside0.mk hbA
  clear hr0 hc0 hr1 hc1 hk hr hc hl hG hE1 hf hbA
  go_enter Tryz.func7, Tryz.ntmps7
  go_wp2_with (go_at_call 12; fail)
  refine HCK.out.mono ?_
  rintro e w1 ⟨rfl, hb1⟩
  have HB1 := Aside0.mk (below_step HBA.out hb1)
  have HKC1 := Aside0.mk (blk_below HKN.out hb1)
  clear hb1 HKN HCK HBA
  go_wp2_with fail
  go_loopg [6, 5] G.length (fun gg v v5 w' => ∃ z : Nat, v = .int .i64 z ∧ Aside0 (gg = G.length - z ∧ z ≤ G.length) ∧ Aside0 (Kd.R Kd.string 9 w' w.heap.size (fun k => w.heap.size ≠ k) v5 (((G.take z).filter fun g => text.any fun t => (foundE E [t]).any fun e => inGrp e.f0 g).map fun g => g.f0)) ∧ Aside0 (w'.heap[w.heap.size]? = some (.cells #[.slice A0 E.length c0, .slice A1 G.length c1, .int .i64 b2, .int .i64 b3, .int .i64 b4] 25 (0, 0))) ∧ Aside0 (Below w.heap.size w w'))
  case atStart => exact ⟨0, rfl, ⟨by simp, by omega⟩, ⟨by rw [List.take_zero]; exact Kd.R_nil _ _ _ _ _⟩, HKC1, HB1⟩
  clear HKC1 HB1
  case round =>
    obtain ⟨z, rfl, HZ, HRL, HKC, HB⟩ := hrel
    by_cases hlt : z < G.length
    · have hltz : (z : Int) < (G.length : Int) := by omega
      have r0 : 0 ≤ (z : Int) := by omega
      have HWZ := Aside0.mk (wrap_up r0 (show (z : Int) < 9223372036854775807 by have := HGL.out; omega))
      obtain ⟨ad1, cc, e, hcl, hK, hcells⟩ := Kd.row_at HR1.out hlt
      cases e
      obtain ⟨gz, hgz⟩ : ∃ gz, G[z] = gz := ⟨_, rfl⟩
      rw [hgz] at hK
      obtain rfl := k43_open hK
      have hy0 := hcells 0 _ rfl
      have hy1 : w.cell? ⟨(ad1.add (z * 3)).block, (ad1.add (z * 3)).off + 1, none⟩ = some (.int .i64 gz.f1) := by rw [← add_field _ _ _ (by decide)]; exact hcells 1 _ rfl
      have hy2 : w.cell? ⟨(ad1.add (z * 3)).block, (ad1.add (z * 3)).off + 2, none⟩ = some (.int .i64 gz.f2) := by rw [← add_field _ _ _ (by decide)]; exact hcells 2 _ rfl
      have HGZ : Aside0 (G[z]? = some gz) := ⟨by rw [List.getElem?_eq_getElem hlt, hgz]⟩
      have HLZ := Aside0.mk hlt
      have HTK : Aside0 (G.take (z + 1) = G.take z ++ [gz]) := ⟨by rw [List.take_add_one, HGZ.out]; rfl⟩
      have hS : ∀ W : World, Below wr.heap.size wr W → (W.cell? ⟨w.heap.size, 0, none⟩ = some (.slice A0 E.length c0) ∧ W.cell? ⟨w.heap.size, 1, none⟩ = some (.slice (some ad1) G.length c1) ∧ W.cell? ⟨w.heap.size, 2, none⟩ = some (.int .i64 b2) ∧ W.cell? ⟨w.heap.size, 3, none⟩ = some (.int .i64 b3) ∧ W.cell? ⟨w.heap.size, 4, none⟩ = some (.int .i64 b4) ∧ W.cell? (ad1.add (z * 3)) = some (.string gz.f0) ∧ W.cell? ⟨(ad1.add (z * 3)).block, (ad1.add (z * 3)).off + 1, none⟩ = some (.int .i64 gz.f1) ∧ W.cell? ⟨(ad1.add (z * 3)).block, (ad1.add (z * 3)).off + 2, none⟩ = some (.int .i64 gz.f2)) := fun W h => ⟨(blk_cell (blk_below HKC.out h) 0).trans rfl, (blk_cell (blk_below HKC.out h) 1).trans rfl, (blk_cell (blk_below HKC.out h) 2).trans rfl, (blk_cell (blk_below HKC.out h) 3).trans rfl, (blk_cell (blk_below HKC.out h) 4).trans rfl, pw_cell_below (below_step HB.out h) hy0, pw_cell_below (below_step HB.out h) hy1, pw_cell_below (below_step HB.out h) hy2⟩
      clear hcl hcells hK hgz hlt hy0 hy1 hy2
      have hz1 : wr.cell? ⟨w.heap.size, 1, none⟩ = some (.slice (some ad1) G.length c1) := (blk_cell HKC.out 1).trans rfl
      obtain ⟨hit, hhit⟩ : ∃ b : Bool, (text.any fun t => (foundE E [t]).any fun e => inGrp e.f0 gz) = b := ⟨_, rfl⟩
      have HHIT := Aside0.mk hhit
      go_wp2_with fail
      clear hz1
      go_region_held3 (fun W => W.cell? ⟨w.heap.size, 0, none⟩ = some (.slice A0 E.length c0) ∧ W.cell? ⟨w.heap.size, 1, none⟩ = some (.slice (some ad1) G.length c1) ∧ W.cell? ⟨w.heap.size, 2, none⟩ = some (.int .i64 b2) ∧ W.cell? ⟨w.heap.size, 3, none⟩ = some (.int .i64 b3) ∧ W.cell? ⟨w.heap.size, 4, none⟩ = some (.int .i64 b4) ∧ W.cell? (ad1.add (z * 3)) = some (.string gz.f0) ∧ W.cell? ⟨(ad1.add (z * 3)).block, (ad1.add (z * 3)).off + 1, none⟩ = some (.int .i64 gz.f1) ∧ W.cell? ⟨(ad1.add (z * 3)).block, (ad1.add (z * 3)).off + 2, none⟩ = some (.int .i64 gz.f2))
        (first
          | exact hS _ (below_drew (Below.refl _ _))
          | exact hS _ (below_step (below_drew (Below.refl wr.heap.size wr)) hb5))
        (first
          | (go_at_call 13; refine (HWE.out _ (below_step HB.out (below_drew (Below.refl wr.heap.size wr))) gz).mono ?_; rw [hhit]; rintro e w5 ⟨rfl, hb5⟩))
      have hb5' := below_step (below_drew (Below.refl wr.heap.size wr)) hb5
      obtain ⟨q0, q1, q2, q3, q4, q5, q6, q7⟩ := hS _ hb5'
      have HB5 := Aside0.mk (below_step HB.out hb5')
      have HKC5 := Aside0.mk (blk_below HKC.out hb5')
      have HRL5 := Aside0.mk (Kd.R_below HRL.out hb5')
      have HSZ := Aside0.mk HB5.out.size
      have hlt5 : w.heap.size < w5.heap.size := blk_lt HKC5.out
      have HLT5 := Aside0.mk hlt5
      clear q0 q2 q3 q4 q6 q7 hb5 hb5' hS hhit HKC HRL HB hlt5
      cases hit with
      | true =>
        have HNM := Aside0.mk (names_yes (fun g => text.any fun t => (foundE E [t]).any fun e => inGrp e.f0 g) HTK.out HHIT.out)
        go_wp2_with ((with_reducible refine gate_builtin (b := .append) (xs := #[.tmp 25, .tmp 32]) rfl ?_); at_builtin
                     refine Kd.R_append Kd.string (w0 := w) w.heap.size rfl (.tmp 25) (.tmp 32) 29 9 (.string ⟨#[]⟩) 16 rfl Tryz.underlying29 infoStr rfl (by decide) (by decide) u5 (((G.take z).filter fun g => text.any fun t => (foundE E [t]).any fun e => inGrp e.f0 g).map fun g => g.f0) gz.f0 [.string gz.f0] (fun k => w.heap.size ≠ k) (fun _ => False) rfl rfl rfl (fun _ hk => hk.elim) ?aF HRL5.out HB5.out HSZ.out ?aL ?_
                     (case aF => exact fun k hk => Nat.ne_of_lt (Nat.lt_of_lt_of_le HLT5.out hk))
                     (case aL => exact names_small _ HGL.out)
                     intro v6 w6 ho hb hg hat)
        have HKC6 := Aside0.mk (blk_grown HKC5.out hg (fun e => HRL5.out.1 _ e.symm rfl))
        have HRL6 := Aside0.mk ho
        have HB6 := Aside0.mk hb
        clear ho hb hg hat
        go_roundg (G.length - (z + 1))
        case measure => have := HZ.out; have := HLZ.out; omega
        case rel => exact ⟨z + 1, (by first | (rw [HWZ.out]; rfl) | rfl), ⟨rfl, Nat.succ_le_of_lt HLZ.out⟩, ⟨by rw [HNM.out]; exact HRL6.out⟩, HKC6, HB6⟩
      | false =>
        have HNM := Aside0.mk (names_no (fun g => text.any fun t => (foundE E [t]).any fun e => inGrp e.f0 g) HTK.out (by rw [HHIT.out]; decide))
        go_wp2_with fail
        go_roundg (G.length - (z + 1))
        case measure => have := HZ.out; have := HLZ.out; omega
        case rel => exact ⟨z + 1, (by first | (rw [HWZ.out]; rfl) | rfl), ⟨rfl, Nat.succ_le_of_lt HLZ.out⟩, ⟨by rw [HNM.out]; exact HRL5.out⟩, HKC5, HB5⟩
    · have hze : z = G.length := by have := HZ.out; omega
      have hrl := HRL.out
      rw [hze, List.take_length] at hrl
      have HRN := Aside0.mk hrl
      have hz1 : wr.cell? ⟨w.heap.size, 1, none⟩ = some (.slice A1 G.length c1) := (blk_cell HKC.out 1).trans rfl
      clear hze hrl HRL
      go_wp2_with fail
      go_ret
      exact ⟨_, rfl, Kd.R_mono (Kd.R_bound HRN.out) (fun _ _ => trivial), HB.out⟩
end Go.Proofs.YtfcpebjjcijgcaaGreatDoor.G
-- by hand: lemmas
namespace Go.Proofs.YtfcpebjjcijgcaaGreatDoor.G
open Go.RowKit Go.Proofs.YtfcpebjjcijgcaaGreatDoorW.PrintWords Go.Proofs.YtfcpebjjcijgcaaGreatDoorW.PrintLast Go.Proofs.YtfcpebjjcijgcaaGreatDoorW.PrintMore
attribute [local go_sem] max2_int min2_int max_two min_two max_three min_three max_four min_four   -- for this text's walks alone
set_option linter.unusedVariables false
set_option linter.unusedSimpArgs false
/-! GroupsOf: walk and law joined -/
set_option maxHeartbeats 4000000 in
set_option maxRecDepth 100000 in
theorem ofLaw_calls (A0 : Option Addr) (c0 : Nat) (E : List S50) (A1 : Option Addr) (c1 : Nat) (G : List S43) (b2 b3 b4 : Int) (A : Option Addr) (c : Nat) (text : List Int) (w : World) (hr0 : Kd.C k50 w A0 E.length E) (hc0 : E.length ≤ c0) (hr1 : Kd.C k43 w A1 G.length G) (hc1 : G.length ≤ c1) (hr : Kd.C (Kd.int .i64) w A text.length text) (hc : text.length ≤ c) (hsG : ∀ g, g ∈ G → g.f0.size ≤ 9223372036854775807) (hti : ∀ n, n ∈ text → inI n) (hp : Pow w) :
    Calls Tryz.prog 3 #[.agg #[.slice A0 E.length c0, .slice A1 G.length c1, .int .i64 b2, .int .i64 b3, .int .i64 b4], .slice A text.length c] w fun e w' => e = .returned (.bool true) ∧ Below w.heap.size w w' := by
  obtain ⟨K1, h1⟩ := few_ev E G b2 b3 b4 []
  obtain ⟨K2, h2⟩ := aliveZ_ev
  by_cases hsm : smallP E G = true
  · rw [hsm] at h1
    obtain ⟨hE, hG8⟩ := small_fits hsm
    have hfit : fits G = true := by
      unfold fits
      rw [decide_eq_true (by omega), Bool.true_and, List.all_eq_true]
      exact fun g hg => decide_eq_true (hsG g hg)
    have hsz : E.length ≤ 12 ∧ ∀ e, e ∈ E → e.f0.length ≤ 10 ∧ e.f1.length ≤ 20 := by
      have h := hsm
      simp only [smallP, Bool.and_eq_true, List.all_eq_true, decide_eq_true_eq] at h
      exact ⟨h.1.1, h.2⟩
    obtain ⟨K4, h4⟩ := cchk_ev E G b2 b3 b4 hE hfit
    obtain ⟨K5, h5⟩ := rchk_ev E G b2 b3 b4 hE hfit
    obtain ⟨K6, h6⟩ := find_all E G b2 b3 b4 hE.1 hE.2 text
    by_cases hz : chk E G b2 b3 b4 = 0
    · rw [hz] at h4 h5
      obtain ⟨hb, hgr, hen⟩ := chkZ hz
      obtain ⟨hnd, _, hee⟩ := ent_facts _ _ _ hen
      have hl2 := List.length_filter_le (fun g => text.any fun t => (foundE E [t]).any fun e => inGrp e.f0 g) G
      obtain ⟨K3, h3⟩ := strings_ev ((G.filter fun g => text.any fun t => (foundE E [t]).any fun e => inGrp e.f0 g).map fun g => g.f0) (by rw [List.length_map]; omega)
      have k1 : K1 ≤ K1 + K2 + K3 + K4 + K5 + K6 := by omega
      have k2 : K2 ≤ K1 + K2 + K3 + K4 + K5 + K6 := by omega
      have k3 : K3 ≤ K1 + K2 + K3 + K4 + K5 + K6 := by omega
      have k4 : K4 ≤ K1 + K2 + K3 + K4 + K5 + K6 := by omega
      have k5 : K5 ≤ K1 + K2 + K3 + K4 + K5 + K6 := by omega
      have k6 : K6 ≤ K1 + K2 + K3 + K4 + K5 + K6 := by omega
      generalize K1 + K2 + K3 + K4 + K5 + K6 = k at k1 k2 k3 k4 k5 k6
      refine ofWalk k A0 c0 E A1 c1 G b2 b3 b4 A c text true _ w hr0 hc0 hr1 hc1 (h1 k k1) (h2 k k2) (h3 k k3) (fun _ hl W hW => ?_) (fun _ hl W hW => ?_)
      · exact of_calls k A0 c0 E A1 c1 G b2 b3 b4 A c text W (Kd.C_below hr0 hW) hc0 (Kd.C_below hr1 hW) hc1 (h4 k k4) (hp.below hW) ⟨by have := hsz.1; omega, fun e he => ⟨by have := hsz.2 e he; omega, enZ (hee e he)⟩⟩ (fun e he => by have := hsz.2 e he; omega) hnd (Kd.C_below hr hW) hti (by omega) (by omega) (grZ hgr hb)
      · exact refOf_calls k A0 c0 E A1 c1 G b2 b3 b4 A c text W (Kd.C_below hr0 hW) hc0 (Kd.C_below hr1 hW) hc1 (h5 k k5) (Kd.C_below hr hW) hc (by omega) (by omega) (fun e he => by have := hsz.2 e he; omega) (fun t ht => ⟨_, h6 k k6 t ht⟩)
    · obtain ⟨K3, h3⟩ := strings_ev [] (by simp)
      have k1 : K1 ≤ K1 + K2 + K3 + K4 + K5 := by omega
      have k2 : K2 ≤ K1 + K2 + K3 + K4 + K5 := by omega
      have k3 : K3 ≤ K1 + K2 + K3 + K4 + K5 := by omega
      have k4 : K4 ≤ K1 + K2 + K3 + K4 + K5 := by omega
      have k5 : K5 ≤ K1 + K2 + K3 + K4 + K5 := by omega
      generalize K1 + K2 + K3 + K4 + K5 = k at k1 k2 k3 k4 k5
      refine ofWalk k A0 c0 E A1 c1 G b2 b3 b4 A c text true [] w hr0 hc0 hr1 hc1 (h1 k k1) (h2 k k2) (h3 k k3) (fun _ hl W hW => ?_) (fun _ hl W hW => ?_)
      · exact (of_bad k _ A0 c0 E A1 c1 G b2 b3 b4 _ W (Kd.C_below hr0 hW) hc0 (Kd.C_below hr1 hW) hc1 (h4 k k4) hz).mono fun e w' h => ⟨_, h.1, Kd.R_nil _ _ _ _ _, h.2⟩
      · exact (refOf_bad k _ A0 c0 E A1 c1 G b2 b3 b4 _ W (Kd.C_below hr0 hW) hc0 (Kd.C_below hr1 hW) hc1 (h5 k k5) hz).mono fun e w' h => ⟨_, h.1, Kd.R_nil _ _ _ _ _, h.2⟩
  · rw [show smallP E G = false from Bool.eq_false_iff.2 hsm] at h1
    obtain ⟨K3, h3⟩ := strings_ev [] (by simp)
    have k1 : K1 ≤ K1 + K2 + K3 := by omega
    have k2 : K2 ≤ K1 + K2 + K3 := by omega
    have k3 : K3 ≤ K1 + K2 + K3 := by omega
    generalize K1 + K2 + K3 = k at k1 k2 k3
    exact ofWalk k A0 c0 E A1 c1 G b2 b3 b4 A c text false [] w hr0 hc0 hr1 hc1 (h1 k k1) (h2 k k2) (h3 k k3) (fun h => by cases h) (fun h => by cases h)
end Go.Proofs.YtfcpebjjcijgcaaGreatDoor.G
namespace Go.Proofs.YtfcpebjjcijgcaaGreatDoor.groupsOf
open Go.ChangeShapes Go.WideShapes Go.ChangeAt Go.RowKit Go.Proofs.YtfcpebjjcijgcaaGreatDoorW.PrintWords Go.Proofs.YtfcpebjjcijgcaaGreatDoorW.PrintLast Go.Proofs.YtfcpebjjcijgcaaGreatDoorW.PrintMore Go.Proofs.YtfcpebjjcijgcaaGreatDoor.G
theorem own : ownKnob Tryz.prog.godebug = none := by kernel_rfl
theorem laidOut : laidOutB Tryz.prog = true := by kernel_rfl
theorem gPow : Tryz.prog.globalNamed "internal/strconv.uint64pow10" = some 2 := by kernel_rfl
theorem gPowType : (Tryz.prog.globals[2]?).map (·.type) = some 176 ∧ Tryz.prog.underlying 159 = some (.int .u64) ∧ Tryz.prog.cellsOf 159 = 1 ∧ Tryz.prog.cellsOf 176 = 20 := ⟨by kernel_rfl, by kernel_rfl, by kernel_rfl, by kernel_rfl⟩
set_option maxRecDepth 100000 in
/-- The condition gives the table of tens. -/
theorem pow_of_laid {W : World} (h : laidMetH Tryz.prog Rows.groupsOfRow.laid W) : G.Pow W := by
  obtain ⟨e1, e3, e4, e5⟩ := gPowType
  rw [MakeChecks.laidMetH_plain _ _ _ (by kernel_rfl)] at h
  obtain ⟨ps, ⟨g0, t0, cs0, f0, p0, q0, hg0, ht0, hv0, hd0, ⟨g1, t1, cs1, f1, p1, q1, hg1, ht1, hv1, hd1, ⟨g2, t2, cs2, f2, p2, q2, hg2, ht2, hv2, hd2, _, _⟩, _⟩, _⟩, _, _⟩ := h
  obtain rfl := Option.some.inj (gPow.symm.trans hg2)
  obtain rfl := Option.some.inj (e1.symm.trans ht2)
  have hd : DataW.trod (H := Unit) _ Tryz.prog W 0 _ false f2 176 cs2.toList = some (Lib.tabData .u64 Lib.pow10Tab, p2) := hd2
  unfold G.Pow Lib.TabIs
  rw [hv2, ← Lib.cells_of_tab Tryz.underlying176 e3 e4 e5 hd]
set_option maxRecDepth 100000 in
theorem door_met (os : Os) (args : Array Value) : laidMetH Tryz.prog Rows.groupsOfRow.laid ((World.doorLaid Tryz.prog 4000 os).forCall (fun _ _ => 0) ⟨#[], args, []⟩).memory :=
  laidMetH_of_parts3 (fuel := 8) (laidMet_of_run' 8 (by kernel_rfl) (by kernel_rfl)) (by kernel_rfl) (by kernel_rfl)
set_option maxRecDepth 100000 in
theorem lifted (os : Os) (started : os.Started) (H : Type) (enc : TypeId × Value → H) :
    ReturnsInHanded {} Tryz.checked os 3 .any (fun w args => (Rows.groupsOfSpec.pre enc Tryz.prog Tryz.f3 Rows.groupsOfRow.domain false w args ∧ laidMetH Tryz.prog Rows.groupsOfRow.laid w) ∧ sizedMet enc Tryz.prog Tryz.f3 (OpenSpec.ofChange Rows.groupsOfSpec) false w args)
      (Rows.groupsOfSpec.post enc Tryz.prog Tryz.f3 false true false false) := by
  refine returnsInHanded_of_change_and (C := Tryz.checked) (X := fun w _ => laidMetH Tryz.prog Rows.groupsOfRow.laid w) (fun _ _ _ hh h => h.of_heap hh) own started (by kernel_rfl) Tryz.func3
    (ChangeSpec.witness_shaped (enc := enc) (C := Tryz.checked) (os := os) (X := fun w _ => laidMetH Tryz.prog Rows.groupsOfRow.laid w) false (World.doorLaid Tryz.prog 4000 os) #[.agg #[.slice none 0 0, .slice none 0 0, .int .i64 0, .int .i64 0, .int .i64 0], .slice none 0 0] 8 rfl (World.shaped_of_RefB (by kernel_rfl) (by kernel_rfl)) (by kernel_rfl) (by kernel_rfl) (by kernel_rfl) (door_met os _)) ?_
  intro W base args ds gs before hval0 hW hcnd hsz0 hL _
  have hval : ∀ (j : Nat) t v, Tryz.f3.params[j]? = some t → args[j]? = some v → Value.okWide Tryz.prog W .any base t v := hval0
  have hW' := hW
  obtain ⟨p, q, hA0, hV, rfl, hfz, hnd⟩ := hW
  have hA : DataW.TrodAll enc Tryz.prog W 0 (fun _ => true) true Tryz.f3.params.toList args.toList ds p := hA0
  rw [Tryz.params3] at hA hval
  obtain ⟨v0, vs0, d0, ds0, p0, q0, hargs, rfl, rfl, h0, r0⟩ := trodAll_cons hA
  obtain ⟨v1, vs1, d1, ds1, p1, q1, rfl, rfl, rfl, h1, r1⟩ := trodAll_cons r0
  obtain ⟨rfl, rfl, rfl⟩ := trodAll_nil r1
  obtain rfl : args = #[v0, v1] := by cases args; simp_all
  obtain ⟨rfl, rfl⟩ := trodVars_none hV
  obtain ⟨cs0, rfl, _⟩ := okWide_struct Tryz.underlying25 (hval 0 25 v0 rfl rfl)
  have k0 := h0
  have lt0 : ∀ x ∈ p0, x.block < W.heap.size := by obtain ⟨m, hm⟩ := k0; exact DataW.trod_lt m _ _ _ hm
  obtain ⟨m0, hm0⟩ := h0
  obtain ⟨A0, c0, E, A1, c1, G, b2, b3, b4, hc0, l0, g0, l1, g1, hsG⟩ := opens_coll hm0
  obtain rfl : cs0 = #[.slice A0 E.length c0, .slice A1 G.length c1, .int .i64 b2, .int .i64 b3, .int .i64 b4] := Array.toList_inj.1 hc0
  obtain ⟨a1, len1, cap1, rfl⟩ := okWide_slice Tryz.underlying26 (hval 1 26 v1 rfl rfl)
  have k1 := h1
  have lt1 : ∀ x ∈ p1, x.block < W.heap.size := by obtain ⟨m, hm⟩ := k1; exact DataW.trod_lt m _ _ _ hm
  obtain ⟨m1, hm1⟩ := h1
  obtain ⟨A2, c2, L, hc1, l2, g2, hsI⟩ := opens_rows Tryz.underlying26 (by kernel_rfl) (opens_int Tryz.underlying3) hm1
  have hc1 : [Value.slice a1 len1 cap1] = [.slice A2 L.length c2] := hc1
  simp only [List.cons.injEq, Value.slice.injEq, and_true] at hc1
  obtain ⟨rfl, rfl, rfl⟩ := hc1
  clear hA0 hval0 hsz0 hcnd
  have hti : ∀ n, n ∈ L → inI n := fun n hn => by
    have := hsI n hn
    simp only [Lit.wf, Bool.and_eq_true, decide_eq_true_eq] at this
    simpa [inI, IntKind.min, IntKind.max, IntKind.signed, IntKind.bits] using this
  refine (ofLaw_calls A0 c0 E A1 c1 G b2 b3 b4 a1 cap1 L W g0 l0 g1 l1 g2 l2 hsG hti (pow_of_laid hL)).mono fun e W' ⟨he, bel⟩ => ?_
  subst he
  exact ⟨_, rfl, _, _, _, [], _, [], hW', trodAll_mk1 (shut_bool Tryz.underlying4 _), (trodAll_cons_mk (Below.trod laidOut (by kernel_rfl) (of_decide_eq_true (by kernel_rfl)) k0 bel lt0) (trodAll_cons_mk (Below.trod laidOut (by kernel_rfl) (of_decide_eq_true (by kernel_rfl)) k1 bel lt1) trodAll_mk0)), rfl, bel.frame _, fun h => by cases h⟩
set_option maxRecDepth 100000 in
theorem over : Rows.groupsOfRow.holds Tryz.pinned (OpenSpec.ofChange Rows.groupsOfSpec) :=
  OpenClaim.holds_of_wide 3 Tryz.f3 rfl rfl rfl rfl rfl rfl rfl ⟨rfl, rfl, rfl, rfl, rfl⟩ rfl rfl rfl rfl rfl (by kernel_rfl) Tryz.func3 (by kernel_rfl)
    (of_decide_eq_true (by kernel_rfl)) (by unfold Func.isWrapper; first | (rw [if_pos (by decide +kernel)]; kernel_rfl) | (rw [if_neg (by decide +kernel)]; exact ⟨rfl, rfl⟩))
    (fun os started H enc _ => lifted os started H enc)
theorem proved : Rows.GroupsOfSaid := over
set_option maxRecDepth 100000 in
theorem card : Rows.GroupsOfCardSaid :=
  Claim7.holds_tied_plain_at .later [] [.data, .data, .data, .data] true (true, "3036fbaac70c5d8be92dfca45eea529b8e96d758a6465b763a9b7ee644c31801") false
    proved (fun _ h => by cases h) (by kernel_rfl) (fun _ h => by cases h) groupsOf_row_tie rfl ⟨rfl, rfl⟩ (by kernel_rfl) rfl
    (fun f fn hf hfn => by
      obtain rfl : f = 3 := Option.some.inj ((show Tryz.prog.funcNamed "unicodetext/unicodetextlaw47.GroupsOf" = some 3 by kernel_rfl).symm.trans hf) |>.symm
      obtain rfl : fn = Tryz.f3 := (Option.some.inj (Tryz.func3.symm.trans hfn)).symm
      exact ⟨by kernel_rfl, fun j t ht => by
        rw [Tryz.params3] at ht
        have hm : t ∈ [25, 26] := by simpa using Array.mem_of_getElem? ht
        have hall : ([25, 26].all fun u => !Tryz.prog.wantsStandIn u) = true := by kernel_rfl
        exact (show Tryz.prog.wantsStandIn t = false by simpa using List.all_eq_true.1 hall t hm)⟩)
    (by kernel_rfl)
#print axioms card
end Go.Proofs.YtfcpebjjcijgcaaGreatDoor.groupsOf
namespace Go.Proofs.YtfcpebjjcijgcaaGreatDoor
/-- The card, under a short name, for the claim. -/
theorem groupsOf_holds : Rows.GroupsOfCardSaid := groupsOf.card
end Go.Proofs.YtfcpebjjcijgcaaGreatDoor
