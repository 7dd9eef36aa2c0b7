/- PROVED HERE: the law GroupsFollow of the groups (the groups of Order follow each other without gaps, and are the old ones in another order) is true for every input. Conditions: none. Out of the printed and hand-made walks and of plain Lean laws. -/
import Derived.Below
import Derived.BigQuiet
import Derived.ChangeOld
import Derived.IntWalk
import Derived.Lib.Strings
import Derived.OpenShut
import Derived.Outline
import Derived.ProofKit
import Derived.ShutString
import Derived.SizedLaws
import Derived.Test.YtfcpebjjcijgcaaB0
import Derived.Test.YtfcpebjjcijgcaaB2
import Derived.Test.YtfcpebjjcijgcaaB3
import Derived.Test.YtfcpebjjcijgcaaB5
import Derived.Test.YtfcpebjjcijgcaaB7
import Derived.Test.YtfcpebjjcijgcaaB8
import Derived.Test.YtfcpebjjcijgcaaRows
import Derived.WalkKit
-- unicodetext/unicodetextlaw47.GroupsFollow: by hand
namespace Go.Proofs.Ytfcpebjjcijgcaa.G
open Go.RowKit Go.Proofs.YtfcpebjjcijgcaaW.PrintWords Go.Proofs.YtfcpebjjcijgcaaW.PrintLast Go.Proofs.YtfcpebjjcijgcaaW.PrintMore
attribute [local go_sem] max2_int min2_int max_two min_two max_three min_three max_four min_four   -- for this text's walks alone
set_option linter.unusedVariables false
set_option linter.unusedSimpArgs false

-- BY HAND: function 5 (unicodetextlaw47_GroupsFollow)
/-- The same name, and as many weights. -/
def matchG (g h : S36) : Bool := decide (g.f0 = h.f0) && decide (wrap64 (g.f2 - g.f1) = wrap64 (h.f2 - h.f1))
/-- What is asked of the groups of Order. -/
def followP (G : List S36) (names : List ByteArray) (R : List S36) : Prop :=
  R.length = G.length ∧ names.length ≤ R.length ∧ R.length ≤ 1099511627776 ∧ ∀ x : Int, 0 ≤ x → x < (R.length : Int) → (G.any fun g => matchG g (rd_T36 R x)) = true ∧ (x < (names.length : Int) → (rd_T36 R x).f0 = rdOf ByteArray.empty names x) ∧ (x = 0 → (rd_T36 R x).f1 = (rd_T36 G 0).f1) ∧ (0 < x → (rd_T36 R x).f1 = wrap64 ((rd_T36 R (x - 1)).f2 + 1))
noncomputable def unicodetextlaw47_GroupsFollow.f (k : Nat) (l0_0 : List (S49)) (l0_1 : List (S36)) (a0_2 : Int) (a0_3 : Int) (a0_4 : Int) (l1 : List ByteArray) : Option (Bool) := open Classical in (unicodetextlaw47_few.f k l0_0 l0_1 a0_2 a0_3 a0_4 l1).bind fun t => if t = true then (groups_Order.f k l0_0 l0_1 a0_2 a0_3 a0_4 l1).bind fun b => if b.2 = 0 then (if followP l0_1 l1 b.1 then unicodetextlaw47_alive.f k else none) else (if b.1.length = 0 then unicodetextlaw47_alive.f k else none) else unicodetextlaw47_alive.f k
theorem any_take_rd {l : List S36} {x : Int} (h0 : 0 ≤ x) (h : x < (l.length : Int)) (p : S36 → Bool) : (l.take (x + 1).toNat).any p = ((l.take x.toNat).any p || p (rd_T36 l x)) := by
  rw [take_rd h0 h, List.any_append]
  simp
theorem at_strs {w : World} {A : Option Addr} {n : Nat} {xs : List ByteArray} (h : Kd.string.C w A n xs) (i : Int) (h0 : 0 ≤ i) (h1 : i < n) : ∃ ad, A = some ad ∧ w.cell? (ad.add i.toNat) = some (.string (rdOf ByteArray.empty xs i)) := by
  obtain ⟨ad, c, e, _, hK, hc0⟩ := Kd.C_get h ByteArray.empty i h0 h1
  have hc : ∀ j u, c[j]? = some u → w.cell? (ad.add (i.toNat * 1 + j)) = some u := hc0
  obtain rfl : c = [.string (xs.getD i.toNat ByteArray.empty)] := hK
  exact ⟨ad, e, by have hq := hc 0 _ rfl; rwa [Nat.mul_one, Nat.add_zero] at hq⟩
set_option maxHeartbeats 8000000 in
set_option maxRecDepth 100000 in
theorem unicodetextlaw47_GroupsFollow.calls (k : Nat) (A0_0 : Option Addr) (c0_0 : Nat) (l0_0 : List (S49)) (A0_1 : Option Addr) (c0_1 : Nat) (l0_1 : List (S36)) (a0_2 : Int) (a0_3 : Int) (a0_4 : Int) (A1 : Option Addr) (c1 : Nat) (l1 : List ByteArray) (r : Bool) (w : World) (hr0_0 : Kd.C k49 w A0_0 l0_0.length l0_0) (hc0_0 : l0_0.length ≤ c0_0) (hr0_1 : Kd.C k36 w A0_1 l0_1.length l0_1) (hc0_1 : l0_1.length ≤ c0_1) (hr1 : Kd.C Kd.string w A1 l1.length l1) (hc1 : l1.length ≤ c1) (h : unicodetextlaw47_GroupsFollow.f k l0_0 l0_1 a0_2 a0_3 a0_4 l1 = some r) :
    Calls Try.prog 5 #[.agg #[.slice A0_0 l0_0.length c0_0, .slice A0_1 l0_1.length c0_1, .int .i64 a0_2, .int .i64 a0_3, .int .i64 a0_4], .slice A1 l1.length c1] w fun e w' => e = .returned (.bool r) ∧ Below w.heap.size w w' := by
  unfold unicodetextlaw47_GroupsFollow.f at h
  obtain ⟨t, hF, h⟩ := Option.bind_eq_some_iff.mp h
  have HFEW := Aside0.mk hF
  have H := Aside0.mk h
  have HR0 := Aside0.mk hr0_0
  have HC0 := Aside0.mk hc0_0
  have HR1 := Aside0.mk hr0_1
  have HC1 := Aside0.mk hc0_1
  have HRN := Aside0.mk hr1
  have HCN := Aside0.mk hc1
  clear hF h hr0_0 hc0_0 hr0_1 hc0_1 hr1 hc1
  go_enter Try.func5, Try.ntmps5
  go_wp2_with fail
  have hb0 : Below w.heap.size w (w.alloc (.cells #[.slice A0_0 l0_0.length c0_0, .slice A0_1 l0_1.length c0_1, .int .i64 a0_2, .int .i64 a0_3, .int .i64 a0_4] 25)) := below_alloc (Below.refl _ _) _
  have hk0 := blk_new w (.cells #[.slice A0_0 l0_0.length c0_0, .slice A0_1 l0_1.length c0_1, .int .i64 a0_2, .int .i64 a0_3, .int .i64 a0_4] 25)
  refine (unicodetextlaw47_few.calls k _ _ l0_0 _ _ l0_1 a0_2 a0_3 a0_4 _ _ l1 t _ (Kd.C_below HR0.out hb0) HC0.out (Kd.C_below HR1.out hb0) HC1.out (Kd.C_below HRN.out hb0) HCN.out HFEW.out).mono ?_
  rintro e w1 ⟨rfl, hb1⟩
  have HB1 := Aside0.mk (below_step hb0 hb1)
  have HK1 := Aside0.mk (blk_below hk0 hb1)
  clear hb0 hk0 hb1
  cases t with
  | false =>
    have hal : unicodetextlaw47_alive.f k = some r := by
      have h := H.out
      rw [if_neg (by simp)] at h
      exact h
    go_wp2_with fail
    refine (unicodetextlaw47_alive.calls k r _ hal).mono ?_
    rintro e w2 ⟨rfl, hb2⟩
    have HB2 := Aside0.mk (below_step HB1.out hb2)
    clear hb2
    go_wp2
    go_ret
    exact ⟨rfl, HB2.out⟩
  | true =>
    have h := H.out
    rw [if_pos rfl] at h
    obtain ⟨⟨R, eo⟩, hO, h⟩ := Option.bind_eq_some_iff.mp h
    have HO := Aside0.mk hO
    have H2 := Aside0.mk h
    have hz0 : w1.cell? ⟨w.heap.size, 0, none⟩ = some (.slice A0_0 l0_0.length c0_0) := (blk_cell HK1.out 0).trans rfl
    have hz1 : w1.cell? ⟨w.heap.size, 1, none⟩ = some (.slice A0_1 l0_1.length c0_1) := (blk_cell HK1.out 1).trans rfl
    have hz2 : w1.cell? ⟨w.heap.size, 2, none⟩ = some (.int .i64 a0_2) := (blk_cell HK1.out 2).trans rfl
    have hz3 : w1.cell? ⟨w.heap.size, 3, none⟩ = some (.int .i64 a0_3) := (blk_cell HK1.out 3).trans rfl
    have hz4 : w1.cell? ⟨w.heap.size, 4, none⟩ = some (.int .i64 a0_4) := (blk_cell HK1.out 4).trans rfl
    clear H hO h
    go_wp2_with fail
    clear hz0 hz1 hz2 hz3 hz4
    refine (groups_Order.calls k _ _ l0_0 _ _ l0_1 a0_2 a0_3 a0_4 _ _ l1 R eo _ (Kd.C_below HR0.out HB1.out) HC0.out (Kd.C_below HR1.out HB1.out) HC1.out (Kd.C_below HRN.out HB1.out) HCN.out HO.out).mono ?_
    rintro e w2 ⟨v0, rfl, hR, hb2⟩
    obtain ⟨A, c, rfl, hlc, hC⟩ := Kd.R_reads hR
    have HB2 := Aside0.mk (below_step HB1.out hb2)
    have HK2 := Aside0.mk (blk_below HK1.out hb2)
    have HLO := Aside0.mk hC
    have HLC := Aside0.mk hlc
    clear hR hC hlc hb2 HB1 HK1
    by_cases he : eo = 0
    · subst he
      obtain ⟨hfol, hal⟩ : followP l0_1 l1 R ∧ unicodetextlaw47_alive.f k = some r := by
        have h := H2.out
        rw [if_pos rfl] at h
        split at h
        · rename_i hc
          exact ⟨hc, h⟩
        · cases h
      obtain ⟨hl1, hl2, hl3, hall⟩ := hfol
      have HALL := Aside0.mk hall
      have HAL := Aside0.mk hal
      have hz1 : w2.cell? ⟨w.heap.size, 1, none⟩ = some (.slice A0_1 l0_1.length c0_1) := (blk_cell HK2.out 1).trans rfl
      have g1 : ((R.length : Int) != (l0_1.length : Int)) = false := by rw [hl1]; simp
      have g2 : decide ((R.length : Int) < (l1.length : Int)) = false := decide_eq_false (by omega)
      have g3 : decide (R.length < l1.length) = false := decide_eq_false (by omega)
      have g4 : (R.length != l0_1.length) = false := by rw [hl1]; simp
      have HL := Aside0.mk (⟨hl1, hl2, hl3⟩ : _ ∧ _ ∧ _)
      clear H2 hall hal hl1 hl2 hl3
      go_wp2
      clear hz1 g1 g2 g3 g4
      go_loopg [7] R.length (fun g v7 w' => ∃ x : Int, v7 = .int .i64 x ∧ Aside0 (g = R.length - x.toNat ∧ 0 ≤ x ∧ x ≤ R.length) ∧ Aside0 (Below w2.heap.size w2 w'))
      case atStart => exact ⟨0, rfl, ⟨by simp, by omega, by omega⟩, ⟨by repeat (first | exact Below.refl _ _ | apply pw_below_drewN | apply below_drew1)⟩⟩
      case round =>
        obtain ⟨x, rfl, HG, HB⟩ := hrel
        have p0 : 0 ≤ x := HG.out.2.1
        have hz1 : wr.cell? ⟨w.heap.size, 1, none⟩ = some (.slice A0_1 l0_1.length c0_1) := (blk_cell (blk_below HK2.out HB.out) 1).trans rfl
        by_cases hlt : x < (R.length : Int)
        · obtain ⟨adR, eR, hy0, hy1, hy2⟩ := at_T36 HLO.out x p0 hlt
          cases eR
          obtain ⟨rx, hrx⟩ : ∃ rx, rd_T36 R x = rx := ⟨_, rfl⟩
          rw [hrx] at hy0 hy1 hy2
          have HRX := Aside0.mk hrx
          have HY0 := Aside0.mk hy0
          have HY1 := Aside0.mk hy1
          have HY2 := Aside0.mk hy2
          clear hrx hy0 hy1 hy2
          go_wp2
          clear hz1
          go_loopg [8, 9] l0_1.length (fun g v8 v9 w' => ∃ (y : Int) (b : Bool), v8 = .bool b ∧ v9 = .int .i64 y ∧ Aside0 (g = l0_1.length - y.toNat ∧ 0 ≤ y ∧ y ≤ l0_1.length) ∧ Aside0 (b = (l0_1.take y.toNat).any fun g => matchG g rx) ∧ Aside0 (Below w2.heap.size w2 w'))
          case atStart => exact ⟨0, false, rfl, rfl, ⟨by simp, by omega, by omega⟩, ⟨by simp⟩, HB⟩
          case round =>
            obtain ⟨y, b, rfl, rfl, HG2, HBB, HB'⟩ := hrel
            have q0 : 0 ≤ y := HG2.out.2.1
            have hz1 : wr.cell? ⟨w.heap.size, 1, none⟩ = some (.slice A0_1 l0_1.length c0_1) := (blk_cell (blk_below HK2.out HB'.out) 1).trans rfl
            have hy0 := pw_cell_below HB'.out HY0.out
            have hy1 := pw_cell_below HB'.out HY1.out
            have hy2 := pw_cell_below HB'.out HY2.out
            by_cases hly : y < (l0_1.length : Int)
            · obtain ⟨adG, eG, hx0, hx1, hx2⟩ := at_T36 HR1.out y q0 hly
              cases eG
              replace hx0 := pw_cell_below HB'.out (pw_cell_below HB2.out hx0)
              replace hx1 := pw_cell_below HB'.out (pw_cell_below HB2.out hx1)
              replace hx2 := pw_cell_below HB'.out (pw_cell_below HB2.out hx2)
              have HANY := Aside0.mk (any_take_rd q0 hly (fun g => matchG g rx))
              obtain ⟨gx, hgx⟩ : ∃ gx, rd_T36 l0_1 y = gx := ⟨_, rfl⟩
              rw [hgx] at hx0 hx1 hx2 HANY
              rw [← HBB.out] at HANY
              clear hgx
              cases b with
              | true =>
                go_wp2
                go_quiet (fail)
                go_wp2
                go_roundg (l0_1.length - (y + 1).toNat)
                case measure => have := HG2.out; have := HL.out; omega
                case rel => have hlb := HL.out; have hwr := wrap_up q0 (show y < 9223372036854775807 by omega); exact ⟨y + 1, true, rfl, by (first | rw [hwr] | rw [← hwr] | go_num), ⟨rfl, by omega, by omega⟩, ⟨by rw [HANY.out]; rfl⟩, ⟨by repeat (first | exact HB'.out | apply pw_below_drewN | apply below_drew1)⟩⟩
              | false =>
                by_cases hs : gx.f0 = rx.f0
                · rw [hs] at hx0
                  by_cases hd : wrap64 (gx.f2 - gx.f1) = wrap64 (rx.f2 - rx.f1)
                  · have f1 : (wrap64 (gx.f2 - gx.f1) == wrap64 (rx.f2 - rx.f1)) = true := beq_iff_eq.2 hd
                    have f2 : (IntKind.i64.wrap (gx.f2 - gx.f1) == IntKind.i64.wrap (rx.f2 - rx.f1)) = true := by rw [IntKind.wrap_i64, IntKind.wrap_i64]; unfold wrap64 at f1; exact f1
                    have HM := Aside0.mk (show matchG gx rx = true by unfold matchG; rw [decide_eq_true hs, decide_eq_true hd]; rfl)
                    clear hs hd
                    go_wp2
                    go_quiet (fail)
                    go_wp2
                    go_roundg (l0_1.length - (y + 1).toNat)
                    case measure => have := HG2.out; have := HL.out; omega
                    case rel => have hlb := HL.out; have hwr := wrap_up q0 (show y < 9223372036854775807 by omega); exact ⟨y + 1, true, rfl, by (first | rw [hwr] | rw [← hwr] | go_num), ⟨rfl, by omega, by omega⟩, ⟨by rw [HANY.out, HM.out]; rfl⟩, ⟨by repeat (first | exact HB'.out | apply pw_below_drewN | apply below_drew1)⟩⟩
                  · have f1 : (wrap64 (gx.f2 - gx.f1) == wrap64 (rx.f2 - rx.f1)) = false := beq_eq_false_iff_ne.2 hd
                    have f2 : (IntKind.i64.wrap (gx.f2 - gx.f1) == IntKind.i64.wrap (rx.f2 - rx.f1)) = false := by rw [IntKind.wrap_i64, IntKind.wrap_i64]; unfold wrap64 at f1; exact f1
                    have HM := Aside0.mk (show matchG gx rx = false by unfold matchG; rw [decide_eq_false hd, Bool.and_false])
                    clear hs hd
                    go_wp2
                    go_quiet (fail)
                    go_wp2
                    go_roundg (l0_1.length - (y + 1).toNat)
                    case measure => have := HG2.out; have := HL.out; omega
                    case rel => have hlb := HL.out; have hwr := wrap_up q0 (show y < 9223372036854775807 by omega); exact ⟨y + 1, false, rfl, by (first | rw [hwr] | rw [← hwr] | go_num), ⟨rfl, by omega, by omega⟩, ⟨by rw [HANY.out, HM.out]; rfl⟩, ⟨by repeat (first | exact HB'.out | apply pw_below_drewN | apply below_drew1)⟩⟩
                · have f1 : (gx.f0.toList == rx.f0.toList) = false := beq_eq_false_iff_ne.2 (fun e => hs (toL_iff.1 e))
                  have HM := Aside0.mk (show matchG gx rx = false by unfold matchG; rw [decide_eq_false hs, Bool.false_and])
                  clear hs
                  go_wp2
                  go_quiet (fail)
                  go_wp2
                  go_roundg (l0_1.length - (y + 1).toNat)
                  case measure => have := HG2.out; have := HL.out; omega
                  case rel => have hlb := HL.out; have hwr := wrap_up q0 (show y < 9223372036854775807 by omega); exact ⟨y + 1, false, rfl, by (first | rw [hwr] | rw [← hwr] | go_num), ⟨rfl, by omega, by omega⟩, ⟨by rw [HANY.out, HM.out]; rfl⟩, ⟨by repeat (first | exact HB'.out | apply pw_below_drewN | apply below_drew1)⟩⟩
            · obtain rfl : b = true := by
                rw [HBB.out, List.take_of_length_le (by have := HG2.out; omega), ← HRX.out]
                exact (HALL.out x p0 hlt).1
              have HA := Aside0.mk (HALL.out x p0 hlt).2
              rw [HRX.out] at HA
              by_cases hn : x < (l1.length : Int)
              · obtain ⟨adN, eN, hn0⟩ := at_strs HRN.out x p0 hn
                cases eN
                replace hn0 := pw_cell_below HB'.out (pw_cell_below HB2.out hn0)
                rw [← HA.out.1 hn] at hn0
                have hlen := HL.out
                by_cases hx0 : x = 0
                · subst hx0
                  obtain ⟨adG, eG, _, hg1, _⟩ := at_T36 HR1.out 0 (by omega) (by omega)
                  cases eG
                  replace hg1 := pw_cell_below HB'.out (pw_cell_below HB2.out hg1)
                  rw [← HA.out.2.1 rfl] at hg1
                  have h0a : ∀ a : Addr, a.add 0 = a := fun a => by simp [Addr.add]
                  simp only [Int.toNat_zero, Nat.zero_mul, h0a] at hy0 hy1 hg1
                  simp only [Int.toNat_zero, h0a] at hn0
                  have z1 : decide ((0 : Int) < (l1.length : Int)) = true := decide_eq_true hn
                  have z2 : decide (0 < l1.length) = true := decide_eq_true (by omega)
                  have z5 : 0 < l1.length := by omega
                  have z3 : 0 < R.length := by omega
                  have z4 : 0 < l0_1.length := by omega
                  have z6 : (0 : Int) < (l0_1.length : Int) := by omega
                  clear hlen
                  go_wp2
                  go_quiet (fail)
                  go_wp2
                  go_roundg (R.length - ((0 : Int) + 1).toNat)
                  case measure => have := HG.out; have := HL.out; omega
                  case rel => have hlb := HL.out; exact ⟨(0 : Int) + 1, by (first | rw [hwr] | rw [← hwr] | go_num), ⟨rfl, by omega, by omega⟩, ⟨by repeat (first | exact HB'.out | apply pw_below_drewN | apply below_drew1)⟩⟩
                · obtain ⟨adP, eP, _, _, hp2⟩ := at_T36 HLO.out (x - 1) (by omega) (by omega)
                  cases eP
                  replace hp2 := pw_cell_below HB'.out hp2
                  rw [show (x - 1).toNat = x.toNat - 1 from by omega] at hp2
                  have hd : IntKind.i64.wrap (x - 1) = x - 1 := IntWalk.i64_in _ (by omega)
                  have hd2 : wrap64 (x - 1) = x - 1 := by unfold wrap64; omega
                  have hd0 : 0 ≤ x - 1 := by omega
                  have hd1 : x - 1 < (R.length : Int) := by omega
                  have g3 : (x == 0) = false := beq_eq_false_iff_ne.2 hx0
                  have g4 : decide (0 < x) = true := decide_eq_true (by omega)
                  obtain ⟨q, hq⟩ : ∃ q, (rd_T36 R (x - 1)).f2 = q := ⟨_, rfl⟩
                  rw [hq] at hp2
                  have hc := HA.out.2.2 (by omega)
                  rw [hq] at hc
                  have g5 : (rx.f1 != wrap64 (q + 1)) = false := by rw [hc]; simp
                  have g6 : (rx.f1 != IntKind.i64.wrap (q + 1)) = false := by rw [IntKind.wrap_i64]; unfold wrap64 at g5; exact g5
                  clear hq hc hlen
                  go_wp2
                  go_quiet (fail)
                  go_wp2
                  go_roundg (R.length - (x + 1).toNat)
                  case measure => have := HG.out; have := HL.out; omega
                  case rel => have hlb := HL.out; have hwr := wrap_up p0 (show x < 9223372036854775807 by omega); exact ⟨x + 1, by (first | rw [hwr] | rw [← hwr] | go_num), ⟨rfl, by omega, by omega⟩, ⟨by repeat (first | exact HB'.out | apply pw_below_drewN | apply below_drew1)⟩⟩
              · have g2 : decide (x < (l1.length : Int)) = false := decide_eq_false hn
                have hlen := HL.out
                by_cases hx0 : x = 0
                · subst hx0
                  obtain ⟨adG, eG, _, hg1, _⟩ := at_T36 HR1.out 0 (by omega) (by omega)
                  cases eG
                  replace hg1 := pw_cell_below HB'.out (pw_cell_below HB2.out hg1)
                  rw [← HA.out.2.1 rfl] at hg1
                  have h0a : ∀ a : Addr, a.add 0 = a := fun a => by simp [Addr.add]
                  simp only [Int.toNat_zero, Nat.zero_mul, h0a] at hy0 hy1 hg1
                  have z1 : decide ((0 : Int) < (l1.length : Int)) = false := g2
                  have z2 : decide (0 < l1.length) = false := decide_eq_false (by omega)
                  have z3 : 0 < R.length := by omega
                  have z4 : 0 < l0_1.length := by omega
                  have z6 : (0 : Int) < (l0_1.length : Int) := by omega
                  clear hlen
                  go_wp2
                  go_quiet (fail)
                  go_wp2
                  go_roundg (R.length - ((0 : Int) + 1).toNat)
                  case measure => have := HG.out; have := HL.out; omega
                  case rel => have hlb := HL.out; exact ⟨(0 : Int) + 1, by (first | rw [hwr] | rw [← hwr] | go_num), ⟨rfl, by omega, by omega⟩, ⟨by repeat (first | exact HB'.out | apply pw_below_drewN | apply below_drew1)⟩⟩
                · obtain ⟨adP, eP, _, _, hp2⟩ := at_T36 HLO.out (x - 1) (by omega) (by omega)
                  cases eP
                  replace hp2 := pw_cell_below HB'.out hp2
                  rw [show (x - 1).toNat = x.toNat - 1 from by omega] at hp2
                  have hd : IntKind.i64.wrap (x - 1) = x - 1 := IntWalk.i64_in _ (by omega)
                  have hd2 : wrap64 (x - 1) = x - 1 := by unfold wrap64; omega
                  have hd0 : 0 ≤ x - 1 := by omega
                  have hd1 : x - 1 < (R.length : Int) := by omega
                  have g3 : (x == 0) = false := beq_eq_false_iff_ne.2 hx0
                  have g4 : decide (0 < x) = true := decide_eq_true (by omega)
                  obtain ⟨q, hq⟩ : ∃ q, (rd_T36 R (x - 1)).f2 = q := ⟨_, rfl⟩
                  rw [hq] at hp2
                  have hc := HA.out.2.2 (by omega)
                  rw [hq] at hc
                  have g5 : (rx.f1 != wrap64 (q + 1)) = false := by rw [hc]; simp
                  have g6 : (rx.f1 != IntKind.i64.wrap (q + 1)) = false := by rw [IntKind.wrap_i64]; unfold wrap64 at g5; exact g5
                  clear hq hc hlen
                  go_wp2
                  go_quiet (fail)
                  go_wp2
                  go_roundg (R.length - (x + 1).toNat)
                  case measure => have := HG.out; have := HL.out; omega
                  case rel => have hlb := HL.out; have hwr := wrap_up p0 (show x < 9223372036854775807 by omega); exact ⟨x + 1, by (first | rw [hwr] | rw [← hwr] | go_num), ⟨rfl, by omega, by omega⟩, ⟨by repeat (first | exact HB'.out | apply pw_below_drewN | apply below_drew1)⟩⟩
        · have HAL' := HAL.out
          go_wp2_with fail
          refine (unicodetextlaw47_alive.calls k r _ HAL.out).mono ?_
          rintro e w9 ⟨rfl, hb9⟩
          have HB9 := Aside0.mk (below_step (below_step HB2.out HB.out) hb9)
          clear hb9
          go_wp2
          go_ret
          exact ⟨rfl, HB9.out⟩
    · obtain ⟨hl0, hal⟩ : R.length = 0 ∧ unicodetextlaw47_alive.f k = some r := by
        have h := H2.out
        rw [if_neg he] at h
        split at h
        · rename_i hc
          exact ⟨hc, h⟩
        · cases h
      have he2 : (eo != 0) = true := bne_iff_ne.2 he
      have g1 : ((R.length : Int) == 0) = true := by rw [hl0]; rfl
      clear H2 he hl0
      go_wp2_with fail
      refine (unicodetextlaw47_alive.calls k r _ hal).mono ?_
      rintro e w3 ⟨rfl, hb3⟩
      have HB3 := Aside0.mk (below_step HB2.out hb3)
      clear hb3
      go_wp2
      go_ret
      exact ⟨rfl, HB3.out⟩

end Go.Proofs.Ytfcpebjjcijgcaa.G
-- unicodetext/unicodetextref47.Move: by hand
namespace Go.Proofs.Ytfcpebjjcijgcaa.G
open Go.RowKit Go.Proofs.YtfcpebjjcijgcaaW.PrintWords Go.Proofs.YtfcpebjjcijgcaaW.PrintLast Go.Proofs.YtfcpebjjcijgcaaW.PrintMore
attribute [local go_sem] max2_int min2_int max_two min_two max_three min_three max_four min_four   -- for this text's walks alone
set_option linter.unusedVariables false
set_option linter.unusedSimpArgs false

-- BY HAND: function 16 (unicodetextref47_Move)
/-- The group that a weight lies in. -/
def inG (x : Int) (g : S36) : Bool := decide (g.f1 ≤ x) && decide (x ≤ g.f2)
def unicodetextref47_Move.f (k : Nat) (l0_0 : List (S49)) (l0_1 : List (S36)) (a0_2 : Int) (a0_3 : Int) (a0_4 : Int) (l1 : List ByteArray) (a2 : Int) : Option (Int) := (unicodetextref47_Order.f k l0_0 l0_1 a0_2 a0_3 a0_4 l1).bind fun b => if b.2 = 0 then (if fits l0_1 = true then (match l0_1.find? (inG a2) with | some g => (unicodetextref47_index.f k b.1 g.f0).bind fun j => if 0 ≤ j ∧ j < (b.1.length : Int) then some (wrap64 (wrap64 ((rd_T36 b.1 j).f1 + a2) - g.f1)) else none | none => some a2) else none) else some a2
theorem unicodetextref47_Move.mono : ∀ a0 a1 a2 a3 a4 a5 a6 k, LeO (unicodetextref47_Move.f k a0 a1 a2 a3 a4 a5 a6) (unicodetextref47_Move.f (k + 1) a0 a1 a2 a3 a4 a5 a6) := by
  intro a0 a1 a2 a3 a4 a5 a6 k
  unfold unicodetextref47_Move.f
  refine LeO.bind (unicodetextref47_Order.mono _ _ _ _ _ _ k) fun b => ?_
  refine LeO.ite (LeO.ite ?_ (LeO.refl _)) (LeO.refl _)
  split
  · exact LeO.bind (unicodetextref47_index.mono _ _ k) fun _ => LeO.refl _
  · exact LeO.refl _
set_option maxHeartbeats 1000000 in
theorem unicodetextref47_Move.calls (k : Nat) (A0_0 : Option Addr) (c0_0 : Nat) (l0_0 : List (S49)) (A0_1 : Option Addr) (c0_1 : Nat) (l0_1 : List (S36)) (a0_2 : Int) (a0_3 : Int) (a0_4 : Int) (A1 : Option Addr) (c1 : Nat) (l1 : List ByteArray) (a2 : Int) (r : Int) (w : World) (hr0_0 : Kd.C k49 w A0_0 l0_0.length l0_0) (hc0_0 : l0_0.length ≤ c0_0) (hr0_1 : Kd.C k36 w A0_1 l0_1.length l0_1) (hc0_1 : l0_1.length ≤ c0_1) (hr1 : Kd.C Kd.string w A1 l1.length l1) (hc1 : l1.length ≤ c1) (h : unicodetextref47_Move.f k l0_0 l0_1 a0_2 a0_3 a0_4 l1 a2 = some r) :
    Calls Try.prog 16 #[.agg #[.slice A0_0 l0_0.length c0_0, .slice A0_1 l0_1.length c0_1, .int .i64 a0_2, .int .i64 a0_3, .int .i64 a0_4], .slice A1 l1.length c1, .int .i64 a2] w fun e w' => e = .returned (.int .i64 r) ∧ Below w.heap.size w w' := by
  unfold unicodetextref47_Move.f at h
  obtain ⟨⟨lo, eo⟩, hE, h⟩ := Option.bind_eq_some_iff.mp h
  have HE := Aside0.mk hE
  have H := Aside0.mk h
  have HR0 := Aside0.mk hr0_0
  have HC0 := Aside0.mk hc0_0
  have HR1 := Aside0.mk hr0_1
  have HC1 := Aside0.mk hc0_1
  have HRN := Aside0.mk hr1
  have HCN := Aside0.mk hc1
  clear hE h hr0_0 hc0_0 hr0_1 hc0_1 hr1 hc1
  go_enter Try.func16, Try.ntmps16
  go_wp2_with fail
  have hb0 : Below w.heap.size w (w.alloc (.cells #[.slice A0_0 l0_0.length c0_0, .slice A0_1 l0_1.length c0_1, .int .i64 a0_2, .int .i64 a0_3, .int .i64 a0_4] 25)) := below_alloc (Below.refl _ _) _
  have hk0 := blk_new w (.cells #[.slice A0_0 l0_0.length c0_0, .slice A0_1 l0_1.length c0_1, .int .i64 a0_2, .int .i64 a0_3, .int .i64 a0_4] 25)
  refine (unicodetextref47_Order.calls k _ _ l0_0 _ _ l0_1 a0_2 a0_3 a0_4 _ _ l1 lo eo _ (Kd.C_below HR0.out hb0) HC0.out (Kd.C_below HR1.out hb0) HC1.out (Kd.C_below HRN.out hb0) HCN.out HE.out).mono ?_
  rintro e w1 ⟨v0, rfl, hR, hbc⟩
  have HB := Aside0.mk (below_step hb0 hbc)
  have HBK := Aside0.mk (blk_below hk0 hbc)
  obtain ⟨A, c, rfl, hlc, hC⟩ := Kd.R_reads hR
  have HC := Aside0.mk hC
  have HLC := Aside0.mk hlc
  clear hb0 hk0 hbc hR hC hlc
  by_cases he : eo = 0
  · subst he
    obtain ⟨hfit, hrest⟩ : fits l0_1 = true ∧ (match l0_1.find? (inG a2) with | some g => (unicodetextref47_index.f k lo g.f0).bind fun j => if 0 ≤ j ∧ j < (lo.length : Int) then some (wrap64 (wrap64 ((rd_T36 lo j).f1 + a2) - g.f1)) else none | none => some a2) = some r := by
      have h := H.out
      rw [if_pos rfl] at h
      by_cases hf : fits l0_1 = true
      · rw [if_pos hf] at h
        exact ⟨hf, h⟩
      · rw [if_neg hf] at h
        cases h
    have HF := Aside0.mk hfit
    have HRES := Aside0.mk hrest
    have hln := fits_len hfit
    have hca : w1.cell? ⟨w.heap.size, 1, none⟩ = some (.slice A0_1 l0_1.length c0_1) := (blk_cell HBK.out 1).trans rfl
    clear H hfit hrest
    go_wp2
    clear hca
    go_loopg [9] l0_1.length (fun g v9 w' => ∃ i : Nat, v9 = .int .i64 i ∧ Aside0 (g = l0_1.length - i ∧ i ≤ l0_1.length ∧ ∀ g, g ∈ l0_1.take i → inG a2 g = false) ∧ Aside0 (Below w1.heap.size w1 w'))
    case atStart => exact ⟨0, rfl, ⟨by simp, by omega, fun g hg => by simp at hg⟩, ⟨Below.refl _ _⟩⟩
    case round =>
      obtain ⟨i, rfl, HG, HBL⟩ := hrel
      have hca : wr.cell? ⟨w.heap.size, 1, none⟩ = some (.slice A0_1 l0_1.length c0_1) := (blk_cell (blk_below HBK.out HBL.out) 1).trans rfl
      by_cases hlt : i < l0_1.length
      · have hltz : (i : Int) < (l0_1.length : Int) := by omega
        have p0 : 0 ≤ (i : Int) := by omega
        obtain ⟨ad, e, hx0, hx1, hx2⟩ := at_T36 HR1.out (i : Int) p0 hltz
        cases e
        replace hx0 := pw_cell_below HBL.out (pw_cell_below HB.out hx0)
        replace hx1 := pw_cell_below HBL.out (pw_cell_below HB.out hx1)
        replace hx2 := pw_cell_below HBL.out (pw_cell_below HB.out hx2)
        have htk := take_rd p0 hltz
        have hgt := rd_get p0 hltz
        rw [show ((i : Int) + 1).toNat = i + 1 by omega, Int.toNat_natCast] at htk
        rw [Int.toNat_natCast] at hx0 hx1 hx2 hgt
        obtain ⟨gx, hgx⟩ : ∃ gx, rd_T36 l0_1 (i : Int) = gx := ⟨_, rfl⟩
        rw [hgx] at hx0 hx1 hx2 htk hgt
        have HTK := Aside0.mk htk
        have HGT := Aside0.mk hgt
        clear hgx htk hgt
        have hfind : inG a2 gx = true → l0_1.find? (inG a2) = some gx := fun hp => by
          rw [List.find?_eq_some_iff_getElem]
          obtain ⟨hi2, he⟩ := List.getElem?_eq_some_iff.1 HGT.out
          refine ⟨hp, i, hi2, he, fun j hj => ?_⟩
          have := HG.out.2.2 l0_1[j] (by
            have h2 : j < (l0_1.take i).length := by rw [List.length_take]; omega
            have := List.getElem_mem h2
            rwa [List.getElem_take] at this)
          rw [this]
          rfl
        have HFD := Aside0.mk hfind
        clear hfind
        by_cases h1 : gx.f1 ≤ a2
        · have h1' : decide (gx.f1 ≤ a2) = true := decide_eq_true h1
          by_cases h2 : a2 ≤ gx.f2
          · have h2' : decide (a2 ≤ gx.f2) = true := decide_eq_true h2
            obtain ⟨j, hij, hj0, hj1, hjr⟩ : ∃ j, unicodetextref47_index.f k lo gx.f0 = some j ∧ 0 ≤ j ∧ j < (lo.length : Int) ∧ wrap64 (wrap64 ((rd_T36 lo j).f1 + a2) - gx.f1) = r := by
              have h := HRES.out
              rw [HFD.out (by unfold inG; rw [h1', h2']; rfl)] at h
              obtain ⟨j, hj, h⟩ := Option.bind_eq_some_iff.mp h
              split at h
              · rename_i hc
                exact ⟨j, hj, hc.1, hc.2, Option.some.inj h⟩
              · cases h
            have HIJ := Aside0.mk hij
            have HJR := Aside0.mk hjr
            clear hij hjr
            obtain ⟨adj, ej, hy0, hy1, hy2⟩ := at_T36 HC.out j hj0 hj1
            cases ej
            replace hy1 := pw_cell_below (below_alloc HBL.out (Obj.cells #[Value.string gx.f0, Value.int IntKind.i64 gx.f1, Value.int IntKind.i64 gx.f2] 36)) hy1
            clear hy0 hy2
            go_wp2_with fail
            go_quiet ((go_at_call 28; (with_reducible refine (unicodetextref47_index.calls k _ _ lo gx.f0 j _ (Kd.C_below HC.out (by repeat (first | exact HBL.out | apply pw_below_drewN | apply below_alloc))) HLC.out HIJ.out).mono ?_); rintro e w' ⟨rfl, ⟨nd, rfl⟩⟩; (try first | exact ⟨rfl, _, World.drewN_drewN _ _ _⟩ | exact ⟨rfl, _, Eq.trans (World.drewN_drewN _ _ _) (congrArg (World.drewN _) (Nat.add_assoc _ _ _))⟩)))
            go_wp2
            go_ret
            exact ⟨by rw [← HJR.out]; rfl, below_step HB.out (by repeat (first | exact HBL.out | apply pw_below_drewN | apply below_alloc))⟩
          · have h2' : decide (a2 ≤ gx.f2) = false := decide_eq_false h2
            go_wp2
            go_roundg (l0_1.length - (i + 1))
            case measure => have := HG.out; omega
            case rel =>
              refine ⟨i + 1, by go_num, ⟨rfl, by omega, fun g hg => ?_⟩, ⟨below_alloc HBL.out _⟩⟩
              rw [HTK.out] at hg
              rcases List.mem_append.1 hg with hg | hg
              · exact HG.out.2.2 g hg
              · rw [List.mem_singleton.1 hg]; unfold inG; rw [h2', Bool.and_false]
        · have h1' : decide (gx.f1 ≤ a2) = false := decide_eq_false h1
          go_wp2
          go_roundg (l0_1.length - (i + 1))
          case measure => have := HG.out; omega
          case rel =>
            refine ⟨i + 1, by go_num, ⟨rfl, by omega, fun g hg => ?_⟩, ⟨below_alloc HBL.out _⟩⟩
            rw [HTK.out] at hg
            rcases List.mem_append.1 hg with hg | hg
            · exact HG.out.2.2 g hg
            · rw [List.mem_singleton.1 hg]; unfold inG; rw [h1', Bool.false_and]
      · have hres : r = a2 := by
          have h := HRES.out
          rw [List.find?_eq_none.2 (fun g hg => by
            rw [HG.out.2.2 g (by rw [List.take_of_length_le (by have := HG.out; omega)]; exact hg)]
            simp)] at h
          exact (Option.some.inj h).symm
        subst hres
        go_wp2
        go_ret
        exact ⟨rfl, below_step HB.out HBL.out⟩
  · have hres : a2 = r := by
      have h := H.out
      rw [if_neg he] at h
      exact Option.some.inj h
    have he2 : (eo != 0) = true := bne_iff_ne.2 he
    have HRES := Aside0.mk hres
    clear H he hres
    go_wp2
    go_ret
    exact ⟨by rw [← HRES.out]; rfl, HB.out⟩

end Go.Proofs.Ytfcpebjjcijgcaa.G
-- by hand: lemmas
namespace Go.Proofs.Ytfcpebjjcijgcaa.G
open Go.RowKit Go.Proofs.YtfcpebjjcijgcaaW.PrintWords Go.Proofs.YtfcpebjjcijgcaaW.PrintLast Go.Proofs.YtfcpebjjcijgcaaW.PrintMore
attribute [local go_sem] max2_int min2_int max_two min_two max_three min_three max_four min_four   -- for this text's walks alone
set_option linter.unusedVariables false
set_option linter.unusedSimpArgs false

/-! What the new order is -/
theorem nms_renum : ∀ (p : Int) (l : List S36), nms (renum p l) = nms l
  | _, [] => rfl
  | _, g :: l => by
    show g.f0 :: nms (renum _ l) = g.f0 :: nms l
    rw [nms_renum _ l]
theorem gOf_mem {G : List S36} {s : ByteArray} (h : memB s (nms G) = true) : gOf G s ∈ G ∧ (gOf G s).f0 = s := by
  obtain ⟨j, hj, he, hf, _⟩ := posI_get h
  unfold gOf
  rw [he, rdT36 hj]
  exact ⟨List.getElem_mem hj, hf⟩
theorem refRow_mem {G : List S36} {names : List ByteArray} (hall : ∀ s, s ∈ names → memB s (nms G) = true) {g : S36} (h : g ∈ refRow G names) : g ∈ G := by
  rcases List.mem_append.1 h with h | h
  · obtain ⟨s, hs, rfl⟩ := List.mem_map.1 h
    exact (gOf_mem (hall s hs)).1
  · exact (List.mem_filter.1 h).1
theorem nms_refRow {G : List S36} {names : List ByteArray} (hall : ∀ s, s ∈ names → memB s (nms G) = true) : nms (refRow G names) = names ++ (nms G).filter fun s => !memB s names := by
  unfold refRow nms
  rw [List.map_append, List.map_map, List.filter_map]
  congr 1
  conv => rhs; rw [← List.map_id names]
  exact List.map_congr_left fun s hs => (gOf_mem (hall s hs)).2
theorem refRow_nodup {G : List S36} {names : List ByteArray} (hall : ∀ s, s ∈ names → memB s (nms G) = true) (hn : names.Nodup) (hG : (nms G).Nodup) : (nms (refRow G names)).Nodup := by
  rw [nms_refRow hall, List.nodup_append]
  refine ⟨hn, (List.filter_sublist).nodup hG, fun a ha b hb e => ?_⟩
  subst e
  have := (List.mem_filter.1 hb).2
  rw [memB_iff.2 ha] at this
  cases this
theorem refRow_has {G : List S36} {names : List ByteArray} (hall : ∀ s, s ∈ names → memB s (nms G) = true) (s : ByteArray) : memB s (nms (refRow G names)) = memB s (nms G) := by
  rw [Bool.eq_iff_iff, memB_iff, memB_iff, nms_refRow hall, List.mem_append, List.mem_filter]
  constructor
  · rintro (h | h)
    · exact memB_iff.1 (hall s h)
    · exact h.1
  · intro h
    by_cases hm : memB s names = true
    · exact .inl (memB_iff.1 hm)
    · exact .inr ⟨h, by rw [Bool.eq_false_iff.2 hm]; rfl⟩
/-- Order has answered with no error. -/
structure Ordered (E : List S49) (G : List S36) (base b3 b4 : Int) (names : List ByteArray) (R : List S36) : Prop where
  c : chk E G base b3 b4 = 0
  all : ∀ s, s ∈ names → memB s (nms G) = true
  nd : names.Nodup
  r : R = renum (rd_T36 G 0).f1 (refRow G names)
theorem ordA_zero {E : List S49} {G : List S36} {base b3 b4 : Int} {names : List ByteArray} (h : (ordA E G base b3 b4 names).2 = 0) : Ordered E G base b3 b4 names (ordA E G base b3 b4 names).1 := by
  unfold ordA at h ⊢
  by_cases hc : chk E G base b3 b4 = 0
  · rw [if_pos hc] at h ⊢
    unfold rordP at h ⊢
    by_cases h1 : names.any (fun s => !memB s (nms G)) = true
    · rw [if_pos h1] at h
      cases h
    · rw [if_neg h1] at h ⊢
      by_cases h2 : names.Nodup
      · rw [if_pos h2]
        refine ⟨hc, fun s hs => ?_, h2, rfl⟩
        cases hm : memB s (nms G) with
        | true => rfl
        | false => exact absurd (List.any_eq_true.2 ⟨s, hs, by rw [hm]; rfl⟩) h1
      · rw [if_neg h2] at h
        cases h
  · rw [if_neg hc] at h
    exact absurd h hc
theorem ordA_bad {E : List S49} {G : List S36} {base b3 b4 : Int} {names : List ByteArray} (h : (ordA E G base b3 b4 names).2 ≠ 0) : (ordA E G base b3 b4 names).1 = [] := by
  unfold ordA at h ⊢
  by_cases hc : chk E G base b3 b4 = 0
  · rw [if_pos hc] at h ⊢
    unfold rordP at h ⊢
    by_cases h1 : names.any (fun s => !memB s (nms G)) = true
    · rw [if_pos h1]
    · rw [if_neg h1] at h ⊢
      by_cases h2 : names.Nodup
      · rw [if_pos h2] at h
        exact absurd rfl h
      · rw [if_neg h2]
  · rw [if_neg hc]
theorem Ordered.gr {E : List S49} {G : List S36} {base b3 b4 : Int} {names : List ByteArray} {R : List S36} (h : Ordered E G base b3 b4 names R) : (∀ g, g ∈ G → nameP g.f0 = true) ∧ (nms G).Nodup ∧ (∀ g, g ∈ G → 1 ≤ g.f1 ∧ g.f1 ≤ g.f2 ∧ g.f2 < base) ∧ inRow G = true := grErr_zero (chk_zero h.c).2.2
theorem Ordered.nms_eq {E : List S49} {G : List S36} {base b3 b4 : Int} {names : List ByteArray} {R : List S36} (h : Ordered E G base b3 b4 names R) : nms R = nms (refRow G names) := by rw [h.r, nms_renum]
theorem Ordered.nodup {E : List S49} {G : List S36} {base b3 b4 : Int} {names : List ByteArray} {R : List S36} (h : Ordered E G base b3 b4 names R) : (nms R).Nodup := by rw [h.nms_eq]; exact refRow_nodup h.all h.nd h.gr.2.1
theorem Ordered.has {E : List S49} {G : List S36} {base b3 b4 : Int} {names : List ByteArray} {R : List S36} (h : Ordered E G base b3 b4 names R) (s : ByteArray) : memB s (nms R) = memB s (nms G) := by rw [h.nms_eq]; exact refRow_has h.all s
theorem Ordered.row_len {E : List S49} {G : List S36} {base b3 b4 : Int} {names : List ByteArray} {R : List S36} (h : Ordered E G base b3 b4 names R) : (refRow G names).length = G.length := by rw [← sortG_row h.gr.2.1 h.nd h.all, sortG_length]
theorem Ordered.len {E : List S49} {G : List S36} {base b3 b4 : Int} {names : List ByteArray} {R : List S36} (h : Ordered E G base b3 b4 names R) : R.length = G.length := by rw [h.r, renum_length, h.row_len]
theorem fits_iff {l : List S36} : fits l = true ↔ l.length ≤ 1099511627776 ∧ ∀ s, s ∈ nms l → s.size ≤ 9223372036854775807 := by
  simp only [fits, Bool.and_eq_true, List.all_eq_true, decide_eq_true_eq, nms, List.mem_map]
  constructor
  · rintro ⟨h1, h2⟩
    exact ⟨h1, fun s ⟨g, hg, e⟩ => e ▸ h2 g hg⟩
  · rintro ⟨h1, h2⟩
    exact ⟨h1, fun g hg => h2 _ ⟨g, hg, rfl⟩⟩
theorem ordA_fits (E : List S49) (G : List S36) (base b3 b4 : Int) (names : List ByteArray) (hG : fits G = true) : fits (ordA E G base b3 b4 names).1 = true := by
  by_cases h : (ordA E G base b3 b4 names).2 = 0
  · have ho := ordA_zero h
    rw [fits_iff] at hG ⊢
    refine ⟨by rw [ho.len]; exact hG.1, fun s hs => hG.2 s ?_⟩
    rw [← memB_iff, ← ho.has, memB_iff]
    exact hs
  · rw [ordA_bad h]
    rfl
theorem loL_last : ∀ (l : List S36) (s : ByteArray), memB s (nms l) = false → ∀ a : Int, l.foldl (fun acc g => if g.f0 = s then g.f1 else acc) a = a
  | [], _, _, _ => rfl
  | g :: l, s, h, a => by
    have h : (decide (g.f0 = s) || memB s (nms l)) = false := h
    rw [Bool.or_eq_false_iff, decide_eq_false_iff_not] at h
    rw [List.foldl_cons, if_neg h.1]
    exact loL_last l s h.2 a
theorem loL_fold : ∀ (l : List S36) (_ : (nms l).Nodup) (j : Nat) (hj : j < l.length) (a : Int), l.foldl (fun acc g => if g.f0 = l[j].f0 then g.f1 else acc) a = l[j].f1
  | [], _, _, hj, _ => by simp at hj
  | g :: l, hd, j, hj, a => by
    have hd : ¬ g.f0 ∈ nms l ∧ (nms l).Nodup := List.nodup_cons.1 hd
    cases j with
    | zero =>
      rw [List.foldl_cons]
      simp only [List.getElem_cons_zero, if_true]
      exact loL_last l g.f0 (memB_false.2 hd.1) _
    | succ j =>
      rw [List.foldl_cons]
      simp only [List.getElem_cons_succ]
      exact loL_fold l hd.2 j (by simpa using hj) _
theorem loL_get {l : List S36} (hd : (nms l).Nodup) {j : Nat} (hj : j < l.length) : loL l l[j].f0 = l[j].f1 := loL_fold l hd j hj 0
/-- The group of a name begins where loL says. -/
theorem loL_pos {l : List S36} (hd : (nms l).Nodup) {s : ByteArray} (hs : memB s (nms l) = true) : loL l s = (rd_T36 l (posI l s)).f1 := by
  obtain ⟨j, hj, he, hf, _⟩ := posI_get hs
  rw [he, rdT36 hj, ← hf, loL_get hd hj]
section
variable (E : List S49) (G : List S36) (base b3 b4 : Int) (names : List ByteArray) (hE : eFits E) (hG : fits G = true) (h8 : G.length ≤ 8) (hN : namesFit names = true)
include hE hG h8 hN
/-- The answer to Move. -/
def movA (E : List S49) (G : List S36) (base b3 b4 : Int) (names : List ByteArray) (x : Int) : Int := if (ordA E G base b3 b4 names).2 = 0 then moveP G (ordA E G base b3 b4 names).1 x else x
theorem gmove_ev (x : Int) : Ev (fun k => groups_Move.f k E G base b3 b4 names x) (movA E G base b3 b4 names x) := move_ev E G base b3 b4 names x hE hG h8 hN (ordA_fits E G base b3 b4 names hG)
theorem rmove_ev (x : Int) : Ev (fun k => unicodetextref47_Move.f k E G base b3 b4 names x) (movA E G base b3 b4 names x) := by
  refine Ev.bind (rorder_ev' E G base b3 b4 names hE hG h8 hN) ?_
  unfold movA
  by_cases h : (ordA E G base b3 b4 names).2 = 0
  · have ho := ordA_zero h
    generalize (ordA E G base b3 b4 names).1 = R at ho
    simp only [h, if_true, if_pos hG]
    unfold moveP
    show Ev (fun k => match G.find? (inG x) with | some g => (unicodetextref47_index.f k R g.f0).bind fun j => if 0 ≤ j ∧ j < (R.length : Int) then some (wrap64 (wrap64 ((rd_T36 R j).f1 + x) - g.f1)) else none | none => some x) (match G.find? (inG x) with | some g => wrap64 (wrap64 (x - g.f1) + if memB g.f0 (nms R) = true then loL R g.f0 else 0) | none => x)
    cases hf : G.find? (inG x) with
    | none => exact Ev.now _
    | some g =>
      have hg : g ∈ G := List.mem_of_find?_eq_some hf
      have hm : memB g.f0 (nms R) = true := by
        rw [ho.has]
        exact memB_iff.2 (List.mem_map.2 ⟨g, hg, rfl⟩)
      obtain ⟨j, hj, he, hf2, _⟩ := posI_get hm
      refine Ev.bind (rindex_ev R g.f0 (by rw [ho.len]; omega)) ?_
      simp only [hm, if_true]
      rw [if_pos ⟨by omega, by omega⟩, loL_pos ho.nodup hm]
      rw [show wrap64 (wrap64 (x - g.f1) + (rd_T36 R (posI R g.f0)).f1) = wrap64 (wrap64 ((rd_T36 R (posI R g.f0)).f1 + x) - g.f1) by unfold wrap64; omega]
      exact Ev.now _
  · simp only [h, if_false]
    exact Ev.now _
end
/-- What a small collation and few names bring along. -/
theorem few_fits {E : List S49} {G : List S36} {names : List ByteArray} (hsG : ∀ g, g ∈ G → g.f0.size ≤ 9223372036854775807) (hsN : ∀ s, s ∈ names → s.size ≤ 9223372036854775807) (hf : (smallP E G && decide (names.length ≤ 12)) = true) : eFits E ∧ fits G = true ∧ G.length ≤ 8 ∧ namesFit names = true ∧ names.length ≤ 12 := by
  simp only [Bool.and_eq_true, decide_eq_true_eq] at hf
  obtain ⟨hE, h8⟩ := small_fits hf.1
  refine ⟨hE, ?_, h8, ?_, hf.2⟩
  · simp only [fits, Bool.and_eq_true, List.all_eq_true, decide_eq_true_eq]
    exact ⟨by omega, hsG⟩
  · simp only [namesFit, Bool.and_eq_true, List.all_eq_true, decide_eq_true_eq]
    exact ⟨by omega, hsN⟩

end Go.Proofs.Ytfcpebjjcijgcaa.G
-- by hand: lemmas
namespace Go.Proofs.Ytfcpebjjcijgcaa.G
open Go.RowKit Go.Proofs.YtfcpebjjcijgcaaW.PrintWords Go.Proofs.YtfcpebjjcijgcaaW.PrintLast Go.Proofs.YtfcpebjjcijgcaaW.PrintMore
attribute [local go_sem] max2_int min2_int max_two min_two max_three min_three max_four min_four   -- for this text's walks alone
set_option linter.unusedVariables false
set_option linter.unusedSimpArgs false

/-! GroupsFollow -/
theorem renum_get : ∀ (l : List S36) (p : Int) (i : Nat) (hi : i < (renum p l).length) (hl : i < l.length), (renum p l)[i].f0 = l[i].f0 ∧ wrap64 ((renum p l)[i].f2 - (renum p l)[i].f1) = wrap64 (l[i].f2 - l[i].f1) ∧ (i = 0 → (renum p l)[i].f1 = p)
  | [], _, _, hi, _ => by simp [renum] at hi
  | g :: l, p, i, hi, hl => by
    cases i with
    | zero =>
      refine ⟨rfl, ?_, fun _ => rfl⟩
      show wrap64 (wrap64 (wrap64 (p + g.f2) - g.f1) - p) = wrap64 (g.f2 - g.f1)
      unfold wrap64
      omega
    | succ i =>
      have hi2 : i < (renum (wrap64 (wrap64 (wrap64 (p + g.f2) - g.f1) + 1)) l).length := by rw [renum_length]; simpa using hl
      obtain ⟨h1, h2, _⟩ := renum_get l (wrap64 (wrap64 (wrap64 (p + g.f2) - g.f1) + 1)) i hi2 (by simpa using hl)
      exact ⟨h1, h2, fun h => by omega⟩
theorem renum_next : ∀ (l : List S36) (p : Int) (i : Nat) (hi : i + 1 < (renum p l).length), (renum p l)[i + 1].f1 = wrap64 ((renum p l)[i].f2 + 1)
  | [], _, _, hi => by simp [renum] at hi
  | g :: l, p, i, hi => by
    have hl : i < l.length := by rw [renum_length] at hi; simpa using hi
    have hi2 : i < (renum (wrap64 (wrap64 (wrap64 (p + g.f2) - g.f1) + 1)) l).length := by rw [renum_length]; exact hl
    cases i with
    | zero => exact (renum_get l _ 0 hi2 hl).2.2 rfl
    | succ i => exact renum_next l (wrap64 (wrap64 (wrap64 (p + g.f2) - g.f1) + 1)) i hi2
theorem ordered_follow {E : List S49} {G : List S36} {base b3 b4 : Int} {names : List ByteArray} {R : List S36} (h : Ordered E G base b3 b4 names R) (h8 : G.length ≤ 8) : followP G names R := by
  have hlen := h.len
  have hrl := h.row_len
  have hR := h.r
  refine ⟨hlen, ?_, by omega, fun x h0 hx => ?_⟩
  · rw [hlen, ← hrl]
    unfold refRow
    rw [List.length_append, List.length_map]
    omega
  · obtain ⟨i, rfl⟩ : ∃ i : Nat, x = (i : Int) := ⟨x.toNat, by omega⟩
    have hi : i < R.length := by omega
    have hil : i < (refRow G names).length := by omega
    subst hR
    rw [rdT36 hi]
    obtain ⟨g1, g2, g3⟩ := renum_get (refRow G names) _ i hi hil
    refine ⟨?_, fun hn => ?_, fun hz => ?_, fun hp => ?_⟩
    · rw [List.any_eq_true]
      refine ⟨(refRow G names)[i], refRow_mem h.all (List.getElem_mem hil), ?_⟩
      unfold matchG
      rw [decide_eq_true g1.symm, decide_eq_true g2.symm]
      rfl
    · have hn : i < names.length := by omega
      rw [g1, rdN hn]
      have e1 : (refRow G names)[i] = gOf G names[i] := by
        have h2 : (refRow G names)[i]? = some (gOf G names[i]) := by
          unfold refRow
          rw [List.getElem?_append_left (by rw [List.length_map]; exact hn), List.getElem?_map, List.getElem?_eq_getElem hn]
          rfl
        exact (List.getElem?_eq_some_iff.1 h2).2
      rw [e1]
      exact (gOf_mem (h.all _ (List.getElem_mem hn))).2
    · exact g3 (by omega)
    · obtain ⟨j, rfl⟩ : ∃ j, i = j + 1 := ⟨i - 1, by omega⟩
      rw [show ((j + 1 : Nat) : Int) - 1 = (j : Int) by omega, rdT36 (show j < _ by omega)]
      exact renum_next _ _ j hi
theorem follow_law (E : List S49) (G : List S36) (base b3 b4 : Int) (names : List ByteArray) (hsG : ∀ g, g ∈ G → g.f0.size ≤ 9223372036854775807) (hsN : ∀ s, s ∈ names → s.size ≤ 9223372036854775807) : ∃ k, unicodetextlaw47_GroupsFollow.f k E G base b3 b4 names = some true := by
  refine Ev.rounds ?_
  refine Ev.bind (few_ev E G base b3 b4 names) ?_
  by_cases hf : (smallP E G && decide (names.length ≤ 12)) = true
  · simp only [hf, if_true]
    obtain ⟨hE, hG, h8, hN, _⟩ := few_fits hsG hsN hf
    refine Ev.bind (order_ev E G base b3 b4 names hE hG h8 hN) ?_
    by_cases h : (ordA E G base b3 b4 names).2 = 0
    · simp only [h, if_true]
      simp only [if_pos (ordered_follow (ordA_zero h) h8)]
      exact alive_ev
    · simp only [h, if_false]
      simp only [ordA_bad h, List.length_nil, if_true]
      exact alive_ev
  · simp only [hf, if_false]
    exact alive_ev

end Go.Proofs.Ytfcpebjjcijgcaa.G
namespace Go.Proofs.Ytfcpebjjcijgcaa.groupsFollow
open Go.ChangeShapes Go.WideShapes Go.ChangeAt Go.RowKit Go.Proofs.YtfcpebjjcijgcaaW.PrintWords Go.Proofs.YtfcpebjjcijgcaaW.PrintLast Go.Proofs.YtfcpebjjcijgcaaW.PrintMore Go.Proofs.Ytfcpebjjcijgcaa.G
theorem own : ownKnob Try.prog.godebug = none := by kernel_rfl
theorem laidOut : laidOutB Try.prog = true := by kernel_rfl
set_option maxRecDepth 100000 in
theorem lifted (os : Os) (started : os.Started) (H : Type) (enc : TypeId × Value → H) :
    ReturnsInHanded {} Try.checked os 5 .any (Rows.groupsFollowSpec.pre6 enc Try.prog Try.f5 Rows.groupsFollowRow.domain false) (Rows.groupsFollowSpec.post enc Try.prog Try.f5 false true false false) := by
  refine returnsInHanded_of_change_sized (C := Try.checked) own started (by kernel_rfl) Try.func5
    (ChangeSpec.witness6 (enc := enc) (C := Try.checked) false ⟨#[], #[.agg #[.slice none 0 0, .slice none 0 0, .int .i64 0, .int .i64 0, .int .i64 0], .slice none 0 0], []⟩ 8 (by kernel_rfl) (by kernel_rfl) (by kernel_rfl) (by kernel_rfl)) ?_
  intro W base args ds gs before hval0 hW hcnd hsz0 _
  have hval : ∀ (j : Nat) t v, Try.f5.params[j]? = some t → args[j]? = some v → Value.okWide Try.prog W .any base t v := hval0
  have hW' := hW
  obtain ⟨p, q, hA0, hV, rfl, hfz, hnd⟩ := hW
  have hA : DataW.TrodAll enc Try.prog W 0 (fun _ => true) true Try.f5.params.toList args.toList ds p := hA0
  rw [Try.params5] at hA hval
  obtain ⟨v0, vs0, d0, ds0, p0, q0, hargs, rfl, rfl, h0, r0⟩ := trodAll_cons hA
  obtain ⟨v1, vs1, d1, ds1, p1, q1, rfl, rfl, rfl, h1, r1⟩ := trodAll_cons r0
  obtain ⟨rfl, rfl, rfl⟩ := trodAll_nil r1
  obtain rfl : args = #[v0, v1] := by cases args; simp_all
  obtain ⟨rfl, rfl⟩ := trodVars_none hV
  obtain ⟨cs0, rfl, _⟩ := okWide_struct Try.underlying25 (hval 0 25 v0 rfl rfl)
  have k0 := h0
  have lt0 : ∀ x ∈ p0, x.block < W.heap.size := by obtain ⟨m, hm⟩ := k0; exact DataW.trod_lt m _ _ _ hm
  obtain ⟨m0, hm0⟩ := h0
  obtain ⟨A0, c0, E, A1, c1, G, b2, b3, b4, hc0, l0, g0, l1, g1, hsG⟩ := opens_coll hm0
  obtain rfl : cs0 = #[.slice A0 E.length c0, .slice A1 G.length c1, .int .i64 b2, .int .i64 b3, .int .i64 b4] := Array.toList_inj.1 hc0
  obtain ⟨a1, len1, cap1, rfl⟩ := okWide_slice Try.underlying26 (hval 1 26 v1 rfl rfl)
  have k1 := h1
  have lt1 : ∀ x ∈ p1, x.block < W.heap.size := by obtain ⟨m, hm⟩ := k1; exact DataW.trod_lt m _ _ _ hm
  obtain ⟨m1, hm1⟩ := h1
  obtain ⟨A2, c2, L, hc1, l2, g2, hsN⟩ := opens_names hm1
  have hc1 : [Value.slice a1 len1 cap1] = [.slice A2 L.length c2] := hc1
  simp only [List.cons.injEq, Value.slice.injEq, and_true] at hc1
  obtain ⟨rfl, rfl, rfl⟩ := hc1
  clear hA0 hval0 hsz0
  obtain ⟨k, hk⟩ := follow_law E G b2 b3 b4 L hsG hsN
  refine (unicodetextlaw47_GroupsFollow.calls k A0 c0 E A1 c1 G b2 b3 b4 a1 cap1 L true W g0 l0 g1 l1 g2 l2 hk).mono fun e W' ⟨he, bel⟩ => ?_
  subst he
  exact ⟨_, rfl, _, _, _, [], _, [], hW', trodAll_mk1 (shut_bool Try.underlying4 _), (trodAll_cons_mk (Below.trod laidOut (by kernel_rfl) (of_decide_eq_true (by kernel_rfl)) k0 bel lt0) (trodAll_cons_mk (Below.trod laidOut (by kernel_rfl) (of_decide_eq_true (by kernel_rfl)) k1 bel lt1) trodAll_mk0)), rfl, bel.frame _, fun h => by cases h⟩
theorem over : Rows.groupsFollowRow.holds Try.pinned (OpenSpec.ofChange Rows.groupsFollowSpec) :=
  OpenClaim.holds_of_wide 5 Try.f5 rfl rfl rfl rfl rfl rfl rfl ⟨rfl, rfl, rfl, rfl, rfl⟩ rfl rfl rfl rfl rfl (by kernel_rfl) Try.func5 (by kernel_rfl)
    (of_decide_eq_true (by kernel_rfl)) (by unfold Func.isWrapper; first | (rw [if_pos (by decide +kernel)]; kernel_rfl) | (rw [if_neg (by decide +kernel)]; exact ⟨rfl, rfl⟩))
    (fun os started H enc _ => lifted os started H enc)
theorem proved : Rows.GroupsFollowSaid := over
#print axioms proved
end Go.Proofs.Ytfcpebjjcijgcaa.groupsFollow
namespace Go.Proofs.Ytfcpebjjcijgcaa
/-- The row, under a short name, for the claim. -/
theorem groupsFollow_holds : Rows.GroupsFollowSaid := groupsFollow.proved
end Go.Proofs.Ytfcpebjjcijgcaa
