/- PROVED HERE: the law GroupsElements of the groups (Apply changes only the groups and the primary weights) is true for every input. Conditions: none. Out of the printed and hand-made walks and of plain Lean laws. -/
import Derived.Below
import Derived.BigQuiet
import Derived.BigRegion
import Derived.ChangeArms
import Derived.ChangeOld
import Derived.DataReads
import Derived.Deep.RegionHeld3
import Derived.OpenShut
import Derived.Outline
import Derived.ProofKit
import Derived.ShutString
import Derived.SizedLaws
import Derived.Test.YtfcpebjjcijgcaaD0
import Derived.Test.YtfcpebjjcijgcaaD1
import Derived.Test.YtfcpebjjcijgcaaRows
import Derived.WalkKit
-- unicodetext/groups.Apply: by hand
namespace Go.Proofs.Ytfcpebjjcijgcaa.G
open Go.RowKit Go.Proofs.YtfcpebjjcijgcaaW.PrintWords Go.Proofs.YtfcpebjjcijgcaaW.PrintLast Go.Proofs.YtfcpebjjcijgcaaW.PrintMore
attribute [local go_sem] max2_int min2_int max_two min_two max_three min_three max_four min_four   -- for this text's walks alone
set_option linter.unusedVariables false
set_option linter.unusedSimpArgs false
-- BY HAND: function 18 (groups_Apply)
/-- An entry whose weights have moved. -/
def moveE (old fresh : List S36) (e : S49) : S49 := ⟨e.f0, e.f1.map fun x => ⟨moveP old fresh x.f0, x.f1, x.f2, x.f3⟩⟩
/-- Entries of a size that the walk bears. -/
def eSmall (E : List S49) : Bool := decide (E.length ≤ 1000000) && E.all fun e => decide (e.f0.length ≤ 1000000) && decide (e.f1.length ≤ 1000000)
theorem eSmall_len {E : List S49} (h : eSmall E = true) : E.length ≤ 1000000 ∧ ∀ e, e ∈ E → e.f0.length ≤ 1000000 ∧ e.f1.length ≤ 1000000 := by
  simpa [eSmall] using h
theorem put5 {w : World} {g t : Nat} {a b c d e a' b' c' d' e' : Value} (h : w.heap[g]? = some (.cells #[a, b, c, d, e] t (0, 0))) : (((((w.setCell ⟨g, 0, none⟩ a').setCell ⟨g, 1, none⟩ b').setCell ⟨g, 2, none⟩ c').setCell ⟨g, 3, none⟩ d').setCell ⟨g, 4, none⟩ e').heap[g]? = some (.cells #[a', b', c', d', e'] t (0, 0)) :=
  blk_put (blk_put (blk_put (blk_put (blk_put h 0 _ rfl) 1 _ rfl) 2 _ rfl) 3 _ rfl) 4 _ rfl
theorem S_put5 {α : Type} {k : Kd α} {ty base g t : Nat} {cs : Array Value} {w : World} {v a' b' c' d' e' : Value} {xs : List α} (h : Kd.S k ty w base (fun _ => True) v xs) (hb : w.heap[g]? = some (.cells cs t (0, 0))) (ht : ∀ q, q ∈ ty :: k.E → q ≠ t) : Kd.S k ty (((((w.setCell ⟨g, 0, none⟩ a').setCell ⟨g, 1, none⟩ b').setCell ⟨g, 2, none⟩ c').setCell ⟨g, 3, none⟩ d').setCell ⟨g, 4, none⟩ e') base (fun _ => True) v xs :=
  Kd.S_mono (Kd.S_far (p := ⟨g, 4, none⟩) (Kd.S_far (p := ⟨g, 3, none⟩) (Kd.S_far (p := ⟨g, 2, none⟩) (Kd.S_far (p := ⟨g, 1, none⟩) (Kd.S_far (p := ⟨g, 0, none⟩) (Kd.S_types h hb ht) (fun _ hk => hk.2) _) (fun _ hk => hk.2) _) (fun _ hk => hk.2) _) (fun _ hk => hk.2) _) (fun _ hk => hk.2) _) (fun _ _ => trivial)
theorem R_put5 {α : Type} {k : Kd α} {ty base g t : Nat} {cs : Array Value} {w : World} {v a' b' c' d' e' : Value} {xs : List α} (h : Kd.R k ty w base (fun _ => True) v xs) (hb : w.heap[g]? = some (.cells cs t (0, 0))) (ht : ∀ q, q ∈ ty :: k.E → q ≠ t) : Kd.R k ty (((((w.setCell ⟨g, 0, none⟩ a').setCell ⟨g, 1, none⟩ b').setCell ⟨g, 2, none⟩ c').setCell ⟨g, 3, none⟩ d').setCell ⟨g, 4, none⟩ e') base (fun _ => True) v xs :=
  Kd.R_mono (Kd.R_far (p := ⟨g, 4, none⟩) (Kd.R_far (p := ⟨g, 3, none⟩) (Kd.R_far (p := ⟨g, 2, none⟩) (Kd.R_far (p := ⟨g, 1, none⟩) (Kd.R_far (p := ⟨g, 0, none⟩) (Kd.R_types h hb ht) (fun _ hk => hk.2) _) (fun _ hk => hk.2) _) (fun _ hk => hk.2) _) (fun _ hk => hk.2) _) (fun _ hk => hk.2) _) (fun _ _ => trivial)
theorem below_put5 {w W : World} {g : Nat} {a' b' c' d' e' : Value} (h : Below w.heap.size w W) (hg : w.heap.size ≤ g) : Below w.heap.size w (((((W.setCell ⟨g, 0, none⟩ a').setCell ⟨g, 1, none⟩ b').setCell ⟨g, 2, none⟩ c').setCell ⟨g, 3, none⟩ d').setCell ⟨g, 4, none⟩ e') :=
  below_set (below_set (below_set (below_set (below_set h hg) hg) hg) hg) hg
def mvEl (old fresh : List S36) (x : S51) : S51 := ⟨moveP old fresh x.f0, x.f1, x.f2, x.f3⟩
theorem set_step {α : Type} (f : α → α) (l : List α) (y : Nat) (a : α) (h : l[y]? = some a) : ((l.take y).map f ++ l.drop y).set y (f a) = (l.take (y + 1)).map f ++ l.drop (y + 1) := by
  obtain ⟨hl, e⟩ := List.getElem?_eq_some_iff.1 h
  rw [List.set_append_right _ _ (by simp; omega), show y - ((l.take y).map f).length = 0 by simp; omega, List.drop_eq_getElem_cons hl, List.set_cons_zero, List.take_succ_eq_append_getElem hl, e]
  simp
theorem get_step {α : Type} (f : α → α) (l : List α) (y : Nat) (h : y < l.length) : ((l.take y).map f ++ l.drop y)[y]? = l[y]? := by
  rw [List.getElem?_append_right (by simp; omega), List.getElem?_drop]
  simp [Nat.min_eq_left (Nat.le_of_lt h)]
theorem MoverAt.kept {W w1 : World} {gO gK gM : Nat} {A0 : Option Addr} {c0 : Nat} {old fresh : List S36} (h : MoverAt W gO gK gM A0 c0 old fresh) (hO : w1.heap[gO]? = W.heap[gO]?) (hK : w1.heap[gK]? = W.heap[gK]?) (hM : w1.heap[gM]? = W.heap[gM]?) (hC : Kd.C k36 w1 A0 old.length old) : MoverAt w1 gO gK gM A0 c0 old fresh :=
  ⟨hO.trans h.o, hK.trans h.k, h.m.move hM, hC⟩
def groups_Apply.T13 : Bool × List (List Nat × List Nat) := (true, [([], []), ([0], [0]), ([], []), ([], []), ([], []), ([4], [4]), ([], []), ([5, 6], [5, 6]), ([7], [7]), ([8], [8]), ([3, 9], [3, 9]), ([1, 2, 0, 1, 2, 3, 4, 5, 6, 7, 8, 9, 10], [1, 2]), ([11, 0, 1, 2, 3, 4, 5, 6, 7, 8, 9, 10], [11]), ([12, 10, 10, 0, 1, 2, 3, 4, 5, 6, 7, 8, 9, 10], [10, 12])])
def groups_Apply.B13 : List Nat := [0, 1, 0, 0, 0, 16, 0, 112, 240, 496, 1016, 2047, 4095, 8191]
theorem groups_Apply.tab13 : rtab .any (opsOf Try.f18 13) = groups_Apply.T13 := by kernel_rfl
theorem groups_Apply.bits13 : waitsOk groups_Apply.T13.2 groups_Apply.B13 = true := by kernel_rfl
def groups_Apply.f (k : Nat) (l0_0 : List (S49)) (l0_1 : List (S36)) (a0_2 : Int) (a0_3 : Int) (a0_4 : Int) (l1 : List ByteArray) : Option ((List (S49)) × (List (S36)) × Int × Int × Int × Int) := (groups_Order.f k l0_0 l0_1 a0_2 a0_3 a0_4 l1).bind fun b => if b.2 = 0 then (if fits l0_1 = true ∧ fits b.1 = true ∧ eSmall l0_0 = true then some (l0_0.map (moveE l0_1 b.1), b.1, a0_2, a0_3, a0_4, 0) else none) else some ([], [], 0, 0, 0, b.2)
set_option maxHeartbeats 4000000 in
set_option maxRecDepth 100000 in
theorem groups_Apply.calls (k : Nat) (A0_0 : Option Addr) (c0_0 : Nat) (l0_0 : List (S49)) (A0_1 : Option Addr) (c0_1 : Nat) (l0_1 : List (S36)) (a0_2 : Int) (a0_3 : Int) (a0_4 : Int) (A1 : Option Addr) (c1 : Nat) (l1 : List ByteArray) (r1 : List (S49)) (r2 : List (S36)) (r3 : Int) (r4 : Int) (r5 : Int) (r6 : Int) (w : World) (hr0_0 : Kd.C k49 w A0_0 l0_0.length l0_0) (hc0_0 : l0_0.length ≤ c0_0) (hr0_1 : Kd.C k36 w A0_1 l0_1.length l0_1) (hc0_1 : l0_1.length ≤ c0_1) (hr1 : Kd.C Kd.string w A1 l1.length l1) (hc1 : l1.length ≤ c1) (h : groups_Apply.f k l0_0 l0_1 a0_2 a0_3 a0_4 l1 = some (r1, r2, r3, r4, r5, r6)) :
    Calls Try.prog 18 #[.agg #[.slice A0_0 l0_0.length c0_0, .slice A0_1 l0_1.length c0_1, .int .i64 a0_2, .int .i64 a0_3, .int .i64 a0_4], .slice A1 l1.length c1] w fun e w' => ∃ v0_ v1_ : Value, e = .returned (.tuple #[.agg #[v0_, v1_, .int .i64 r3, .int .i64 r4, .int .i64 r5], .int .i64 r6]) ∧ Kd.S k49 49 w' w.heap.size (fun _ => True) v0_ r1 ∧ Kd.R k36 36 w' w.heap.size (fun _ => True) v1_ r2 ∧ Below w.heap.size w w' := by
  unfold groups_Apply.f at h
  obtain ⟨⟨R, eo⟩, hO, h⟩ := Option.bind_eq_some_iff.mp h
  have HO := Aside0.mk hO
  have H := Aside0.mk h
  have HR0 := Aside0.mk hr0_0
  have HC0 := Aside0.mk hc0_0
  have HR1 := Aside0.mk hr0_1
  have HC1 := Aside0.mk hc0_1
  have HRN := Aside0.mk hr1
  have HCN := Aside0.mk hc1
  clear hO h hr0_0 hc0_0 hr0_1 hc0_1 hr1 hc1
  go_enter Try.func18, Try.ntmps18
  go_wp2_with fail
  have hb0 : Below w.heap.size w ((w.alloc (.cells #[.slice A0_0 l0_0.length c0_0, .slice A0_1 l0_1.length c0_1, .int .i64 a0_2, .int .i64 a0_3, .int .i64 a0_4] 25)).alloc (.cells #[.slice none 0 0, .slice none 0 0, .int .i64 0, .int .i64 0, .int .i64 0] 25)) := below_alloc (below_alloc (Below.refl _ _) _) _
  have hk0 := blk_alloc (blk_new w (.cells #[.slice A0_0 l0_0.length c0_0, .slice A0_1 l0_1.length c0_1, .int .i64 a0_2, .int .i64 a0_3, .int .i64 a0_4] 25)) (.cells #[.slice none 0 0, .slice none 0 0, .int .i64 0, .int .i64 0, .int .i64 0] 25)
  have hk1 := blk_new (w.alloc (.cells #[.slice A0_0 l0_0.length c0_0, .slice A0_1 l0_1.length c0_1, .int .i64 a0_2, .int .i64 a0_3, .int .i64 a0_4] 25)) (.cells #[.slice none 0 0, .slice none 0 0, .int .i64 0, .int .i64 0, .int .i64 0] 25)
  rw [show (w.alloc (.cells #[.slice A0_0 l0_0.length c0_0, .slice A0_1 l0_1.length c0_1, .int .i64 a0_2, .int .i64 a0_3, .int .i64 a0_4] 25)).heap.size = w.heap.size + 1 by simp] at hk1
  generalize ((w.alloc (.cells #[.slice A0_0 l0_0.length c0_0, .slice A0_1 l0_1.length c0_1, .int .i64 a0_2, .int .i64 a0_3, .int .i64 a0_4] 25)).alloc (.cells #[.slice none 0 0, .slice none 0 0, .int .i64 0, .int .i64 0, .int .i64 0] 25)) = w0 at hb0 hk0 hk1 ⊢
  refine (groups_Order.calls k _ _ l0_0 _ _ l0_1 a0_2 a0_3 a0_4 _ _ l1 R eo w0 (Kd.C_below HR0.out hb0) HC0.out (Kd.C_below HR1.out hb0) HC1.out (Kd.C_below HRN.out hb0) HCN.out HO.out).mono ?_
  rintro e w1 ⟨v0, rfl, hR, hb1⟩
  obtain ⟨A, c, rfl, hlc, hC⟩ := Kd.R_reads hR
  have HB1 := Aside0.mk (below_step hb0 hb1)
  have HK1 := Aside0.mk (blk_below hk0 hb1)
  have HT1 := Aside0.mk (blk_below hk1 hb1)
  have HRR1 := Aside0.mk (Kd.R_lower hR hb0.size)
  clear hb0 hk0 hk1 hR hlc hC hb1
  by_cases he : eo = 0
  · subst he
    obtain ⟨hf0, hf1, hes, rfl, rfl, rfl, rfl, rfl, rfl⟩ : fits l0_1 = true ∧ fits R = true ∧ eSmall l0_0 = true ∧ l0_0.map (moveE l0_1 R) = r1 ∧ R = r2 ∧ a0_2 = r3 ∧ a0_3 = r4 ∧ a0_4 = r5 ∧ 0 = r6 := by
      have h := H.out
      rw [if_pos rfl] at h
      split at h
      · rename_i hc
        simp only [Option.some.injEq, Prod.mk.injEq] at h
        obtain ⟨h1, h2, h3, h4, h5, h6⟩ := h
        exact ⟨hc.1, hc.2.1, hc.2.2, h1, h2, h3, h4, h5, h6⟩
      · cases h
    have HF0 := Aside0.mk hf0
    have HF1 := Aside0.mk hf1
    have HES := Aside0.mk (eSmall_len hes)
    clear H hf0 hf1 hes
    have hz1 : w1.cell? ⟨w.heap.size, 1, none⟩ = some (.slice A0_1 l0_1.length c0_1) := (blk_cell HK1.out 1).trans rfl
    go_wp2_with fail
    clear hz1
    refine (mover_calls A0_1 c0_1 l0_1 A c R w1 (Kd.C_below HR1.out HB1.out) (Kd.R_reads' HRR1.out).2.2 HF1.out).mono ?_
    rintro e w2 ⟨gO, gK, gM, rfl, hmv, hgO, hgK, hgM, hb2⟩
    have HMV := Aside0.mk hmv
    have HB2 := Aside0.mk (below_step HB1.out hb2)
    have HK2 := Aside0.mk (blk_below HK1.out hb2)
    have HT2 := Aside0.mk (blk_below HT1.out hb2)
    have HRR2 := Aside0.mk (Kd.R_below HRR1.out hb2)
    have hz0 : (w2.alloc (.cells #[.slice none 0 0, .slice A R.length c, .int .i64 a0_2, .int .i64 a0_3, .int .i64 a0_4] 25)).cell? ⟨w.heap.size, 0, none⟩ = some (.slice A0_0 l0_0.length c0_0) := (blk_cell (blk_alloc HK2.out _) 0).trans rfl
    have hz2 : w2.cell? ⟨w.heap.size, 2, none⟩ = some (.int .i64 a0_2) := (blk_cell HK2.out 2).trans rfl
    have hz3 : w2.cell? ⟨w.heap.size, 3, none⟩ = some (.int .i64 a0_3) := (blk_cell HK2.out 3).trans rfl
    have hz4 : w2.cell? ⟨w.heap.size, 4, none⟩ = some (.int .i64 a0_4) := (blk_cell HK2.out 4).trans rfl
    clear hmv hb2 HB1 HK1 HT1 HRR1
    go_wp2
    clear hz0 hz2 hz3 hz4
    have hb3 : Below w2.heap.size w2 (w2.alloc (.cells #[.slice none 0 0, .slice A R.length c, .int .i64 a0_2, .int .i64 a0_3, .int .i64 a0_4] 25)) := below_alloc (Below.refl _ _) _
    have HB3 := Aside0.mk (below_step HB2.out hb3)
    have HK3 := Aside0.mk (blk_below HK2.out hb3)
    have HT3 := Aside0.mk (blk_below HT2.out hb3)
    have HRR3 := Aside0.mk (Kd.R_below HRR2.out hb3)
    have HMV3 := Aside0.mk (HMV.out.below hb3)
    have HX3 := Aside0.mk (blk_new w2 (.cells #[.slice none 0 0, .slice A R.length c, .int .i64 a0_2, .int .i64 a0_3, .int .i64 a0_4] 25))
    have hgx : w.heap.size ≤ w2.heap.size := HB2.out.size
    have hlO : gO < w2.heap.size ∧ gK < w2.heap.size ∧ gM < w2.heap.size ∧ w.heap.size + 1 < w2.heap.size := ⟨blk_lt HMV.out.o, blk_lt HMV.out.k, HMV.out.m.lt, blk_lt HT2.out⟩
    generalize w2.heap.size = gx at HX3 hgx hlO ⊢
    generalize w2.alloc (.cells #[.slice none 0 0, .slice A R.length c, .int .i64 a0_2, .int .i64 a0_3, .int .i64 a0_4] 25) = w3 at HB3 HK3 HT3 HRR3 HMV3 HX3 ⊢
    have HLO := Aside0.mk hlO
    clear hb3 HB2 HK2 HT2 HRR2 HMV hlO
    go_loopg [39] l0_0.length (fun g v39 w' => ∃ (x : Nat) (u : Value), v39 = .int .i64 x ∧ Aside0 (g = l0_0.length - x ∧ x ≤ l0_0.length) ∧ Aside0 (w'.heap[gx]? = some (.cells #[u, .slice A R.length c, .int .i64 a0_2, .int .i64 a0_3, .int .i64 a0_4] 25 (0, 0))) ∧ Aside0 (Kd.S k49 49 w' w.heap.size (fun _ => True) u ((l0_0.take x).map (moveE l0_1 R))) ∧ Aside0 (∀ k, u.ownBlock = some k → gx < k) ∧ Aside0 (Kd.R k36 36 w' w.heap.size (fun _ => True) (.slice A R.length c) R) ∧ Aside0 (MoverAt w' gO gK gM A0_1 c0_1 l0_1 R) ∧ Aside0 (w'.heap[w.heap.size]? = some (.cells #[.slice A0_0 l0_0.length c0_0, .slice A0_1 l0_1.length c0_1, .int .i64 a0_2, .int .i64 a0_3, .int .i64 a0_4] 25 (0, 0))) ∧ Aside0 (w'.heap[w.heap.size + 1]? = some (.cells #[.slice none 0 0, .slice none 0 0, .int .i64 0, .int .i64 0, .int .i64 0] 25 (0, 0))) ∧ Aside0 (Below w.heap.size w w'))
    case atStart => exact ⟨0, .slice none 0 0, rfl, ⟨by simp, by omega⟩, HX3, ⟨Kd.S_nil _ _ _ _ _⟩, ⟨fun k h => by simp [Value.ownBlock] at h⟩, HRR3, HMV3, HK3, HT3, HB3⟩
    clear HX3 HRR3 HMV3 HK3 HT3 HB3
    case round =>
      obtain ⟨x, u, rfl, HG, HX, HS, HU, HRR, HMV, HK, HT, HB⟩ := hrel
      by_cases hlt : x < l0_0.length
      · have hltz : (x : Int) < (l0_0.length : Int) := by omega
        have p0 : 0 ≤ (x : Int) := by omega
        obtain ⟨ad, B0, d0, B1, d1, e, hx0, hx1, hl0, hc0, hl1, hc1⟩ := at_T49 HR0.out (x : Int) p0 hltz
        cases e
        replace hx0 := pw_cell_below HB.out hx0
        replace hx1 := pw_cell_below HB.out hx1
        obtain ⟨ex, hex⟩ : ∃ ex, rd_T49 l0_0 (x : Int) = ex := ⟨_, rfl⟩
        rw [hex] at hx0 hx1 hl0 hc0 hl1 hc1
        rw [Int.toNat_natCast] at hx0 hx1
        go_wp2
        have HEX := Aside0.mk hex
        have hb4 : Below wr.heap.size wr (wr.alloc (.cells #[.slice B0 ex.f0.length d0, .slice B1 ex.f1.length d1] 49)) := below_alloc (Below.refl _ _) _
        have HB4 := Aside0.mk hb4
        have HK4 := Aside0.mk (blk_new wr (.cells #[.slice B0 ex.f0.length d0, .slice B1 ex.f1.length d1] 49))
        have hgy : wr.heap.size ≤ wr.heap.size := Nat.le_refl _
        generalize hgq : wr.heap.size = gy at HK4 ⊢
        generalize wr.alloc (.cells #[.slice B0 ex.f0.length d0, .slice B1 ex.f1.length d1] 49) = w4 at HB4 hb4 HK4 ⊢
        have hN : gy ≤ w4.heap.size := by rw [← hgq]; exact hb4.size
        have HS4 : Aside0 (Kd.S k49 49 w4 w.heap.size (fun k => True ∧ k < gy) u ((l0_0.take x).map (moveE l0_1 R))) := ⟨by rw [← hgq]; exact Kd.S_old HS.out hb4⟩
        have HOWN : Aside0 (∀ k, u.ownBlock = some k → k < gy) := ⟨by rw [← hgq]; exact Kd.S_lt HS.out⟩
        have HRR4 := Aside0.mk (Kd.R_below HRR.out hb4)
        have HMV4 := Aside0.mk (HMV.out.below hb4)
        have HX4 := Aside0.mk (blk_below HX.out hb4)
        have HKK4 := Aside0.mk (blk_below HK.out hb4)
        have HTT4 := Aside0.mk (blk_below HT.out hb4)
        have HBB4 := Aside0.mk (below_step HB.out hb4)
        have hes := HES.out.2 ex (by rw [← hex, rdT49 hlt]; exact List.getElem_mem hlt)
        have HE1 := fun (W : World) (hb : Below w4.heap.size w4 W) => slices_Clone_int_int.calls B0 d0 ex.f0 ex.f0 W (Kd.C_below (Kd.C_below (Kd.C_below hc0 HB.out) HB4.out) hb) hl0 (by unfold slices_Clone_int_int.f; rw [if_pos (by omega)])
        have HE2 := fun (W : World) (hb : Below w4.heap.size w4 W) => api_Element_32.calls B1 d1 ex.f1 ex.f1 W (Kd.C_below (Kd.C_below (Kd.C_below hc1 HB.out) HB4.out) hb) hl1 (by unfold api_Element_32.f; rw [if_pos (by omega)])
        have hS : ∀ W : World, Below w4.heap.size w4 W → (W.cell? ⟨gy, 0, none⟩ = some (.slice B0 ex.f0.length d0) ∧ W.cell? ⟨gy, 1, none⟩ = some (.slice B1 ex.f1.length d1) ∧ Below w4.heap.size w4 W) := fun W hb => by
          have hk := blk_below HK4.out hb
          exact ⟨(blk_cell hk 0).trans rfl, (blk_cell hk 1).trans rfl, hb⟩
        have HLT := Aside0.mk hlt
        clear hx0 hx1 hb4 hgy hlt hltz hex HS HRR HMV HX HK HT
        go_upto_region 10 with (fail)
        go_cut [12] (fun v12 wc => ∃ (gq : Nat) (A5 : Option Addr) (c5 : Nat) (A6 : Option Addr) (c6 : Nat), v12 = .pointer (some ⟨gq, 0, none⟩) ∧ Aside0 (wc.heap[gq]? = some (.cells #[.slice A5 ex.f0.length c5, .slice A6 ex.f1.length c6] 49 (0, 0))) ∧ Aside0 (w4.heap.size ≤ gq) ∧ Aside0 (Kd.R (Kd.int .i64) 3 wc w4.heap.size (fun _ => True) (.slice A5 ex.f0.length c5) ex.f0) ∧ Aside0 (Kd.R k51 51 wc w4.heap.size (fun _ => True) (.slice A6 ex.f1.length c6) ex.f1) ∧ Aside0 (Below w4.heap.size w4 wc))
        case first =>
          go_region_held3 (fun w' => w'.cell? ⟨gy, 0, none⟩ = some (.slice B0 ex.f0.length d0) ∧ w'.cell? ⟨gy, 1, none⟩ = some (.slice B1 ex.f1.length d1) ∧ Below w4.heap.size w4 w')
            (first
              | exact hS _ (below_drew (Below.refl _ _))
              | exact hS _ hbm
              | exact hS _ hbn
              | exact hS _ (below_alloc (below_drew (Below.refl _ _)) _)
              | exact hS _ (below_alloc hbn _)
              | exact hS _ (below_alloc hbm _)
              | (refine hS _ ?_; repeat (first | exact hbm | exact hbn | exact Below.refl _ _ | apply below_drew | apply below_alloc | refine below_set ?_ (by omega))))
            (first
              | (go_at_call 31; refine (HE1 _ (below_drew (Below.refl _ _))).mono ?_; rintro e w5 ⟨v5, rfl, hr5, hb5⟩; obtain ⟨A5, c5, e5⟩ := Kd.R_slice hr5; subst e5; have hbn := below_step (below_drew (Below.refl w4.heap.size w4)) hb5)
              | (go_at_call 31; refine (HE1 _ (below_alloc (below_drew (Below.refl _ _)) _)).mono ?_; rintro e w5 ⟨v5, rfl, hr5, hb5⟩; obtain ⟨A5, c5, e5⟩ := Kd.R_slice hr5; subst e5; have hbn := below_step (below_alloc (below_drew (Below.refl w4.heap.size w4)) _) hb5; have hkq := blk_below (blk_new w4.drew (.cells #[.slice none 0 0, .slice none 0 0] 49)) hb5)
              | (go_at_call 32; refine (HE2 _ hbn).mono ?_; rintro e w6 ⟨v6, rfl, hr6, hb6⟩; obtain ⟨A6, c6, e6⟩ := Kd.R_slice hr6; subst e6; have hbm := below_step hbn hb6; have hkr := blk_below hkq hb6; have hs5 := hbn.size; have hs6 := hbm.size; have hq0 : w6.cell? ⟨w4.heap.size, 0, none⟩ = some (.slice none 0 0) := (blk_cell hkr 0).trans rfl; have hq1 : w6.cell? ⟨w4.heap.size, 1, none⟩ = some (.slice none 0 0) := (blk_cell hkr 1).trans rfl; have hq2 : w6.frozen? ⟨w4.heap.size, 0, none⟩ = false := blk_frozen hkr 0; have hq3 : w6.frozen? ⟨w4.heap.size, 1, none⟩ = false := blk_frozen hkr 1)
              | (go_at_call 32; refine (HE2 _ hbn).mono ?_; rintro e w6 ⟨v6, rfl, hr6, hb6⟩; obtain ⟨A6, c6, e6⟩ := Kd.R_slice hr6; subst e6; have hbm := below_step hbn hb6; have hs5 := hbn.size; have hs6 := hbm.size)
              | (go_at_call 32; refine (HE2 _ (below_alloc hbn _)).mono ?_; rintro e w6 ⟨v6, rfl, hr6, hb6⟩; obtain ⟨A6, c6, e6⟩ := Kd.R_slice hr6; subst e6; have hbm := below_step (below_alloc hbn _) hb6; have hkr := blk_below (blk_new w5 (.cells #[.slice none 0 0, .slice none 0 0] 49)) hb6; have hs5 := hbn.size; have hs6 := hbm.size; have hq0 : w6.cell? ⟨w5.heap.size, 0, none⟩ = some (.slice none 0 0) := (blk_cell hkr 0).trans rfl; have hq1 : w6.cell? ⟨w5.heap.size, 1, none⟩ = some (.slice none 0 0) := (blk_cell hkr 1).trans rfl; have hq2 := blk_frozen hkr 0; have hq3 := blk_frozen hkr 1))
          · go_wp2
            go_meet
            case rel => exact ⟨w6.heap.size, A5, c5, A6, c6, rfl, ⟨blk_new w6 _⟩, ⟨hs6⟩, ⟨Kd.R_below (Kd.R_below hr5 hb6) (below_alloc (Below.refl _ _) _)⟩, ⟨Kd.R_below (Kd.R_lower hr6 hs5) (below_alloc (Below.refl _ _) _)⟩, ⟨below_alloc hbm _⟩⟩
          · go_wp2
            go_meet
            case rel => exact ⟨w5.heap.size, A5, c5, A6, c6, rfl, ⟨blk_set (blk_set hkr 0 _) 1 _⟩, ⟨hs5⟩, ⟨Kd.R_set (Kd.R_set (Kd.R_below (Kd.R_below hr5 (below_alloc (Below.refl _ _) _)) hb6) hkr (by decide) 0 _) (blk_set hkr 0 _) (by decide) 1 _⟩, ⟨Kd.R_set (Kd.R_set (Kd.R_lower hr6 (Nat.le_trans hs5 (below_alloc (Below.refl w5.heap.size w5) _).size)) hkr (by decide) 0 _) (blk_set hkr 0 _) (by decide) 1 _⟩, ⟨below_set (below_set hbm hs5) hs5⟩⟩
          · go_wp2
            go_meet
            case rel => exact ⟨w4.heap.size, A5, c5, A6, c6, rfl, ⟨blk_set (blk_set hkr 0 _) 1 _⟩, ⟨Nat.le_refl _⟩, ⟨Kd.R_set (Kd.R_set (Kd.R_below (Kd.R_lower hr5 (below_alloc (below_drew (Below.refl w4.heap.size w4)) _).size) hb6) hkr (by decide) 0 _) (blk_set hkr 0 _) (by decide) 1 _⟩, ⟨Kd.R_set (Kd.R_set (Kd.R_lower hr6 hs5) hkr (by decide) 0 _) (blk_set hkr 0 _) (by decide) 1 _⟩, ⟨below_set (below_set hbm (Nat.le_refl _)) (Nat.le_refl _)⟩⟩
        case rest =>
          obtain ⟨gq, A5, c5, A6, c6, rfl, HKQ, HGQ, HR5, HR6, HB5⟩ := hcut
          clear HE1 HE2 hS HB HB4 HK4 hc0 hc1 hl0 hl1
          have HESX := Aside0.mk hes
          clear hes
          have hq1 : wc.cell? ⟨gq, 1, none⟩ = some (.slice A6 ex.f1.length c6) := (blk_cell HKQ.out 1).trans rfl
          go_wp2
          clear hq1
          go_loopg [53] ex.f1.length (fun g v53 w' => ∃ y : Nat, v53 = .int .i64 y ∧ Aside0 (g = ex.f1.length - y ∧ y ≤ ex.f1.length) ∧ Aside0 (w'.heap[gq]? = some (.cells #[.slice A5 ex.f0.length c5, .slice A6 ex.f1.length c6] 49 (0, 0))) ∧ Aside0 (Kd.R (Kd.int .i64) 3 w' w4.heap.size (fun _ => True) (.slice A5 ex.f0.length c5) ex.f0) ∧ Aside0 (Kd.R k51 51 w' w4.heap.size (fun _ => True) (.slice A6 ex.f1.length c6) ((ex.f1.take y).map (mvEl l0_1 R) ++ ex.f1.drop y)) ∧ Aside0 (Below w4.heap.size w4 w'))
          case atStart => exact ⟨0, rfl, ⟨by simp, by omega⟩, HKQ, HR5, ⟨by simpa using HR6.out⟩, HB5⟩
          clear HKQ HR5 HR6 HB5
          case round =>
            obtain ⟨y, rfl, HY, HKQ, HR5, HR6, HB5⟩ := hrel
            by_cases hyl : y < ex.f1.length
            · have hltz : (y : Int) < (ex.f1.length : Int) := by omega
              have p0 : 0 ≤ (y : Int) := by omega
              have hcl : (ex.f1.take y).map (mvEl l0_1 R) ++ ex.f1.drop y = (ex.f1.take y).map (mvEl l0_1 R) ++ ex.f1.drop y ∧ ((ex.f1.take y).map (mvEl l0_1 R) ++ ex.f1.drop y).length = ex.f1.length := ⟨rfl, by simp; omega⟩
              obtain ⟨gr, cr, ev, hbg⟩ := Kd.R_at HR6.out (by rw [hcl.2]; omega)
              injection ev with ev1 ev2 ev3
              subst ev1
              clear ev2 ev3
              obtain ⟨xe, hxe⟩ : ∃ xe, ex.f1[y]? = some xe := ⟨_, List.getElem?_eq_getElem hyl⟩
              have HXE := Aside0.mk hxe
              have HGT : Aside0 (((ex.f1.take y).map (mvEl l0_1 R) ++ ex.f1.drop y)[y]? = some xe) := ⟨(get_step _ _ _ hyl).trans hxe⟩
              obtain ⟨hcs, hfz⟩ := Kd.R_cells (d := k51) (enc := fun x => [.int .i64 x.f0, .int .i64 x.f1, .int .i64 x.f2, .bool x.f3]) (k := 4) rfl (fun _ _ _ h => k51_open h) HR6.out HGT.out
              have hy0 : wr.cell? ⟨gr, y * 4, none⟩ = some (.int .i64 xe.f0) := hcs 0 _ rfl
              have hy0d : wr.drew.cell? ⟨gr, y * 4, none⟩ = some (.int .i64 xe.f0) := hy0
              have hfr : wr.frozen? ⟨gr, y * 4, none⟩ = false := hfz (y * 4)
              have HCT := fun (W : World) (hb : Below wr.heap.size wr W) => mover1_calls W gO gK gM A0_1 c0_1 l0_1 R HF0.out xe.f0 ((HMV4.out.below HB5.out).below hb)
              have HFR : ∀ W : World, Below wr.heap.size wr W → W.cell? ⟨gr, y * 4, none⟩ = some (.int .i64 xe.f0) ∧ W.frozen? ⟨gr, y * 4, none⟩ = false := fun W hb => ⟨pw_cell_below hb hy0, (hb.frozen (World.block_lt_of_cell? _ _ hy0)).trans hfr⟩
              have hS : ∀ W : World, W.heap[gq]? = wr.heap[gq]? → (W.cell? ⟨gq, 1, none⟩ = some (.slice (some ⟨gr, 0, none⟩) ex.f1.length c6)) := fun W hb => by
                have hk := hb.trans HKQ.out
                exact (blk_cell hk 1).trans rfl
              clear hcs hfz hxe hcl hy0 hfr
              have hgl : gq < wr.heap.size := blk_lt HKQ.out
              have hne : gq ≠ gr := fun e => Kd.R_ne HR6.out HKQ.out (by decide) (by rw [e]; rfl)
              go_wp2
              refine start_ (n := 14) (S := fun w' => w'.cell? ⟨gq, 1, none⟩ = some (.slice (some ⟨gr, 0, none⟩) ex.f1.length c6) ∧ w'.cell? ⟨gr, y * 4, none⟩ = some (.int .i64 xe.f0)) (ds := [13]) #[false, false, false, false, false, false, false, false, false, false, false, false, false, false] (by kernel_rfl) rfl rfl ⟨hS _ rfl, hy0d⟩ (fun hHeld => ?_); refine with_tabW groups_Apply.tab13 groups_Apply.bits13 (fun HT_ HW_ => ?_)
              refine pure_ (i := 0) (N := some 56) (v := ?_) (a' := ?_) #[true, false, false, false, false, false, false, false, false, false, false, false, false, false] rfl rfl (any_of HT_.out (by kernel_rfl)) (fun _ _ _ h => h) (Or.inl ⟨by rfl, ?_⟩) ?_ ?_
              rotate_left
              · intro w'
                go_simp
                with_reducible rfl
              rotate_left
              · simp only [Act.put, List.setIfInBounds_toArray, List.set_cons_zero, List.set_cons_succ, i64_w, i32_w]
                rfl
              refine pure_ (i := 2) (N := some 58) (v := ?_) (a' := ?_) #[true, false, true, false, false, false, false, false, false, false, false, false, false, false] rfl rfl (any_of HT_.out (by kernel_rfl)) (fun _ _ _ h => h) (Or.inl ⟨by rfl, ?_⟩) ?_ ?_
              rotate_left
              · intro w'
                go_simp
                with_reducible rfl
              rotate_left
              · simp only [Act.put, List.setIfInBounds_toArray, List.set_cons_zero, List.set_cons_succ, i64_w, i32_w]
                rfl
              refine pure_ (i := 3) (N := some 59) (v := ?_) (a' := ?_) #[true, false, true, true, false, false, false, false, false, false, false, false, false, false] rfl rfl (any_of HT_.out (by kernel_rfl)) (fun _ _ _ h => h) (Or.inl ⟨by rfl, ?_⟩) ?_ ?_
              rotate_left
              · intro w'
                go_simp
                with_reducible rfl
              rotate_left
              · simp only [Act.put, List.setIfInBounds_toArray, List.set_cons_zero, List.set_cons_succ, i64_w, i32_w]
                rfl
              refine pure_ (i := 4) (N := some 60) (v := ?_) (a' := ?_) #[true, false, true, true, true, false, false, false, false, false, false, false, false, false] rfl rfl (any_of HT_.out (by kernel_rfl)) (fun _ _ _ h => h) (Or.inl ⟨by rfl, ?_⟩) ?_ ?_
              rotate_left
              · intro w'
                go_simp
                with_reducible rfl
              rotate_left
              · simp only [Act.put, List.setIfInBounds_toArray, List.set_cons_zero, List.set_cons_succ, i64_w, i32_w]
                rfl
              refine pure_ (i := 6) (N := some 62) (v := ?_) (a' := ?_) #[true, false, true, true, true, false, true, false, false, false, false, false, false, false] rfl rfl (any_of HT_.out (by kernel_rfl)) (fun _ _ _ h => h) (Or.inl ⟨by rfl, ?_⟩) ?_ ?_
              rotate_left
              · intro w'
                go_simp
                with_reducible rfl
              rotate_left
              · simp only [Act.put, List.setIfInBounds_toArray, List.set_cons_zero, List.set_cons_succ, i64_w, i32_w]
                rfl
              refine take_ (i := 1) (N := some 57) (v := ?_) (a' := ?_) #[true, true, true, true, true, false, true, false, false, false, false, false, false, false] rfl rfl (take_ofW HT_.out HW_.out (by kernel_rfl)) (fun _ _ _ h => h) (Or.inl ⟨by rfl, ?_⟩) hHeld ?_ ?_
              rotate_left
              · rintro w' ⟨s0, s1⟩
                go_simp
                with_reducible rfl
              rotate_left
              · simp only [Act.put, List.setIfInBounds_toArray, List.set_cons_zero, List.set_cons_succ, i64_w, i32_w]
                rfl
              refine take_ (i := 5) (N := some 61) (v := ?_) (a' := ?_) #[true, true, true, true, true, true, true, false, false, false, false, false, false, false] rfl rfl (take_ofW HT_.out HW_.out (by kernel_rfl)) (fun _ _ _ h => h) (Or.inl ⟨by rfl, ?_⟩) hHeld ?_ ?_
              rotate_left
              · rintro w' ⟨s0, s1⟩
                go_simp
                with_reducible rfl
              rotate_left
              · simp only [Act.put, List.setIfInBounds_toArray, List.set_cons_zero, List.set_cons_succ, i64_w, i32_w]
                rfl
              refine pure_ (i := 7) (N := some 63) (v := ?_) (a' := ?_) #[true, true, true, true, true, true, true, true, false, false, false, false, false, false] rfl rfl (any_of HT_.out (by kernel_rfl)) (fun _ _ _ h => h) (Or.inl ⟨by rfl, ?_⟩) ?_ ?_
              rotate_left
              · intro w'
                go_simp
                with_reducible rfl
              rotate_left
              · simp only [Act.put, List.setIfInBounds_toArray, List.set_cons_zero, List.set_cons_succ, i64_w, i32_w]
                rfl
              refine pure_ (i := 8) (N := some 64) (v := ?_) (a' := ?_) #[true, true, true, true, true, true, true, true, true, false, false, false, false, false] rfl rfl (any_of HT_.out (by kernel_rfl)) (fun _ _ _ h => h) (Or.inl ⟨by rfl, ?_⟩) ?_ ?_
              rotate_left
              · intro w'
                go_simp
                with_reducible rfl
              rotate_left
              · simp only [Act.put, List.setIfInBounds_toArray, List.set_cons_zero, List.set_cons_succ, i64_w, i32_w]
                rfl
              refine take_ (i := 9) (N := some 65) (v := ?_) (a' := ?_) #[true, true, true, true, true, true, true, true, true, true, false, false, false, false] rfl rfl (take_ofW HT_.out HW_.out (by kernel_rfl)) (fun _ _ _ h => h) (Or.inl ⟨by rfl, ?_⟩) hHeld ?_ ?_
              rotate_left
              · rintro w' ⟨s0, s1⟩
                go_simp
                with_reducible rfl
              rotate_left
              · simp only [Act.put, List.setIfInBounds_toArray, List.set_cons_zero, List.set_cons_succ, i64_w, i32_w]
                rfl
              refine one_ (i := 10) (N := some 66) #[true, true, true, true, true, true, true, true, true, true, true, false, false, false] rfl rfl (one_of HT_.out (by kernel_rfl)) (by decide) (fun K hK => ?_)
              go_simp
              go_at_call 42
              refine (HCT _ (below_drew (Below.refl _ _))).mono ?_
              rintro e w7 ⟨rfl, hb7⟩
              obtain ⟨hz0, hz1⟩ := HFR _ (below_step (below_drew (Below.refl _ _)) hb7)
              go_wp2_with fail
              refine hK.out _ _ ⟨hS _ (hb7.block gq hgl), hz0⟩ (fun hHeld => ?_)
              clear hK K
              refine pure_ (i := 11) (N := some 67) (v := ?_) (a' := ?_) #[true, true, true, true, true, true, true, true, true, true, true, true, false, false] rfl rfl (any_of HT_.out (by kernel_rfl)) (fun _ _ _ h => h) (Or.inl ⟨by rfl, ?_⟩) ?_ ?_
              rotate_left
              · intro w'
                go_simp
                with_reducible rfl
              rotate_left
              · simp only [Act.put, List.setIfInBounds_toArray, List.set_cons_zero, List.set_cons_succ, i64_w, i32_w]
                rfl
              refine pure_ (i := 12) (N := some 68) (v := ?_) (a' := ?_) #[true, true, true, true, true, true, true, true, true, true, true, true, true, false] rfl rfl (any_of HT_.out (by kernel_rfl)) (fun _ _ _ h => h) (Or.inl ⟨by rfl, ?_⟩) ?_ ?_
              rotate_left
              · intro w'
                go_simp
                with_reducible rfl
              rotate_left
              · simp only [Act.put, List.setIfInBounds_toArray, List.set_cons_zero, List.set_cons_succ, i64_w, i32_w]
                rfl
              refine last_ (i := 13) (N := none) #[true, true, true, true, true, true, true, true, true, true, true, true, true, true] rfl rfl (one_of HT_.out (by kernel_rfl)) (by decide) (fun K hK => ?_)
              refine skip_ (w1 := ?_) (by rfl) rfl ?_ ?_
              rotate_left
              · go_simp
                rfl
              refine hK.out _ _ ?_
              clear hK K
              refine done_ (done_of HT_.out (by kernel_rfl)) ?_
              have hcl : (List.map (mvEl l0_1 R) (List.take y ex.f1) ++ List.drop y ex.f1).length = ex.f1.length := by simp; omega
              have hseg := Kd.R_seg (d := k51) (i := (y : Int)) (c := [.int .i64 xe.f0, .int .i64 xe.f1, .int .i64 xe.f2, .bool xe.f3]) (seg := [.int .i64 (moveP l0_1 R xe.f0)]) (j := 0) (x' := mvEl l0_1 R xe) (okp := fun k => k ≠ gr) (Kd.R_below HR6.out (below_step (below_drew (Below.refl _ _)) hb7)) p0 hltz rfl (fun j u hu => by rw [Int.toNat_natCast]; exact pw_cell_below (below_step (below_drew (Below.refl _ _)) hb7) ((Kd.R_cells (d := k51) (enc := fun x => [.int .i64 x.f0, .int .i64 x.f1, .int .i64 x.f2, .bool x.f3]) (k := 4) rfl (fun _ _ _ h => k51_open h) HR6.out HGT.out).1 j u hu)) (by show 0 + 1 ≤ 4; omega) (k51_mkM _ _ _ (mvEl l0_1 R xe)) (fun k hk => ⟨trivial, hk⟩)
              rw [Int.toNat_natCast, set_step (mvEl l0_1 R) ex.f1 y xe HXE.out] at hseg
              obtain ⟨hr6, hg6⟩ := hseg
              have hr6' : Kd.R k51 51 (w7.setCell ⟨gr, y * 4, none⟩ (.int .i64 (moveP l0_1 R xe.f0))) w4.heap.size (fun _ => True) (.slice (some ⟨gr, 0, none⟩) ex.f1.length c6) ((ex.f1.take (y + 1)).map (mvEl l0_1 R) ++ ex.f1.drop (y + 1)) := hr6
              have hbw : Below w4.heap.size w4 (w7.setCell ⟨gr, y * 4, none⟩ (.int .i64 (moveP l0_1 R xe.f0))) := below_set (below_step HB5.out (below_step (below_drew (Below.refl _ _)) hb7)) hbg
              have hkq : (w7.setCell ⟨gr, y * 4, none⟩ (.int .i64 (moveP l0_1 R xe.f0))).heap[gq]? = some (.cells #[.slice A5 ex.f0.length c5, .slice (some ⟨gr, 0, none⟩) ex.f1.length c6] 49 (0, 0)) := blk_far ((hb7.block gq hgl).trans HKQ.out) hne _
              have hr5 : Kd.R (Kd.int .i64) 3 (w7.setCell ⟨gr, y * 4, none⟩ (.int .i64 (moveP l0_1 R xe.f0))) w4.heap.size (fun _ => True) (.slice A5 ex.f0.length c5) ex.f0 := by
                have ht := Kd.R_typed HR6.out gr rfl
                obtain ⟨cells, ht⟩ := ht
                exact Kd.R_set (Kd.R_below HR5.out (below_step (below_drew (Below.refl _ _)) hb7)) ((hb7.block gr (blk_lt ht)).trans ht) (by decide) _ _
              have HR6N := Aside0.mk hr6'
              have HBN := Aside0.mk hbw
              have HKQN := Aside0.mk hkq
              have HR5N := Aside0.mk hr5
              clear hr6 hg6 hr6' hbw hkq hr5 hz0 hz1 hcl HCT HFR hS hy0d
              generalize w7.setCell ⟨gr, y * 4, none⟩ (.int .i64 (moveP l0_1 R xe.f0)) = w8 at HR6N HBN HKQN HR5N ⊢
              go_wp2
              have hyb : ex.f1.length ≤ 1000000 := HESX.out.2
              go_roundg (ex.f1.length - (y + 1))
              case measure => have := HY.out; omega
              case rel => have hwr := wrap_up p0 (show (y : Int) < 9223372036854775807 by omega); exact ⟨y + 1, by rw [hwr]; rfl, ⟨rfl, Nat.succ_le_of_lt hyl⟩, HKQN, HR5N, HR6N, HBN⟩
            · have hye : y = ex.f1.length := by have := HY.out; omega
              have HR6F : Aside0 (Kd.R k51 51 wr w4.heap.size (fun _ => True) (.slice A6 ex.f1.length c6) (ex.f1.map (mvEl l0_1 R))) := ⟨by have h := HR6.out; rw [hye, List.take_length, List.drop_length, List.append_nil] at h; exact h⟩
              clear hye HR6
              have hx0 : wr.cell? ⟨gx, 0, none⟩ = some u := (blk_cell (blk_below HX4.out HB5.out) 0).trans rfl
              have hq0 : wr.cell? ⟨gq, 0, none⟩ = some (.slice A5 ex.f0.length c5) := (blk_cell HKQ.out 0).trans rfl
              have hq1 : wr.cell? ⟨gq, 1, none⟩ = some (.slice A6 ex.f1.length c6) := (blk_cell HKQ.out 1).trans rfl
              have hx0f : wr.frozen? ⟨gx, 0, none⟩ = false := blk_frozen (blk_below HX4.out HB5.out) 0
              have HSW := Aside0.mk (Kd.S_below HS4.out HB5.out)
              have HBW := Aside0.mk (below_step HBB4.out HB5.out)
              have HN := Aside0.mk hN
              have hlen : ((l0_0.take x).map (moveE l0_1 R)).length ≤ 1000000 := by have := HES.out.1; simp; omega
              have HR5' := Aside0.mk (Kd.R_lower (Kd.R_mono (ok' := fun k => gy ≤ k) (Kd.R_bound HR5.out) (fun k hk => Nat.le_trans HN.out hk.2.1)) HBB4.out.size)
              have HR6' := Aside0.mk (Kd.R_lower (Kd.R_mono (ok' := fun k => gy ≤ k) (Kd.R_bound HR6F.out) (fun k hk => Nat.le_trans HN.out hk.2.1)) HBB4.out.size)
              have HLEN := Aside0.mk hlen
              have HBLK : Aside0 (∀ g, g < wr.heap.size → g ≤ gx → some g ≠ u.ownBlock) := ⟨fun g _ hgx' e => by have := HU.out g e.symm; omega⟩
              clear hlen hN
              go_wp2_with (first
                | ((with_reducible refine gate_builtin (b := .append) (xs := #[.tmp 71, .tmp 73]) rfl ?_)
                   at_builtin
                   refine Kd.S_append k49 (w0 := w) w.heap.size rfl (.tmp 71) (.tmp 73) 22 49 (.agg #[(.slice none 0 0), (.slice none 0 0)]) 48 rfl Try.underlying22 info49 rfl (by decide) (by omega) u ((l0_0.take x).map (moveE l0_1 R)) (moveE l0_1 R ex) [.slice A5 ex.f0.length c5, .slice A6 ex.f1.length c6] (fun _ => True) (fun k => gy ≤ k) rfl rfl (k49_mkM _ _ _ (moveE l0_1 R ex) HR5'.out HR6'.out) (fun k hk => ⟨trivial, fun e => by have := HOWN.out k e.symm; omega⟩) (fun _ _ => trivial) (Kd.S_mono HSW.out (fun k hk => ⟨trivial, by have := hk.2; omega⟩)) HBW.out HBW.out.size (by have := HLEN.out; omega) ?_
                   intro v1 w7 ho hb hg hat
                   have hx7 : w7.heap[gx]? = some (.cells #[u, .slice A R.length c, .int .i64 a0_2, .int .i64 a0_3, .int .i64 a0_4] 25 (0, 0)) := (hg.block gx (blk_lt (blk_below HX4.out HB5.out)) (HBLK.out gx (blk_lt (blk_below HX4.out HB5.out)) (Nat.le_refl _))).trans (blk_below HX4.out HB5.out)
                   have hc7 : w7.cell? ⟨gx, 0, none⟩ = some u := (blk_cell hx7 0).trans rfl
                   have hf7 : w7.frozen? ⟨gx, 0, none⟩ = false := blk_frozen hx7 0
                   have hxs : (l0_0.take x).map (moveE l0_1 R) ++ [moveE l0_1 R ex] = (l0_0.take (x + 1)).map (moveE l0_1 R) := by rw [List.take_succ_eq_append_getElem HLT.out, List.map_append, ← HEX.out, rdT49 HLT.out]; rfl
                   rw [hxs] at ho
                   obtain ⟨L1, hL1⟩ : ∃ L1, (l0_0.take (x + 1)).map (moveE l0_1 R) = L1 := ⟨_, rfl⟩
                   rw [hL1] at ho
                   have HL1 := Aside0.mk hL1
                   clear hxs hL1
                   obtain ⟨Ao, co, eo⟩ := Kd.S_slice ho
                   subst eo
                   have HX7 := Aside0.mk hx7
                   have HO7 := Aside0.mk ho
                   have HB7 := Aside0.mk hb
                   have HG7 := Aside0.mk hg
                   have HAT := Aside0.mk hat
                   clear hx7 ho hb hg hat))
              have hxl := HLT.out
              have hxm := HES.out.1
              have hgl : gx < wr.heap.size := blk_lt (blk_below HX4.out HB5.out)
              have hlo := HLO.out
              have hOld : ∀ g, g < gx → (w7.setCell ⟨gx, 0, none⟩ (.slice Ao L1.length co)).heap[g]? = wr.heap[g]? := fun g hg => (Below.heap_setCell w7 _ _ g (by show g ≠ gx; omega)).trans (HG7.out.block g (by omega) (HBLK.out g (by omega) (by omega)))
              go_roundg (l0_0.length - (x + 1))
              case measure => have := HG.out; omega
              case rel =>
                have hwr := wrap_up (show 0 ≤ (x : Int) by omega) (show (x : Int) < 9223372036854775807 by omega)
                exact ⟨x + 1, .slice Ao L1.length co, by rw [hwr]; rfl, ⟨rfl, Nat.succ_le_of_lt hxl⟩, ⟨blk_put HX7.out 0 _ rfl⟩, ⟨by rw [HL1.out]; exact Kd.S_set HO7.out HX7.out (by decide) 0 _⟩, ⟨fun k hk => by
                  rcases HAT.out with h | ⟨b, h, hb⟩
                  · exact HU.out k (h ▸ hk)
                  · rw [h] at hk
                    injection hk with hk
                    omega⟩, ⟨Kd.R_set (Kd.R_over' (Kd.R_below HRR4.out HB5.out) (Kd.S_typed HSW.out) (by decide) HG7.out) HX7.out (by decide) 0 _⟩, ⟨MoverAt.kept (HMV4.out.below HB5.out) (hOld gO hlo.1) (hOld gK hlo.2.1) (hOld gM hlo.2.2.1) (Kd.C_below HR1.out (below_set HB7.out hgx))⟩, ⟨(hOld _ (by omega)).trans (blk_below HKK4.out HB5.out)⟩, ⟨(hOld _ hlo.2.2.2).trans (blk_below HTT4.out HB5.out)⟩, ⟨below_set HB7.out hgx⟩⟩
      · have hxe : x = l0_0.length := by have := HG.out; omega
        have HSF : Aside0 (Kd.S k49 49 wr w.heap.size (fun _ => True) u (l0_0.map (moveE l0_1 R))) := ⟨by have h := HS.out; rw [hxe, List.take_length] at h; exact h⟩
        obtain ⟨L1, hL1⟩ : ∃ L1, l0_0.map (moveE l0_1 R) = L1 := ⟨_, rfl⟩
        rw [hL1] at HSF
        have HL1 := Aside0.mk hL1
        clear hxe hL1 HS
        obtain ⟨Ao, co, eo⟩ := Kd.S_slice HSF.out
        subst eo
        have hx0 : wr.cell? ⟨gx, 0, none⟩ = some (.slice Ao L1.length co) := (blk_cell HX.out 0).trans rfl
        have hx1 : wr.cell? ⟨gx, 1, none⟩ = some (.slice A R.length c) := (blk_cell HX.out 1).trans rfl
        have hx2 : wr.cell? ⟨gx, 2, none⟩ = some (.int .i64 a0_2) := (blk_cell HX.out 2).trans rfl
        have hx3 : wr.cell? ⟨gx, 3, none⟩ = some (.int .i64 a0_3) := (blk_cell HX.out 3).trans rfl
        have hx4 : wr.cell? ⟨gx, 4, none⟩ = some (.int .i64 a0_4) := (blk_cell HX.out 4).trans rfl
        have hz0 : wr.cell? ⟨w.heap.size + 1, 0, none⟩ = some (.slice none 0 0) := (blk_cell HT.out 0).trans rfl
        have hz1 : wr.cell? ⟨w.heap.size + 1, 1, none⟩ = some (.slice none 0 0) := (blk_cell HT.out 1).trans rfl
        have hz2 : wr.cell? ⟨w.heap.size + 1, 2, none⟩ = some (.int .i64 0) := (blk_cell HT.out 2).trans rfl
        have hz3 : wr.cell? ⟨w.heap.size + 1, 3, none⟩ = some (.int .i64 0) := (blk_cell HT.out 3).trans rfl
        have hz4 : wr.cell? ⟨w.heap.size + 1, 4, none⟩ = some (.int .i64 0) := (blk_cell HT.out 4).trans rfl
        have hf0 := blk_frozen HT.out 0
        have hf1 := blk_frozen HT.out 1
        have hf2 := blk_frozen HT.out 2
        have hf3 := blk_frozen HT.out 3
        have hf4 := blk_frozen HT.out 4
        go_wp2
        refine bodyPost_ret (results_ct rfl _ _ (w.heap.size + 1) 25 #[.slice Ao L1.length co, .slice A R.length c, .int .i64 a0_2, .int .i64 a0_3, .int .i64 a0_4] (0, 0) _ rfl (put5 HT.out) Try.underlying25 rfl (by kernel_rfl)) rfl ?_
        exact ⟨_, _, rfl, by rw [HL1.out]; exact S_put5 HSF.out HT.out (by decide), R_put5 HRR.out HT.out (by decide), below_put5 HB.out (by omega)⟩
  · obtain ⟨rfl, rfl, rfl, rfl, rfl, rfl⟩ : [] = r1 ∧ [] = r2 ∧ 0 = r3 ∧ 0 = r4 ∧ 0 = r5 ∧ eo = r6 := by
      have h := H.out
      rw [if_neg he] at h
      simp only [Option.some.injEq, Prod.mk.injEq] at h
      obtain ⟨h1, h2, h3, h4, h5, h6⟩ := h
      exact ⟨h1, h2, h3, h4, h5, h6⟩
    have he2 : (eo != 0) = true := bne_iff_ne.2 he
    have hz0 : w1.cell? ⟨w.heap.size + 1, 0, none⟩ = some (.slice none 0 0) := (blk_cell HT1.out 0).trans rfl
    have hz1 : w1.cell? ⟨w.heap.size + 1, 1, none⟩ = some (.slice none 0 0) := (blk_cell HT1.out 1).trans rfl
    have hz2 : w1.cell? ⟨w.heap.size + 1, 2, none⟩ = some (.int .i64 0) := (blk_cell HT1.out 2).trans rfl
    have hz3 : w1.cell? ⟨w.heap.size + 1, 3, none⟩ = some (.int .i64 0) := (blk_cell HT1.out 3).trans rfl
    have hz4 : w1.cell? ⟨w.heap.size + 1, 4, none⟩ = some (.int .i64 0) := (blk_cell HT1.out 4).trans rfl
    have hf0 := blk_frozen HT1.out 0
    have hf1 := blk_frozen HT1.out 1
    have hf2 := blk_frozen HT1.out 2
    have hf3 := blk_frozen HT1.out 3
    have hf4 := blk_frozen HT1.out 4
    clear H he
    go_wp2
    refine bodyPost_ret (results_ct rfl _ _ (w.heap.size + 1) 25 #[.slice none 0 0, .slice none 0 0, .int .i64 0, .int .i64 0, .int .i64 0] (0, 0) _ rfl (put5 HT1.out) Try.underlying25 rfl (by kernel_rfl)) rfl ?_
    exact ⟨_, _, rfl, Kd.S_nil _ _ _ _ _, Kd.R_nil _ _ _ _ _, below_put5 HB1.out (by omega)⟩
end Go.Proofs.Ytfcpebjjcijgcaa.G
-- unicodetext/unicodetextlaw47.GroupsElements: printed by gprint.py
namespace Go.Proofs.Ytfcpebjjcijgcaa.G
open Go.RowKit Go.Proofs.YtfcpebjjcijgcaaW.PrintWords Go.Proofs.YtfcpebjjcijgcaaW.PrintLast Go.Proofs.YtfcpebjjcijgcaaW.PrintMore
attribute [local go_sem] max2_int min2_int max_two min_two max_three min_three max_four min_four   -- for this text's walks alone
set_option linter.unusedVariables false
set_option linter.unusedSimpArgs false
attribute [local go_sem high] eqA51
/-! ### unicodetextlaw47_GroupsElements: function 9 -/
mutual
def unicodetextlaw47_GroupsElements.j0 : Nat → List ByteArray → Bool → List (S49) → List (S36) → Int → Int → Int → List (S49) → List (S36) → Int → Int → Int → Option (Bool)
  | 0, _, _, _, _, _, _, _, _, _, _, _, _ => none
  | k + 1, x1, x71, x102000, x102001, x102002, x102003, x102004, x115000, x115001, x115002, x115003, x115004 => if x71 = true then (none) else (unicodetextlaw47_GroupsElements.l0 k x1 0 x102000 x102001 x102002 x102003 x102004 x115000 x115001 x115002 x115003 x115004)
def unicodetextlaw47_GroupsElements.l0 : Nat → List ByteArray → Int → List (S49) → List (S36) → Int → Int → Int → List (S49) → List (S36) → Int → Int → Int → Option (Bool)
  | 0, _, _, _, _, _, _, _, _, _, _, _, _ => none
  | k + 1, x1, x9, x102000, x102001, x102002, x102003, x102004, x115000, x115001, x115002, x115003, x115004 => if x9 < (x102000.length : Int) then (if 0 ≤ x9 then (if x9 < (x115000.length : Int) then (if (((rd_T49 x102000 x9).f1).length : Int) = (((rd_T49 x115000 x9).f1).length : Int) then (unicodetextlaw47_GroupsElements.l1 k x1 x9 ((rd_T49 x102000 x9).f1) ((rd_T49 x115000 x9).f1) 0 x102000 x102001 x102002 x102003 x102004 x115000 x115001 x115002 x115003 x115004) else (none)) else (none)) else (none)) else ((unicodetextlaw47_alive.f k).bind fun t121 => (some t121))
def unicodetextlaw47_GroupsElements.l1 : Nat → List ByteArray → Int → List (S51) → List (S51) → Int → List (S49) → List (S36) → Int → Int → Int → List (S49) → List (S36) → Int → Int → Int → Option (Bool)
  | 0, _, _, _, _, _, _, _, _, _, _, _, _, _, _, _ => none
  | k + 1, x1, x9, x10, x11, x12, x102000, x102001, x102002, x102003, x102004, x115000, x115001, x115002, x115003, x115004 => if x12 < (x10.length : Int) then (if 0 ≤ x12 then ((groups_Move.f k x102000 x102001 x102002 x102003 x102004 x1 ((rd_T51 x10 x12).f0)).bind fun t127 => (if x12 < (x11.length : Int) then (if (!(((rd_T51 x11 x12).f0) == t127) || (!(((rd_T51 x11 x12).f1) == ((rd_T51 x10 x12).f1)) || (!(((rd_T51 x11 x12).f2) == ((rd_T51 x10 x12).f2)) || (!(((rd_T51 x11 x12).f3) == ((rd_T51 x10 x12).f3)))))) = true then (none) else (unicodetextlaw47_GroupsElements.l1 k x1 x9 x10 x11 (wrap64 (x12 + 1)) x102000 x102001 x102002 x102003 x102004 x115000 x115001 x115002 x115003 x115004)) else (none))) else (none)) else (unicodetextlaw47_GroupsElements.l0 k x1 (wrap64 (x9 + 1)) x102000 x102001 x102002 x102003 x102004 x115000 x115001 x115002 x115003 x115004)
end
def unicodetextlaw47_GroupsElements.f (k : Nat) (l0_0 : List (S49)) (l0_1 : List (S36)) (a0_2 : Int) (a0_3 : Int) (a0_4 : Int) (l1 : List ByteArray) : Option (Bool) := (unicodetextlaw47_few.f k l0_0 l0_1 a0_2 a0_3 a0_4 l1).bind fun t102 => (if t102 = true then ((groups_Apply.f k l0_0 l0_1 a0_2 a0_3 a0_4 l1).bind fun bt104 => ((groups_Order.f k l0_0 l0_1 a0_2 a0_3 a0_4 l1).bind fun bt115 => (if bt104.2.2.2.2.2 = bt115.2 then (if bt104.2.2.2.2.2 = 0 then (if (bt104.1.length : Int) = (l0_0.length : Int) then ((unicodetextref47_SameGroups.f k bt104.2.1 bt115.1).bind fun t120 => (if t120 = true then (if bt104.2.2.1 = a0_2 then (if bt104.2.2.2.1 = a0_3 then (unicodetextlaw47_GroupsElements.j0 k l1 (bt104.2.2.2.2.1 != a0_4) l0_0 l0_1 a0_2 a0_3 a0_4 bt104.1 bt104.2.1 bt104.2.2.1 bt104.2.2.2.1 bt104.2.2.2.2.1) else (none)) else (none)) else (none))) else (none)) else ((unicodetextlaw47_alive.f k).bind fun t119 => (some t119))) else (none)))) else ((unicodetextlaw47_alive.f k).bind fun t103 => (some t103)))
def unicodetextlaw47_GroupsElements.T14 : Bool × List (List Nat × List Nat) := (true, [([], []), ([0], [0]), ([], []), ([1, 2], [1, 2]), ([3], [3]), ([4], [4]), ([], []), ([6], [6]), ([], []), ([7, 8], [7, 8]), ([9], [9]), ([10], [10]), ([5, 0, 1, 2, 3, 4, 5], [5]), ([11, 12, 0, 1, 2, 3, 4, 5, 6, 7, 8, 9, 10, 11, 12], [11])])
def unicodetextlaw47_GroupsElements.B14 : List Nat := [0, 1, 0, 7, 15, 31, 0, 64, 0, 448, 960, 1984, 63, 8191]
theorem unicodetextlaw47_GroupsElements.tab14 : rtab .any (opsOf Try.f9 14) = unicodetextlaw47_GroupsElements.T14 := by kernel_rfl
theorem unicodetextlaw47_GroupsElements.bits14 : waitsOk unicodetextlaw47_GroupsElements.T14.2 unicodetextlaw47_GroupsElements.B14 = true := by kernel_rfl
def unicodetextlaw47_GroupsElements.T21 : Bool × List (List Nat × List Nat) := (true, [([], []), ([], []), ([], []), ([], []), ([2, 3], [2, 3]), ([4], [4]), ([5], [5]), ([0, 1, 6], [0, 1, 6]), ([0, 1, 2, 3, 4, 5, 6, 7], []), ([8, 7, 7, 0, 1, 2, 3, 4, 5, 6, 7], [7, 8])])
def unicodetextlaw47_GroupsElements.B21 : List Nat := [0, 0, 0, 0, 12, 28, 60, 127, 255, 511]
theorem unicodetextlaw47_GroupsElements.tab21 : rtab .any (opsOf Try.f9 21) = unicodetextlaw47_GroupsElements.T21 := by kernel_rfl
theorem unicodetextlaw47_GroupsElements.bits21 : waitsOk unicodetextlaw47_GroupsElements.T21.2 unicodetextlaw47_GroupsElements.B21 = true := by kernel_rfl
set_option maxHeartbeats 8000000 in
set_option maxRecDepth 100000 in
theorem unicodetextlaw47_GroupsElements.calls (k : Nat) (A0_0 : Option Addr) (c0_0 : Nat) (l0_0 : List (S49)) (A0_1 : Option Addr) (c0_1 : Nat) (l0_1 : List (S36)) (a0_2 : Int) (a0_3 : Int) (a0_4 : Int) (A1 : Option Addr) (c1 : Nat) (l1 : List ByteArray) (r : Bool) (w : World) (hr0_0 : Kd.C k49 w A0_0 l0_0.length l0_0) (hc0_0 : l0_0.length ≤ c0_0) (hr0_1 : Kd.C k36 w A0_1 l0_1.length l0_1) (hc0_1 : l0_1.length ≤ c0_1) (hr1 : Kd.C Kd.string w A1 l1.length l1) (hc1 : l1.length ≤ c1) (h : unicodetextlaw47_GroupsElements.f k l0_0 l0_1 a0_2 a0_3 a0_4 l1 = some r) :
  Calls Try.prog 9 #[.agg #[.slice A0_0 l0_0.length c0_0, .slice A0_1 l0_1.length c0_1, .int .i64 a0_2, .int .i64 a0_3, .int .i64 a0_4], .slice A1 l1.length c1] w fun e w' => e = .returned (.bool r) ∧ Below w.heap.size w w' := by
 have hu25 := Try.underlying25
 have hu51 := Try.underlying51
 have HR0_0 := Aside0.mk hr0_0
 have HC0_0 := Aside0.mk hc0_0
 clear hr0_0 hc0_0
 have HR0_1 := Aside0.mk hr0_1
 have HC0_1 := Aside0.mk hc0_1
 clear hr0_1 hc0_1
 have HR1 := Aside0.mk hr1
 have HC1 := Aside0.mk hc1
 clear hr1 hc1
 have HB := Aside0.mk (Below.refl w.heap.size w)
 have H : ((unicodetextlaw47_few.f k l0_0 l0_1 a0_2 a0_3 a0_4 l1).bind fun t102 => (if t102 = true then ((groups_Apply.f k l0_0 l0_1 a0_2 a0_3 a0_4 l1).bind fun bt104 => ((groups_Order.f k l0_0 l0_1 a0_2 a0_3 a0_4 l1).bind fun bt115 => (if bt104.2.2.2.2.2 = bt115.2 then (if bt104.2.2.2.2.2 = 0 then (if (bt104.1.length : Int) = (l0_0.length : Int) then ((unicodetextref47_SameGroups.f k bt104.2.1 bt115.1).bind fun t120 => (if t120 = true then (if bt104.2.2.1 = a0_2 then (if bt104.2.2.2.1 = a0_3 then (unicodetextlaw47_GroupsElements.j0 k l1 (bt104.2.2.2.2.1 != a0_4) l0_0 l0_1 a0_2 a0_3 a0_4 bt104.1 bt104.2.1 bt104.2.2.1 bt104.2.2.2.1 bt104.2.2.2.2.1) else (none)) else (none)) else (none))) else (none)) else ((unicodetextlaw47_alive.f k).bind fun t119 => (some t119))) else (none)))) else ((unicodetextlaw47_alive.f k).bind fun t103 => (some t103)))) = some r := h
 clear h
 replace H := Option.bind_eq_some_iff.mp H
 obtain ⟨t102, A30, H⟩ := H
 replace H : (if t102 = true then ((groups_Apply.f k l0_0 l0_1 a0_2 a0_3 a0_4 l1).bind fun bt104 => ((groups_Order.f k l0_0 l0_1 a0_2 a0_3 a0_4 l1).bind fun bt115 => (if bt104.2.2.2.2.2 = bt115.2 then (if bt104.2.2.2.2.2 = 0 then (if (bt104.1.length : Int) = (l0_0.length : Int) then ((unicodetextref47_SameGroups.f k bt104.2.1 bt115.1).bind fun t120 => (if t120 = true then (if bt104.2.2.1 = a0_2 then (if bt104.2.2.2.1 = a0_3 then (unicodetextlaw47_GroupsElements.j0 k l1 (bt104.2.2.2.2.1 != a0_4) l0_0 l0_1 a0_2 a0_3 a0_4 bt104.1 bt104.2.1 bt104.2.2.1 bt104.2.2.2.1 bt104.2.2.2.2.1) else (none)) else (none)) else (none))) else (none)) else ((unicodetextlaw47_alive.f k).bind fun t119 => (some t119))) else (none)))) else ((unicodetextlaw47_alive.f k).bind fun t103 => (some t103))) = some r := H
 have A3 := Aside0.mk A30
 clear A30
 by_cases c4 : t102 = true
 ·subst c4
  have H1 : ((groups_Apply.f k l0_0 l0_1 a0_2 a0_3 a0_4 l1).bind fun bt104 => ((groups_Order.f k l0_0 l0_1 a0_2 a0_3 a0_4 l1).bind fun bt115 => (if bt104.2.2.2.2.2 = bt115.2 then (if bt104.2.2.2.2.2 = 0 then (if (bt104.1.length : Int) = (l0_0.length : Int) then ((unicodetextref47_SameGroups.f k bt104.2.1 bt115.1).bind fun t120 => (if t120 = true then (if bt104.2.2.1 = a0_2 then (if bt104.2.2.2.1 = a0_3 then (unicodetextlaw47_GroupsElements.j0 k l1 (bt104.2.2.2.2.1 != a0_4) l0_0 l0_1 a0_2 a0_3 a0_4 bt104.1 bt104.2.1 bt104.2.2.1 bt104.2.2.2.1 bt104.2.2.2.2.1) else (none)) else (none)) else (none))) else (none)) else ((unicodetextlaw47_alive.f k).bind fun t119 => (some t119))) else (none)))) = some r := by rw [if_pos rfl] at H; exact H
  clear H
  have H := H1
  clear H1
  replace H := Option.bind_eq_some_iff.mp H
  obtain ⟨⟨t104, t107, t110, t111, t112, t113⟩, A50, H⟩ := H
  replace H : ((groups_Order.f k l0_0 l0_1 a0_2 a0_3 a0_4 l1).bind fun bt115 => (if t113 = bt115.2 then (if t113 = 0 then (if (t104.length : Int) = (l0_0.length : Int) then ((unicodetextref47_SameGroups.f k t107 bt115.1).bind fun t120 => (if t120 = true then (if t110 = a0_2 then (if t111 = a0_3 then (unicodetextlaw47_GroupsElements.j0 k l1 (t112 != a0_4) l0_0 l0_1 a0_2 a0_3 a0_4 t104 t107 t110 t111 t112) else (none)) else (none)) else (none))) else (none)) else ((unicodetextlaw47_alive.f k).bind fun t119 => (some t119))) else (none))) = some r := H
  have A5 := Aside0.mk A50
  clear A50
  replace H := Option.bind_eq_some_iff.mp H
  obtain ⟨⟨t115, t118⟩, A60, H⟩ := H
  replace H : (if t113 = t118 then (if t113 = 0 then (if (t104.length : Int) = (l0_0.length : Int) then ((unicodetextref47_SameGroups.f k t107 t115).bind fun t120 => (if t120 = true then (if t110 = a0_2 then (if t111 = a0_3 then (unicodetextlaw47_GroupsElements.j0 k l1 (t112 != a0_4) l0_0 l0_1 a0_2 a0_3 a0_4 t104 t107 t110 t111 t112) else (none)) else (none)) else (none))) else (none)) else ((unicodetextlaw47_alive.f k).bind fun t119 => (some t119))) else (none)) = some r := H
  have A6 := Aside0.mk A60
  clear A60
  by_cases c7 : t113 = t118
  ·rw [if_pos c7] at H
   have c7b0 : (t113 == t118) = true := beq_iff_eq.mpr c7
   have c7b1 : (t113 != t118) = false := bne_eq_false_iff_eq.mpr c7
   clear c7
   by_cases c8 : t113 = 0
   ·rw [if_pos c8] at H
    have c8b0 : (t113 == 0) = true := beq_iff_eq.mpr c8
    have c8b1 : (t113 != 0) = false := bne_eq_false_iff_eq.mpr c8
    clear c8
    have HC9 := Aside0.mk H
    clear H
    go_enter Try.func9, Try.ntmps9
    go_upto_region 9 with (first | ((with_reducible refine gate_dst (N := 2) rfl ?_); refine box_event ?hg (N := 2) ?hd (cs := #[.slice A0_0 l0_0.length c0_0, .slice A0_1 l0_1.length c0_1, .int .i64 a0_2, .int .i64 a0_3, .int .i64 a0_4]) (t := 25) ?hr ?_; (case hd => rfl); (case hg => rfl); (case hr => first | (go_simp; done) | (go_simp; rfl)); intro gb101 hg w10 hbox hb; have n0_ := Aside0.mk (below_step (by repeat (first | (with_reducible first | exact HB.out | apply below_alloc | apply pw_below_drewN | apply below_drew1) | exact HB.out)) hb); have n1_ := Aside0.mk (hbox); have n2_ := Aside0.mk ((by rw [hg]; exact (below_size (by repeat (first | (with_reducible first | exact HB.out | apply below_alloc | apply pw_below_drewN | apply below_drew1) | exact HB.out))) : w.heap.size ≤ gb101)); have n3_ := Aside0.mk ((by rw [hg]; exact (below_size (by repeat (first | (with_reducible first | exact HB.out | apply below_alloc | apply pw_below_drewN | apply below_drew1) | exact HB.out))) : w.heap.size ≤ gb101)); clear HB; have HB := n0_; have BK101 := n1_; have GW101 := n2_; have GE101 := n3_; clear n0_ n1_ n2_ n3_; clear hb hbox hg; have hcz11_0 : w10.cell? ⟨gb101, 0, none⟩ = some (.slice A0_0 l0_0.length c0_0) := (blk_cell BK101.out 0).trans rfl; have hcz11_1 : w10.cell? ⟨gb101, 1, none⟩ = some (.slice A0_1 l0_1.length c0_1) := (blk_cell BK101.out 1).trans rfl; have hcz11_2 : w10.cell? ⟨gb101, 2, none⟩ = some (.int .i64 a0_2) := (blk_cell BK101.out 2).trans rfl; have hcz11_3 : w10.cell? ⟨gb101, 3, none⟩ = some (.int .i64 a0_3) := (blk_cell BK101.out 3).trans rfl; have hcz11_4 : w10.cell? ⟨gb101, 4, none⟩ = some (.int .i64 a0_4) := (blk_cell BK101.out 4).trans rfl; have hfz11_0 := blk_frozen BK101.out 0; have hfz11_1 := blk_frozen BK101.out 1; have hfz11_2 := blk_frozen BK101.out 2; have hfz11_3 := blk_frozen BK101.out 3; have hfz11_4 := blk_frozen BK101.out 4) | ((with_reducible refine gate_callee (f := 10) rfl ?_); refine goesL_ (some 16) rfl rfl Try.func10 (by kernel_rfl) rfl #[.agg #[.slice A0_0 l0_0.length c0_0, .slice A0_1 l0_1.length c0_1, .int .i64 a0_2, .int .i64 a0_3, .int .i64 a0_4], .slice A1 l1.length c1] rfl (by (try simp only [List.map_toArray, List.map_cons, List.map_nil]); first | done | rfl | (simp only [List.length_drop, List.length_take]; rfl)) ?_; (with_reducible refine (unicodetextlaw47_few.calls k _ _ l0_0 _ _ l0_1 a0_2 a0_3 a0_4 _ _ l1 true _ ?side1 ?side2 ?side3 ?side4 ?side5 ?side6 A3.out).mono ?_); (case side1 => repeat (first | exact (Kd.C_below HR0_0.out HB.out) | (with_reducible refine Kd.C_alloc ?_ _) | (with_reducible refine Kd.C_drewN ?_ _) | (with_reducible refine Kd.C_drew ?_))); (case side2 => exact HC0_0.out); (case side3 => repeat (first | exact (Kd.C_below HR0_1.out HB.out) | (with_reducible refine Kd.C_alloc ?_ _) | (with_reducible refine Kd.C_drewN ?_ _) | (with_reducible refine Kd.C_drew ?_))); (case side4 => exact HC0_1.out); (case side5 => repeat (first | exact (Kd.C_below HR1.out HB.out) | (with_reducible refine Kd.C_alloc ?_ _) | (with_reducible refine Kd.C_drewN ?_ _) | (with_reducible refine Kd.C_drew ?_))); (case side6 => exact HC1.out); rintro e w12 ⟨rfl, hb⟩; refine ⟨_, rfl, ?_⟩; have n0_ := Aside0.mk (blk_below (g := gb101) (o := .cells #[.slice A0_0 l0_0.length c0_0, .slice A0_1 l0_1.length c0_1, .int .i64 a0_2, .int .i64 a0_3, .int .i64 a0_4] 25 (0, 0)) (by (with_reducible repeat (first | refine blk_drewN ?_ _ | refine blk_drew ?_ | refine blk_alloc ?_ _)); exact BK101.out) hb); have n1_ := Aside0.mk (below_step (by repeat (first | (with_reducible first | exact HB.out | apply below_alloc | apply pw_below_drewN | apply below_drew1 | refine below_set ?_ GE101.out) | exact HB.out)) hb); clear BK101; clear HB; have BK101 := n0_; have HB := n1_; clear n0_ n1_; (try clear hb); (try clear hb2); (try clear hk); (try clear hi); have hcz13_0 : w12.cell? ⟨gb101, 0, none⟩ = some (.slice A0_0 l0_0.length c0_0) := (blk_cell BK101.out 0).trans rfl; have hcz13_1 : w12.cell? ⟨gb101, 1, none⟩ = some (.slice A0_1 l0_1.length c0_1) := (blk_cell BK101.out 1).trans rfl; have hcz13_2 : w12.cell? ⟨gb101, 2, none⟩ = some (.int .i64 a0_2) := (blk_cell BK101.out 2).trans rfl; have hcz13_3 : w12.cell? ⟨gb101, 3, none⟩ = some (.int .i64 a0_3) := (blk_cell BK101.out 3).trans rfl; have hcz13_4 : w12.cell? ⟨gb101, 4, none⟩ = some (.int .i64 a0_4) := (blk_cell BK101.out 4).trans rfl; have hfz13_0 := blk_frozen BK101.out 0; have hfz13_1 := blk_frozen BK101.out 1; have hfz13_2 := blk_frozen BK101.out 2; have hfz13_3 := blk_frozen BK101.out 3; have hfz13_4 := blk_frozen BK101.out 4) | ((with_reducible refine gate_callee (f := 18) rfl ?_); refine goesL_ (some 22) rfl rfl Try.func18 (by kernel_rfl) rfl #[.agg #[.slice A0_0 l0_0.length c0_0, .slice A0_1 l0_1.length c0_1, .int .i64 a0_2, .int .i64 a0_3, .int .i64 a0_4], .slice A1 l1.length c1] rfl (by (try simp only [List.map_toArray, List.map_cons, List.map_nil]); first | done | rfl | (simp only [List.length_drop, List.length_take]; rfl)) ?_; (with_reducible refine (groups_Apply.calls k _ _ l0_0 _ _ l0_1 a0_2 a0_3 a0_4 _ _ l1 t104 t107 t110 t111 t112 t113 _ ?side1 ?side2 ?side3 ?side4 ?side5 ?side6 A5.out).mono ?_); (case side1 => repeat (first | exact (Kd.C_below HR0_0.out HB.out) | (with_reducible refine Kd.C_alloc ?_ _) | (with_reducible refine Kd.C_drewN ?_ _) | (with_reducible refine Kd.C_drew ?_))); (case side2 => exact HC0_0.out); (case side3 => repeat (first | exact (Kd.C_below HR0_1.out HB.out) | (with_reducible refine Kd.C_alloc ?_ _) | (with_reducible refine Kd.C_drewN ?_ _) | (with_reducible refine Kd.C_drew ?_))); (case side4 => exact HC0_1.out); (case side5 => repeat (first | exact (Kd.C_below HR1.out HB.out) | (with_reducible refine Kd.C_alloc ?_ _) | (with_reducible refine Kd.C_drewN ?_ _) | (with_reducible refine Kd.C_drew ?_))); (case side6 => exact HC1.out); rintro e w14 ⟨v105, v108, rfl, ho0, ho1, hb⟩; refine ⟨_, rfl, ?_⟩; have n0_ := Aside0.mk (Kd.S_lower ho0 (below_size (by repeat (first | (with_reducible first | exact HB.out | apply below_alloc | apply pw_below_drewN | apply below_drew1 | refine below_set ?_ GE101.out) | exact HB.out)))); have n1_ := Aside0.mk (Kd.R_lower ho1 (below_size (by repeat (first | (with_reducible first | exact HB.out | apply below_alloc | apply pw_below_drewN | apply below_drew1 | refine below_set ?_ GE101.out) | exact HB.out)))); have n2_ := Aside0.mk (blk_below (g := gb101) (o := .cells #[.slice A0_0 l0_0.length c0_0, .slice A0_1 l0_1.length c0_1, .int .i64 a0_2, .int .i64 a0_3, .int .i64 a0_4] 25 (0, 0)) (by (with_reducible repeat (first | refine blk_drewN ?_ _ | refine blk_drew ?_ | refine blk_alloc ?_ _)); exact BK101.out) hb); have n3_ := Aside0.mk (below_step (by repeat (first | (with_reducible first | exact HB.out | apply below_alloc | apply pw_below_drewN | apply below_drew1 | refine below_set ?_ GE101.out) | exact HB.out)) hb); clear BK101; clear HB; have HO106 := n0_; have HO109 := n1_; have BK101 := n2_; have HB := n3_; clear n0_ n1_ n2_ n3_; (try clear hb); (try clear hb2); (try clear hk); (try clear hi); (try clear ho0); (try clear ho1)) | ((with_reducible refine gate_dst (N := 5) rfl ?_); refine box_event ?hg (N := 5) ?hd (cs := #[.slice none 0 0, .slice none 0 0, .int .i64 0, .int .i64 0, .int .i64 0]) (t := 25) ?hr ?_; (case hd => rfl); (case hg => rfl); (case hr => first | (go_simp; done) | (go_simp; rfl)); intro gb114 hg w15 hbox hb; have n0_ := Aside0.mk (Kd.S_below (by (with_reducible repeat (first | apply Kd.S_alloc | apply Kd.S_drewN | apply Kd.S_drew)); exact HO106.out) hb); have n1_ := Aside0.mk (Kd.R_below (by (with_reducible repeat (first | apply Kd.R_alloc | apply Kd.R_drewN | apply Kd.R_drew)); exact HO109.out) hb); have n2_ := Aside0.mk (blk_below (g := gb101) (o := .cells #[.slice A0_0 l0_0.length c0_0, .slice A0_1 l0_1.length c0_1, .int .i64 a0_2, .int .i64 a0_3, .int .i64 a0_4] 25 (0, 0)) (by (with_reducible repeat (first | refine blk_drewN ?_ _ | refine blk_drew ?_ | refine blk_alloc ?_ _)); exact BK101.out) hb); have n3_ := Aside0.mk (below_step (by repeat (first | (with_reducible first | exact HB.out | apply below_alloc | apply pw_below_drewN | apply below_drew1 | refine below_set ?_ GE101.out) | exact HB.out)) hb); have n4_ := Aside0.mk (hbox); have n5_ := Aside0.mk ((by rw [hg]; exact (below_size (by repeat (first | (with_reducible first | exact HB.out | apply below_alloc | apply pw_below_drewN | apply below_drew1 | refine below_set ?_ GE101.out) | exact HB.out))) : w.heap.size ≤ gb114)); have n6_ := Aside0.mk ((by rw [hg]; exact (below_size (by repeat (first | (with_reducible first | exact HB.out | apply below_alloc | apply pw_below_drewN | apply below_drew1 | refine below_set ?_ GE101.out) | exact HB.out))) : w.heap.size ≤ gb114)); have n7_ := Aside0.mk ((by rw [hg]; exact Nat.ne_of_lt (blk_lt (g := gb101) (o := .cells #[.slice A0_0 l0_0.length c0_0, .slice A0_1 l0_1.length c0_1, .int .i64 a0_2, .int .i64 a0_3, .int .i64 a0_4] 25 (0, 0)) (by (with_reducible repeat (first | refine blk_drewN ?_ _ | refine blk_drew ?_ | refine blk_alloc ?_ _)); exact BK101.out)) : gb101 ≠ gb114)); have n8_ := Aside0.mk ((by rw [hg]; exact Nat.ne_of_gt (blk_lt (g := gb101) (o := .cells #[.slice A0_0 l0_0.length c0_0, .slice A0_1 l0_1.length c0_1, .int .i64 a0_2, .int .i64 a0_3, .int .i64 a0_4] 25 (0, 0)) (by (with_reducible repeat (first | refine blk_drewN ?_ _ | refine blk_drew ?_ | refine blk_alloc ?_ _)); exact BK101.out)) : gb114 ≠ gb101)); clear HO106; clear HO109; clear BK101; clear HB; have HO106 := n0_; have HO109 := n1_; have BK101 := n2_; have HB := n3_; have BK114 := n4_; have GW114 := n5_; have GE114 := n6_; have NB101_114 := n7_; have NB114_101 := n8_; clear n0_ n1_ n2_ n3_ n4_ n5_ n6_ n7_ n8_; clear hb hbox hg; obtain ⟨Ao16, co16, eo16⟩ := Kd.S_slice HO106.out; subst eo16; have hnb17 := NB114_101.out; have hnc17 := NB101_114.out; have hcz18_0 : w15.cell? ⟨gb114, 0, none⟩ = some (.slice none 0 0) := (blk_cell BK114.out 0).trans rfl; have hcz18_1 : w15.cell? ⟨gb114, 1, none⟩ = some (.slice none 0 0) := (blk_cell BK114.out 1).trans rfl; have hcz18_2 : w15.cell? ⟨gb114, 2, none⟩ = some (.int .i64 0) := (blk_cell BK114.out 2).trans rfl; have hcz18_3 : w15.cell? ⟨gb114, 3, none⟩ = some (.int .i64 0) := (blk_cell BK114.out 3).trans rfl; have hcz18_4 : w15.cell? ⟨gb114, 4, none⟩ = some (.int .i64 0) := (blk_cell BK114.out 4).trans rfl; have hfz18_0 := blk_frozen BK114.out 0; have hfz18_1 := blk_frozen BK114.out 1; have hfz18_2 := blk_frozen BK114.out 2; have hfz18_3 := blk_frozen BK114.out 3; have hfz18_4 := blk_frozen BK114.out 4; obtain ⟨Ao19, co19, eo19⟩ := Kd.R_slice HO109.out; subst eo19; have hcz20_0 : w15.cell? ⟨gb101, 0, none⟩ = some (.slice A0_0 l0_0.length c0_0) := (blk_cell BK101.out 0).trans rfl; have hcz20_1 : w15.cell? ⟨gb101, 1, none⟩ = some (.slice A0_1 l0_1.length c0_1) := (blk_cell BK101.out 1).trans rfl; have hcz20_2 : w15.cell? ⟨gb101, 2, none⟩ = some (.int .i64 a0_2) := (blk_cell BK101.out 2).trans rfl; have hcz20_3 : w15.cell? ⟨gb101, 3, none⟩ = some (.int .i64 a0_3) := (blk_cell BK101.out 3).trans rfl; have hcz20_4 : w15.cell? ⟨gb101, 4, none⟩ = some (.int .i64 a0_4) := (blk_cell BK101.out 4).trans rfl; have hfz20_0 := blk_frozen BK101.out 0; have hfz20_1 := blk_frozen BK101.out 1; have hfz20_2 := blk_frozen BK101.out 2; have hfz20_3 := blk_frozen BK101.out 3; have hfz20_4 := blk_frozen BK101.out 4) | ((with_reducible refine gate_callee (f := 12) rfl ?_); refine goesL_ (some 28) rfl rfl Try.func12 (by kernel_rfl) rfl #[.agg #[.slice A0_0 l0_0.length c0_0, .slice A0_1 l0_1.length c0_1, .int .i64 a0_2, .int .i64 a0_3, .int .i64 a0_4], .slice A1 l1.length c1] rfl (by (try simp only [List.map_toArray, List.map_cons, List.map_nil]); first | done | rfl | (simp only [List.length_drop, List.length_take]; rfl)) ?_; (with_reducible refine (groups_Order.calls k _ _ l0_0 _ _ l0_1 a0_2 a0_3 a0_4 _ _ l1 t115 t118 _ ?side1 ?side2 ?side3 ?side4 ?side5 ?side6 A6.out).mono ?_); (case side1 => exact Kd.C_below HR0_0.out (by repeat (first | (with_reducible first | exact HB.out | apply below_alloc | apply pw_below_drewN | apply below_drew1 | refine below_set ?_ GE101.out | refine below_set ?_ GE114.out) | exact HB.out))); (case side2 => exact HC0_0.out); (case side3 => exact Kd.C_below HR0_1.out (by repeat (first | (with_reducible first | exact HB.out | apply below_alloc | apply pw_below_drewN | apply below_drew1 | refine below_set ?_ GE101.out | refine below_set ?_ GE114.out) | exact HB.out))); (case side4 => exact HC0_1.out); (case side5 => exact Kd.C_below HR1.out (by repeat (first | (with_reducible first | exact HB.out | apply below_alloc | apply pw_below_drewN | apply below_drew1 | refine below_set ?_ GE101.out | refine below_set ?_ GE114.out) | exact HB.out))); (case side6 => exact HC1.out); rintro e w21 ⟨v116, rfl, ho0, hb⟩; refine ⟨_, rfl, ?_⟩; have n0_ := Aside0.mk (Kd.S_below (by (with_reducible repeat (first | apply Kd.S_alloc | apply Kd.S_drewN | apply Kd.S_drew)); exact (Kd.S_mono (Kd.S_far (p := ⟨gb114, 4, none⟩) (Kd.S_far (p := ⟨gb114, 3, none⟩) (Kd.S_far (p := ⟨gb114, 2, none⟩) (Kd.S_far (p := ⟨gb114, 1, none⟩) (Kd.S_far (p := ⟨gb114, 0, none⟩) (Kd.S_types HO106.out BK114.out (by decide)) (fun _ hk => hk.2) (.slice Ao16 t104.length co16)) (fun _ hk => hk.2) (.slice Ao19 t107.length co19)) (fun _ hk => hk.2) (.int .i64 t110)) (fun _ hk => hk.2) (.int .i64 t111)) (fun _ hk => hk.2) (.int .i64 t112)) (fun _ h_ => h_.1))) hb); have n1_ := Aside0.mk (Kd.R_elder' (by (with_reducible repeat (first | apply Kd.R_alloc | apply Kd.R_drewN | apply Kd.R_drew)); exact (Kd.R_mono (Kd.R_far (p := ⟨gb114, 4, none⟩) (Kd.R_far (p := ⟨gb114, 3, none⟩) (Kd.R_far (p := ⟨gb114, 2, none⟩) (Kd.R_far (p := ⟨gb114, 1, none⟩) (Kd.R_far (p := ⟨gb114, 0, none⟩) (Kd.R_types HO109.out BK114.out (by decide)) (fun _ hk => hk.2) (.slice Ao16 t104.length co16)) (fun _ hk => hk.2) (.slice Ao19 t107.length co19)) (fun _ hk => hk.2) (.int .i64 t110)) (fun _ hk => hk.2) (.int .i64 t111)) (fun _ hk => hk.2) (.int .i64 t112)) (fun _ h_ => h_.1))) (Kd.R_base ho0) hb); have n2_ := Aside0.mk (Kd.R_lower (Kd.R_new' ho0 (Kd.R_lt (by (with_reducible repeat (first | apply Kd.R_alloc | apply Kd.R_drewN | apply Kd.R_drew)); exact (Kd.R_mono (Kd.R_far (p := ⟨gb114, 4, none⟩) (Kd.R_far (p := ⟨gb114, 3, none⟩) (Kd.R_far (p := ⟨gb114, 2, none⟩) (Kd.R_far (p := ⟨gb114, 1, none⟩) (Kd.R_far (p := ⟨gb114, 0, none⟩) (Kd.R_types HO109.out BK114.out (by decide)) (fun _ hk => hk.2) (.slice Ao16 t104.length co16)) (fun _ hk => hk.2) (.slice Ao19 t107.length co19)) (fun _ hk => hk.2) (.int .i64 t110)) (fun _ hk => hk.2) (.int .i64 t111)) (fun _ hk => hk.2) (.int .i64 t112)) (fun _ h_ => h_.1))))) (below_size (by repeat (first | (with_reducible first | exact HB.out | apply below_alloc | apply pw_below_drewN | apply below_drew1 | refine below_set ?_ GE101.out | refine below_set ?_ GE114.out) | exact HB.out)))); have n3_ := Aside0.mk (blk_below (g := gb101) (o := .cells #[.slice A0_0 l0_0.length c0_0, .slice A0_1 l0_1.length c0_1, .int .i64 a0_2, .int .i64 a0_3, .int .i64 a0_4] 25 (0, 0)) (by (with_reducible repeat (first | refine blk_drewN ?_ _ | refine blk_drew ?_ | refine blk_alloc ?_ _)); refine blk_far ?_ NB101_114.out _; (with_reducible repeat (first | refine blk_drewN ?_ _ | refine blk_drew ?_ | refine blk_alloc ?_ _)); refine blk_far ?_ NB101_114.out _; (with_reducible repeat (first | refine blk_drewN ?_ _ | refine blk_drew ?_ | refine blk_alloc ?_ _)); refine blk_far ?_ NB101_114.out _; (with_reducible repeat (first | refine blk_drewN ?_ _ | refine blk_drew ?_ | refine blk_alloc ?_ _)); refine blk_far ?_ NB101_114.out _; (with_reducible repeat (first | refine blk_drewN ?_ _ | refine blk_drew ?_ | refine blk_alloc ?_ _)); refine blk_far ?_ NB101_114.out _; (with_reducible repeat (first | refine blk_drewN ?_ _ | refine blk_drew ?_ | refine blk_alloc ?_ _)); exact BK101.out) hb); have n4_ := Aside0.mk (blk_below (g := gb114) (o := .cells #[.slice Ao16 t104.length co16, .slice Ao19 t107.length co19, .int .i64 t110, .int .i64 t111, .int .i64 t112] 25 (0, 0)) (by (with_reducible repeat (first | refine blk_drewN ?_ _ | refine blk_drew ?_ | refine blk_alloc ?_ _)); refine blk_put (cs := #[.slice Ao16 t104.length co16, .slice Ao19 t107.length co19, .int .i64 t110, .int .i64 t111, .int .i64 0]) ?_ 4 _ rfl; (with_reducible repeat (first | refine blk_drewN ?_ _ | refine blk_drew ?_ | refine blk_alloc ?_ _)); refine blk_put (cs := #[.slice Ao16 t104.length co16, .slice Ao19 t107.length co19, .int .i64 t110, .int .i64 0, .int .i64 0]) ?_ 3 _ rfl; (with_reducible repeat (first | refine blk_drewN ?_ _ | refine blk_drew ?_ | refine blk_alloc ?_ _)); refine blk_put (cs := #[.slice Ao16 t104.length co16, .slice Ao19 t107.length co19, .int .i64 0, .int .i64 0, .int .i64 0]) ?_ 2 _ rfl; (with_reducible repeat (first | refine blk_drewN ?_ _ | refine blk_drew ?_ | refine blk_alloc ?_ _)); refine blk_put (cs := #[.slice Ao16 t104.length co16, .slice none 0 0, .int .i64 0, .int .i64 0, .int .i64 0]) ?_ 1 _ rfl; (with_reducible repeat (first | refine blk_drewN ?_ _ | refine blk_drew ?_ | refine blk_alloc ?_ _)); refine blk_put (cs := #[.slice none 0 0, .slice none 0 0, .int .i64 0, .int .i64 0, .int .i64 0]) ?_ 0 _ rfl; (with_reducible repeat (first | refine blk_drewN ?_ _ | refine blk_drew ?_ | refine blk_alloc ?_ _)); exact BK114.out) hb); have n5_ := Aside0.mk (below_step (by repeat (first | (with_reducible first | exact HB.out | apply below_alloc | apply pw_below_drewN | apply below_drew1 | refine below_set ?_ GE101.out | refine below_set ?_ GE114.out) | exact HB.out)) hb); clear HO106; clear HO109; clear BK101; clear BK114; clear HB; have HO106 := n0_; have HO109 := n1_; have HO117 := n2_; have BK101 := n3_; have BK114 := n4_; have HB := n5_; clear n0_ n1_ n2_ n3_ n4_ n5_; (try clear hb); (try clear hb2); (try clear hk); (try clear hi); (try clear ho0)))
    (try simp only [Act.put, List.setIfInBounds_toArray, List.set_cons_zero, List.set_cons_succ])
    go_cut [71] (fun v71 wc => ∃ (kq : Nat) (x71_8 : Bool), v71 = .bool x71_8 ∧ Aside0 (unicodetextlaw47_GroupsElements.j0 kq l1 x71_8 l0_0 l0_1 a0_2 a0_3 a0_4 t104 t107 t110 t111 t112 = some r) ∧ Aside0 (kq ≤ k) ∧ Aside0 (Kd.S k49 49 wc w.heap.size (fun _ => True) (.slice Ao16 t104.length co16) t104) ∧ Aside0 (Kd.R k36 36 wc w.heap.size (fun _ => True) (.slice Ao19 t107.length co19) t107) ∧ Aside0 (wc.heap[gb101]? = some (.cells #[(.slice A0_0 l0_0.length c0_0), (.slice A0_1 l0_1.length c0_1), .int .i64 a0_2, .int .i64 a0_3, .int .i64 a0_4] 25 (0, 0))) ∧ Aside0 (wc.heap[gb114]? = some (.cells #[(.slice Ao16 t104.length co16), (.slice Ao19 t107.length co19), .int .i64 t110, .int .i64 t111, .int .i64 t112] 25 (0, 0))) ∧ Aside0 (Below w.heap.size w wc))
    case first =>
     have H := HC9.out
     clear HC9
     by_cases c22 : (t104.length : Int) = (l0_0.length : Int)
     ·rw [if_pos c22] at H
      have c22b0 : ((t104.length : Int) == (l0_0.length : Int)) = true := beq_iff_eq.mpr c22
      have c22b1 : ((t104.length : Int) != (l0_0.length : Int)) = false := bne_eq_false_iff_eq.mpr c22
      have c22b2 : (t104.length == l0_0.length) = true := by first | simpa using c22 | (simp at c22 ⊢; omega)
      clear c22
      (first | rw [c22b0] | (simp only [i64_w, i32_w]; rw [c22b0]) | skip)
      replace H := Option.bind_eq_some_iff.mp H
      obtain ⟨t120, A230, H⟩ := H
      replace H : (if t120 = true then (if t110 = a0_2 then (if t111 = a0_3 then (unicodetextlaw47_GroupsElements.j0 k l1 (t112 != a0_4) l0_0 l0_1 a0_2 a0_3 a0_4 t104 t107 t110 t111 t112) else (none)) else (none)) else (none)) = some r := H
      have A23 := Aside0.mk A230
      clear A230
      by_cases c24 : t120 = true
      ·subst c24
       have H1 : (if t110 = a0_2 then (if t111 = a0_3 then (unicodetextlaw47_GroupsElements.j0 k l1 (t112 != a0_4) l0_0 l0_1 a0_2 a0_3 a0_4 t104 t107 t110 t111 t112) else (none)) else (none)) = some r := by rw [if_pos rfl] at H; exact H
       clear H
       have H := H1
       clear H1
       by_cases c25 : t110 = a0_2
       ·rw [if_pos c25] at H
        have c25b0 : (t110 == a0_2) = true := beq_iff_eq.mpr c25
        have c25b1 : (t110 != a0_2) = false := bne_eq_false_iff_eq.mpr c25
        clear c25
        by_cases c26 : t111 = a0_3
        ·rw [if_pos c26] at H
         have c26b0 : (t111 == a0_3) = true := beq_iff_eq.mpr c26
         have c26b1 : (t111 != a0_3) = false := bne_eq_false_iff_eq.mpr c26
         clear c26
         have H' := Aside0.mk H
         clear H
         have hnb27 := NB114_101.out
         have hnc27 := NB101_114.out
         have hcz28_0 : w21.cell? ⟨gb114, 0, none⟩ = some (.slice Ao16 t104.length co16) := (blk_cell BK114.out 0).trans rfl
         have hcz28_1 : w21.cell? ⟨gb114, 1, none⟩ = some (.slice Ao19 t107.length co19) := (blk_cell BK114.out 1).trans rfl
         have hcz28_2 : w21.cell? ⟨gb114, 2, none⟩ = some (.int .i64 t110) := (blk_cell BK114.out 2).trans rfl
         have hcz28_3 : w21.cell? ⟨gb114, 3, none⟩ = some (.int .i64 t111) := (blk_cell BK114.out 3).trans rfl
         have hcz28_4 : w21.cell? ⟨gb114, 4, none⟩ = some (.int .i64 t112) := (blk_cell BK114.out 4).trans rfl
         have hfz28_0 := blk_frozen BK114.out 0
         have hfz28_1 := blk_frozen BK114.out 1
         have hfz28_2 := blk_frozen BK114.out 2
         have hfz28_3 := blk_frozen BK114.out 3
         have hfz28_4 := blk_frozen BK114.out 4
         have hcz29_0 : w21.cell? ⟨gb101, 0, none⟩ = some (.slice A0_0 l0_0.length c0_0) := (blk_cell BK101.out 0).trans rfl
         have hcz29_1 : w21.cell? ⟨gb101, 1, none⟩ = some (.slice A0_1 l0_1.length c0_1) := (blk_cell BK101.out 1).trans rfl
         have hcz29_2 : w21.cell? ⟨gb101, 2, none⟩ = some (.int .i64 a0_2) := (blk_cell BK101.out 2).trans rfl
         have hcz29_3 : w21.cell? ⟨gb101, 3, none⟩ = some (.int .i64 a0_3) := (blk_cell BK101.out 3).trans rfl
         have hcz29_4 : w21.cell? ⟨gb101, 4, none⟩ = some (.int .i64 a0_4) := (blk_cell BK101.out 4).trans rfl
         have hfz29_0 := blk_frozen BK101.out 0
         have hfz29_1 := blk_frozen BK101.out 1
         have hfz29_2 := blk_frozen BK101.out 2
         have hfz29_3 := blk_frozen BK101.out 3
         have hfz29_4 := blk_frozen BK101.out 4
         obtain ⟨Ao30, co30, eo30⟩ := Kd.R_slice HO117.out
         subst eo30
         go_wp2_with (first | (go_at_call 14; (with_reducible refine (unicodetextref47_SameGroups.calls k _ _ t107 _ _ t115 true _ ?side1 ?side2 ?side3 ?side4 A23.out).mono ?_); (case side1 => repeat (first | exact (Kd.R_reads' HO109.out).2.2 | (with_reducible refine Kd.C_alloc ?_ _) | (with_reducible refine Kd.C_drewN ?_ _) | (with_reducible refine Kd.C_drew ?_))); (case side2 => exact (Kd.R_reads' HO109.out).2.1); (case side3 => repeat (first | exact (Kd.R_reads' HO117.out).2.2 | (with_reducible refine Kd.C_alloc ?_ _) | (with_reducible refine Kd.C_drewN ?_ _) | (with_reducible refine Kd.C_drew ?_))); (case side4 => exact (Kd.R_reads' HO117.out).2.1); rintro e w' ⟨rfl, ⟨nd, rfl⟩⟩))
         go_meet
         case rel => exact ⟨_, ((t112 != a0_4)), (by first | rfl | (simp; done) | (simp [*]; done)), H', ⟨by first | omega | exact Nat.le_refl _⟩, ⟨by (with_reducible repeat (first | apply Kd.S_alloc | apply Kd.S_drewN | apply Kd.S_drew)); exact HO106.out⟩, ⟨by (with_reducible repeat (first | apply Kd.R_alloc | apply Kd.R_drewN | apply Kd.R_drew)); exact Kd.R_mono HO109.out (fun _ hk => trivial)⟩, ⟨by (with_reducible repeat (first | refine blk_drewN ?_ _ | refine blk_drew ?_ | refine blk_alloc ?_ _)); exact BK101.out⟩, ⟨by (with_reducible repeat (first | refine blk_drewN ?_ _ | refine blk_drew ?_ | refine blk_alloc ?_ _)); exact BK114.out⟩, ⟨by repeat (first | (with_reducible first | exact HB.out | apply below_alloc | apply pw_below_drewN | apply below_drew1 | refine below_set ?_ GE101.out | refine below_set ?_ GE114.out) | exact HB.out)⟩⟩
        ·rw [if_neg c26] at H
         exact absurd H (by simp)
       ·rw [if_neg c25] at H
        exact absurd H (by simp)
      ·rw [if_neg c24] at H
       exact absurd H (by simp)
     ·rw [if_neg c22] at H
      exact absurd H (by simp)
    case rest =>
     clear HC9
     try clear c1
     try clear c2
     try clear p2
     try clear c3
     try clear c4
     try clear c7
     try clear c7b0
     try clear c7b1
     try clear c8
     try clear c8b0
     try clear c8b1
     try clear c9
     try clear c10
     try clear c12
     try clear c17
     try clear c18
     try clear c22
     try clear c22b0
     try clear c22b1
     try clear c22b2
     try clear c24
     try clear c25
     try clear c25b0
     try clear c25b1
     try clear c26
     try clear c26b0
     try clear c26b1
     try clear c27
     try clear c31
     try clear c35
     try clear c39
     try clear c43
     try clear hcz11_0
     try clear hcz11_1
     try clear hcz11_2
     try clear hcz11_3
     try clear hcz11_4
     try clear hcz13_0
     try clear hcz13_1
     try clear hcz13_2
     try clear hcz13_3
     try clear hcz13_4
     try clear hcz18_0
     try clear hcz18_1
     try clear hcz18_2
     try clear hcz18_3
     try clear hcz18_4
     try clear hcz20_0
     try clear hcz20_1
     try clear hcz20_2
     try clear hcz20_3
     try clear hcz20_4
     try clear hcz28_0
     try clear hcz28_1
     try clear hcz28_2
     try clear hcz28_3
     try clear hcz28_4
     try clear hcz29_0
     try clear hcz29_1
     try clear hcz29_2
     try clear hcz29_3
     try clear hcz29_4
     try clear hcz32_0
     try clear hcz32_1
     try clear hcz32_2
     try clear hcz32_3
     try clear hcz32_4
     try clear hcz33_0
     try clear hcz33_1
     try clear hcz33_2
     try clear hcz33_3
     try clear hcz33_4
     try clear hcz36_0
     try clear hcz36_1
     try clear hcz36_2
     try clear hcz36_3
     try clear hcz36_4
     try clear hcz37_0
     try clear hcz37_1
     try clear hcz37_2
     try clear hcz37_3
     try clear hcz37_4
     try clear hcz40_0
     try clear hcz40_1
     try clear hcz40_2
     try clear hcz40_3
     try clear hcz40_4
     try clear hcz41_0
     try clear hcz41_1
     try clear hcz41_2
     try clear hcz41_3
     try clear hcz41_4
     try clear hcz44_0
     try clear hcz44_1
     try clear hcz44_2
     try clear hcz44_3
     try clear hcz44_4
     try clear hcz45_0
     try clear hcz45_1
     try clear hcz45_2
     try clear hcz45_3
     try clear hcz45_4
     try clear hfz11_0
     try clear hfz11_1
     try clear hfz11_2
     try clear hfz11_3
     try clear hfz11_4
     try clear hfz13_0
     try clear hfz13_1
     try clear hfz13_2
     try clear hfz13_3
     try clear hfz13_4
     try clear hfz18_0
     try clear hfz18_1
     try clear hfz18_2
     try clear hfz18_3
     try clear hfz18_4
     try clear hfz20_0
     try clear hfz20_1
     try clear hfz20_2
     try clear hfz20_3
     try clear hfz20_4
     try clear hfz28_0
     try clear hfz28_1
     try clear hfz28_2
     try clear hfz28_3
     try clear hfz28_4
     try clear hfz29_0
     try clear hfz29_1
     try clear hfz29_2
     try clear hfz29_3
     try clear hfz29_4
     try clear hfz32_0
     try clear hfz32_1
     try clear hfz32_2
     try clear hfz32_3
     try clear hfz32_4
     try clear hfz33_0
     try clear hfz33_1
     try clear hfz33_2
     try clear hfz33_3
     try clear hfz33_4
     try clear hfz36_0
     try clear hfz36_1
     try clear hfz36_2
     try clear hfz36_3
     try clear hfz36_4
     try clear hfz37_0
     try clear hfz37_1
     try clear hfz37_2
     try clear hfz37_3
     try clear hfz37_4
     try clear hfz40_0
     try clear hfz40_1
     try clear hfz40_2
     try clear hfz40_3
     try clear hfz40_4
     try clear hfz41_0
     try clear hfz41_1
     try clear hfz41_2
     try clear hfz41_3
     try clear hfz41_4
     try clear hfz44_0
     try clear hfz44_1
     try clear hfz44_2
     try clear hfz44_3
     try clear hfz44_4
     try clear hfz45_0
     try clear hfz45_1
     try clear hfz45_2
     try clear hfz45_3
     try clear hfz45_4
     obtain ⟨kq, x71_8, rfl, HA, HJ8, HO_115000, HO_115001, BK101, BK114, HB⟩ := hcut
     cases kq with
     | zero => exact absurd HA.out (by simp [unicodetextlaw47_GroupsElements.j0])
     | succ kj8 =>
      have H := HA.out
      clear HA
      simp only [unicodetextlaw47_GroupsElements.j0] at H
      by_cases c46 : x71_8 = true
      ·rw [if_pos c46] at H
       exact absurd H (by simp)
      ·replace c46 := Bool.eq_false_iff.mpr c46
       subst c46
       have H1 : (unicodetextlaw47_GroupsElements.l0 kj8 l1 0 l0_0 l0_1 a0_2 a0_3 a0_4 t104 t107 t110 t111 t112) = some r := by rw [if_neg (show ¬ (false = true) by decide)] at H; exact H
       clear H
       have H := H1
       clear H1
       have H' := Aside0.mk H
       clear H
       go_wp2
       go_loopg [9] kj8 (fun kq v9 w' => ∃ (x9_2 : Int), v9 = .int .i64 x9_2 ∧ Aside0 (unicodetextlaw47_GroupsElements.l0 kq l1 x9_2 l0_0 l0_1 a0_2 a0_3 a0_4 t104 t107 t110 t111 t112 = some r) ∧ Aside0 (kq ≤ kj8) ∧ Aside0 (Kd.S k49 49 w' w.heap.size (fun _ => True) (.slice Ao16 t104.length co16) t104) ∧ Aside0 (Kd.R k36 36 w' w.heap.size (fun _ => True) (.slice Ao19 t107.length co19) t107) ∧ Aside0 (w'.heap[gb101]? = some (.cells #[(.slice A0_0 l0_0.length c0_0), (.slice A0_1 l0_1.length c0_1), .int .i64 a0_2, .int .i64 a0_3, .int .i64 a0_4] 25 (0, 0))) ∧ Aside0 (w'.heap[gb114]? = some (.cells #[(.slice Ao16 t104.length co16), (.slice Ao19 t107.length co19), .int .i64 t110, .int .i64 t111, .int .i64 t112] 25 (0, 0))) ∧ Aside0 (Below w.heap.size w w'))
       case atStart => exact ⟨(0), (by first | rfl | (simp; done) | (simp [*]; done)), H', ⟨Nat.le_refl _⟩, ⟨by (with_reducible repeat (first | apply Kd.S_alloc | apply Kd.S_drewN | apply Kd.S_drew)); exact HO_115000.out⟩, ⟨by (with_reducible repeat (first | apply Kd.R_alloc | apply Kd.R_drewN | apply Kd.R_drew)); exact HO_115001.out⟩, ⟨by (with_reducible repeat (first | refine blk_drewN ?_ _ | refine blk_drew ?_ | refine blk_alloc ?_ _)); exact BK101.out⟩, ⟨by (with_reducible repeat (first | refine blk_drewN ?_ _ | refine blk_drew ?_ | refine blk_alloc ?_ _)); exact BK114.out⟩, ⟨by repeat (first | (with_reducible first | exact HB.out | apply below_alloc | apply pw_below_drewN | apply below_drew1 | refine below_set ?_ GE101.out | refine below_set ?_ GE114.out) | exact HB.out)⟩⟩
       case round =>
        clear H'
        try clear c1
        try clear c2
        try clear p2
        try clear c3
        try clear c4
        try clear c7
        try clear c7b0
        try clear c7b1
        try clear c8
        try clear c8b0
        try clear c8b1
        try clear c9
        try clear c10
        try clear c12
        try clear c17
        try clear c18
        try clear c22
        try clear c22b0
        try clear c22b1
        try clear c22b2
        try clear c24
        try clear c25
        try clear c25b0
        try clear c25b1
        try clear c26
        try clear c26b0
        try clear c26b1
        try clear c27
        try clear c31
        try clear c35
        try clear c39
        try clear c43
        try clear c46
        try clear hcz11_0
        try clear hcz11_1
        try clear hcz11_2
        try clear hcz11_3
        try clear hcz11_4
        try clear hcz13_0
        try clear hcz13_1
        try clear hcz13_2
        try clear hcz13_3
        try clear hcz13_4
        try clear hcz18_0
        try clear hcz18_1
        try clear hcz18_2
        try clear hcz18_3
        try clear hcz18_4
        try clear hcz20_0
        try clear hcz20_1
        try clear hcz20_2
        try clear hcz20_3
        try clear hcz20_4
        try clear hcz28_0
        try clear hcz28_1
        try clear hcz28_2
        try clear hcz28_3
        try clear hcz28_4
        try clear hcz29_0
        try clear hcz29_1
        try clear hcz29_2
        try clear hcz29_3
        try clear hcz29_4
        try clear hcz32_0
        try clear hcz32_1
        try clear hcz32_2
        try clear hcz32_3
        try clear hcz32_4
        try clear hcz33_0
        try clear hcz33_1
        try clear hcz33_2
        try clear hcz33_3
        try clear hcz33_4
        try clear hcz36_0
        try clear hcz36_1
        try clear hcz36_2
        try clear hcz36_3
        try clear hcz36_4
        try clear hcz37_0
        try clear hcz37_1
        try clear hcz37_2
        try clear hcz37_3
        try clear hcz37_4
        try clear hcz40_0
        try clear hcz40_1
        try clear hcz40_2
        try clear hcz40_3
        try clear hcz40_4
        try clear hcz41_0
        try clear hcz41_1
        try clear hcz41_2
        try clear hcz41_3
        try clear hcz41_4
        try clear hcz44_0
        try clear hcz44_1
        try clear hcz44_2
        try clear hcz44_3
        try clear hcz44_4
        try clear hcz45_0
        try clear hcz45_1
        try clear hcz45_2
        try clear hcz45_3
        try clear hcz45_4
        try clear hfz11_0
        try clear hfz11_1
        try clear hfz11_2
        try clear hfz11_3
        try clear hfz11_4
        try clear hfz13_0
        try clear hfz13_1
        try clear hfz13_2
        try clear hfz13_3
        try clear hfz13_4
        try clear hfz18_0
        try clear hfz18_1
        try clear hfz18_2
        try clear hfz18_3
        try clear hfz18_4
        try clear hfz20_0
        try clear hfz20_1
        try clear hfz20_2
        try clear hfz20_3
        try clear hfz20_4
        try clear hfz28_0
        try clear hfz28_1
        try clear hfz28_2
        try clear hfz28_3
        try clear hfz28_4
        try clear hfz29_0
        try clear hfz29_1
        try clear hfz29_2
        try clear hfz29_3
        try clear hfz29_4
        try clear hfz32_0
        try clear hfz32_1
        try clear hfz32_2
        try clear hfz32_3
        try clear hfz32_4
        try clear hfz33_0
        try clear hfz33_1
        try clear hfz33_2
        try clear hfz33_3
        try clear hfz33_4
        try clear hfz36_0
        try clear hfz36_1
        try clear hfz36_2
        try clear hfz36_3
        try clear hfz36_4
        try clear hfz37_0
        try clear hfz37_1
        try clear hfz37_2
        try clear hfz37_3
        try clear hfz37_4
        try clear hfz40_0
        try clear hfz40_1
        try clear hfz40_2
        try clear hfz40_3
        try clear hfz40_4
        try clear hfz41_0
        try clear hfz41_1
        try clear hfz41_2
        try clear hfz41_3
        try clear hfz41_4
        try clear hfz44_0
        try clear hfz44_1
        try clear hfz44_2
        try clear hfz44_3
        try clear hfz44_4
        try clear hfz45_0
        try clear hfz45_1
        try clear hfz45_2
        try clear hfz45_3
        try clear hfz45_4
        try clear p2
        obtain ⟨x9_2, rfl, HA, HK2, HO_115000, HO_115001, BK101, BK114, HB⟩ := hrel
        cases gk with
        | zero => exact absurd HA.out (by simp [unicodetextlaw47_GroupsElements.l0])
        | succ k2 =>
         have H := HA.out
         clear HA
         simp only [unicodetextlaw47_GroupsElements.l0] at H
         by_cases c47 : x9_2 < (l0_0.length : Int)
         ·rw [if_pos c47] at H
          have c47b0 : decide (x9_2 < (l0_0.length : Int)) = true := decide_eq_true c47
          clear c47
          by_cases c48 : 0 ≤ x9_2
          ·rw [if_pos c48] at H
           have c48b0 : decide (0 ≤ x9_2) = true := decide_eq_true c48
           clear c48
           by_cases c49 : x9_2 < (t104.length : Int)
           ·rw [if_pos c49] at H
            have c49b0 : decide (x9_2 < (t104.length : Int)) = true := decide_eq_true c49
            clear c49
            by_cases c50 : (((rd_T49 l0_0 x9_2).f1).length : Int) = (((rd_T49 t104 x9_2).f1).length : Int)
            ·rw [if_pos c50] at H
             have c50b0 : ((((rd_T49 l0_0 x9_2).f1).length : Int) == (((rd_T49 t104 x9_2).f1).length : Int)) = true := beq_iff_eq.mpr c50
             have c50b1 : ((((rd_T49 l0_0 x9_2).f1).length : Int) != (((rd_T49 t104 x9_2).f1).length : Int)) = false := bne_eq_false_iff_eq.mpr c50
             have c50b2 : (((rd_T49 l0_0 x9_2).f1).length == ((rd_T49 t104 x9_2).f1).length) = true := by first | simpa using c50 | (simp at c50 ⊢; omega)
             clear c50
             have H' := Aside0.mk H
             clear H
             have hnb51 := NB101_114.out
             have hnc51 := NB114_101.out
             have hcz52_0 : wr.cell? ⟨gb101, 0, none⟩ = some (.slice A0_0 l0_0.length c0_0) := (blk_cell BK101.out 0).trans rfl
             have hcz52_1 : wr.cell? ⟨gb101, 1, none⟩ = some (.slice A0_1 l0_1.length c0_1) := (blk_cell BK101.out 1).trans rfl
             have hcz52_2 : wr.cell? ⟨gb101, 2, none⟩ = some (.int .i64 a0_2) := (blk_cell BK101.out 2).trans rfl
             have hcz52_3 : wr.cell? ⟨gb101, 3, none⟩ = some (.int .i64 a0_3) := (blk_cell BK101.out 3).trans rfl
             have hcz52_4 : wr.cell? ⟨gb101, 4, none⟩ = some (.int .i64 a0_4) := (blk_cell BK101.out 4).trans rfl
             have hfz52_0 := blk_frozen BK101.out 0
             have hfz52_1 := blk_frozen BK101.out 1
             have hfz52_2 := blk_frozen BK101.out 2
             have hfz52_3 := blk_frozen BK101.out 3
             have hfz52_4 := blk_frozen BK101.out 4
             try go_wp2
             have n0_ := Aside0.mk (Kd.S_drew HO_115000.out)
             have n1_ := Aside0.mk (Kd.R_drew HO_115001.out)
             have n2_ := Aside0.mk (blk_drew BK101.out)
             have n3_ := Aside0.mk (blk_drew BK114.out)
             have n4_ := Aside0.mk (below_drew1 HB.out)
             clear HO_115000
             clear HO_115001
             clear BK101
             clear BK114
             clear HB
             have HO_115000 := n0_
             have HO_115001 := n1_
             have BK101 := n2_
             have BK114 := n3_
             have HB := n4_
             clear n0_ n1_ n2_ n3_ n4_
             have p122 : 0 ≤ (x9_2 : Int) := of_decide_eq_true (by first | (with_reducible assumption) | assumption)
             have q122 : x9_2 < (l0_0.length : Int) := of_decide_eq_true (by first | (with_reducible assumption) | assumption)
             obtain ⟨ad122, A122_0, c122_0, A122_1, c122_1, e122, hx122_0, hx122_1, hl122_0, hi122_0, hl122_1, hi122_1⟩ := at_T49 HR0_0.out x9_2 p122 q122
             have hw122_1 := hx122_1
             have hw122_0 := hx122_0
             cases e122
             replace hx122_0 := (HB.out.cell (World.block_lt_of_cell? w _ hx122_0)).trans hx122_0
             replace hx122_1 := (HB.out.cell (World.block_lt_of_cell? w _ hx122_1)).trans hx122_1
             have HR122_0 := Aside0.mk hi122_0
             have HC122_0 := Aside0.mk hl122_0
             clear hi122_0 hl122_0
             have HR122_1 := Aside0.mk hi122_1
             have HC122_1 := Aside0.mk hl122_1
             clear hi122_1 hl122_1
             replace p122 := eq_true p122
             replace q122 := eq_true q122
             have p123 : 0 ≤ (x9_2 : Int) := of_decide_eq_true (by first | (with_reducible assumption) | assumption)
             have q123 : x9_2 < (t104.length : Int) := of_decide_eq_true (by first | (with_reducible assumption) | assumption)
             obtain ⟨ad123, A123_0, c123_0, A123_1, c123_1, e123, hx123_0, hx123_1, hl123_0, hi123_0, hl123_1, hi123_1⟩ := at_T49 (Kd.S_reads' HO_115000.out).2.2 x9_2 p123 q123
             cases e123
             obtain ⟨ce123, hce123, hMe123, hcc123⟩ := Kd.S_get HO_115000.out z49 x9_2 p123 (by first | exact q123 | exact of_decide_eq_true (by first | (with_reducible assumption) | assumption) | (have e_ := (Kd.S_reads' HO_115000.out).1; omega))
             obtain ⟨ve123_0, ve123_1, rfl, ge123_0, ge123_1⟩ := k49_openM hMe123
             have hv123_0 := hcc123 0 _ rfl
             rw [Nat.add_zero] at hv123_0
             replace hv123_0 := Option.some.inj (hv123_0.symm.trans hx123_0)
             rw [hv123_0] at ge123_0
             have HL123_0 := Aside0.mk (show Kd.R (Kd.int .i64) 3 _ _ _ _ ((rd_T49 t104 x9_2).f0) from ge123_0)
             clear hv123_0 ge123_0
             have hv123_1 := hcc123 1 _ rfl
             rw [add_field _ _ 1 (by omega)] at hv123_1
             replace hv123_1 := Option.some.inj (hv123_1.symm.trans hx123_1)
             rw [hv123_1] at ge123_1
             have HL123_1 := Aside0.mk (show Kd.R k51 51 _ _ _ _ ((rd_T49 t104 x9_2).f1) from ge123_1)
             clear hv123_1 ge123_1
             clear hcc123 hce123
             have HR123_0 := Aside0.mk hi123_0
             have HC123_0 := Aside0.mk hl123_0
             clear hi123_0 hl123_0
             have HR123_1 := Aside0.mk hi123_1
             have HC123_1 := Aside0.mk hl123_1
             clear hi123_1 hl123_1
             replace p123 := eq_true p123
             replace q123 := eq_true q123
             refine start_ (n := 14) (S := fun w' => w'.cell? ⟨gb101, 0, none⟩ = some (.slice (some ad122) l0_0.length c0_0) ∧ w'.cell? ⟨gb101, 1, none⟩ = some (.slice A0_1 l0_1.length c0_1) ∧ w'.cell? ⟨gb101, 2, none⟩ = some (.int .i64 a0_2) ∧ w'.cell? ⟨gb101, 3, none⟩ = some (.int .i64 a0_3) ∧ w'.cell? ⟨gb101, 4, none⟩ = some (.int .i64 a0_4) ∧ w'.cell? ⟨gb114, 0, none⟩ = some (.slice (some ad123) t104.length co16) ∧ w'.cell? ⟨gb114, 1, none⟩ = some (.slice Ao19 t107.length co19) ∧ w'.cell? ⟨gb114, 2, none⟩ = some (.int .i64 t110) ∧ w'.cell? ⟨gb114, 3, none⟩ = some (.int .i64 t111) ∧ w'.cell? ⟨gb114, 4, none⟩ = some (.int .i64 t112) ∧ w'.cell? (ad122.add ((x9_2).toNat * 2)) = some (.slice A122_0 ((rd_T49 l0_0 x9_2).f0).length c122_0) ∧ w'.cell? ⟨(ad122.add ((x9_2).toNat * 2)).block, (ad122.add ((x9_2).toNat * 2)).off + 1, none⟩ = some (.slice A122_1 ((rd_T49 l0_0 x9_2).f1).length c122_1) ∧ w'.cell? (ad123.add ((x9_2).toNat * 2)) = some (.slice A123_0 ((rd_T49 t104 x9_2).f0).length c123_0) ∧ w'.cell? ⟨(ad123.add ((x9_2).toNat * 2)).block, (ad123.add ((x9_2).toNat * 2)).off + 1, none⟩ = some (.slice A123_1 ((rd_T49 t104 x9_2).f1).length c123_1)) (ds := []) #[false, false, false, false, false, false, false, false, false, false, false, false, false, false] (by kernel_rfl) rfl rfl ⟨(blk_cell BK101.out 0).trans rfl, (blk_cell BK101.out 1).trans rfl, (blk_cell BK101.out 2).trans rfl, (blk_cell BK101.out 3).trans rfl, (blk_cell BK101.out 4).trans rfl, (blk_cell BK114.out 0).trans rfl, (blk_cell BK114.out 1).trans rfl, (blk_cell BK114.out 2).trans rfl, (blk_cell BK114.out 3).trans rfl, (blk_cell BK114.out 4).trans rfl, ((HB.out.cell (World.block_lt_of_cell? w _ hw122_0)).trans hw122_0), ((HB.out.cell (World.block_lt_of_cell? w _ hw122_1)).trans hw122_1), hx123_0, hx123_1⟩ (fun hHeld => ?_); refine with_tabW unicodetextlaw47_GroupsElements.tab14 unicodetextlaw47_GroupsElements.bits14 (fun HT_ HW_ => ?_)
             generalize wr.drew = w53 at HO_115000 HO_115001 BK101 BK114 HB HL123_0 HL123_1 HR122_0 HR122_1 HR123_0 HR123_1 hx122_0 hx122_1 hx123_0 hx123_1 hHeld ⊢
             refine pure_ (i := 0) (N := some 79) (v := ?_) (a' := ?_) #[true, false, false, false, false, false, false, false, false, false, false, false, false, false] rfl rfl (any_of HT_.out (by kernel_rfl)) (fun _ _ _ h => h) (Or.inl ⟨by rfl, ?_⟩) ?_ ?_
             rotate_left
             ·intro w'
              go_simp
              with_reducible rfl
             rotate_left
             ·simp only [Act.put, List.setIfInBounds_toArray, List.set_cons_zero, List.set_cons_succ, i64_w, i32_w]
              rfl
             refine pure_ (i := 2) (N := some 81) (v := ?_) (a' := ?_) #[true, false, true, false, false, false, false, false, false, false, false, false, false, false] rfl rfl (any_of HT_.out (by kernel_rfl)) (fun _ _ _ h => h) (Or.inl ⟨by rfl, ?_⟩) ?_ ?_
             rotate_left
             ·intro w'
              go_simp
              with_reducible rfl
             rotate_left
             ·simp only [Act.put, List.setIfInBounds_toArray, List.set_cons_zero, List.set_cons_succ, i64_w, i32_w]
              rfl
             refine pure_ (i := 6) (N := some 85) (v := ?_) (a' := ?_) #[true, false, true, false, false, false, true, false, false, false, false, false, false, false] rfl rfl (any_of HT_.out (by kernel_rfl)) (fun _ _ _ h => h) (Or.inl ⟨by rfl, ?_⟩) ?_ ?_
             rotate_left
             ·intro w'
              go_simp
              with_reducible rfl
             rotate_left
             ·simp only [Act.put, List.setIfInBounds_toArray, List.set_cons_zero, List.set_cons_succ, i64_w, i32_w]
              rfl
             refine pure_ (i := 8) (N := some 87) (v := ?_) (a' := ?_) #[true, false, true, false, false, false, true, false, true, false, false, false, false, false] rfl rfl (any_of HT_.out (by kernel_rfl)) (fun _ _ _ h => h) (Or.inl ⟨by rfl, ?_⟩) ?_ ?_
             rotate_left
             ·intro w'
              go_simp
              with_reducible rfl
             rotate_left
             ·simp only [Act.put, List.setIfInBounds_toArray, List.set_cons_zero, List.set_cons_succ, i64_w, i32_w]
              rfl
             refine take_ (i := 1) (N := some 80) (v := ?_) (a' := ?_) #[true, true, true, false, false, false, true, false, true, false, false, false, false, false] rfl rfl (take_ofW HT_.out HW_.out (by kernel_rfl)) (fun _ _ _ h => h) (Or.inl ⟨by rfl, ?_⟩) hHeld ?_ ?_
             rotate_left
             ·rintro w' ⟨s0, s1, s2, s3, s4, s5, s6, s7, s8, s9, s10, s11, s12, s13⟩
              go_simp
              with_reducible rfl
             rotate_left
             ·simp only [Act.put, List.setIfInBounds_toArray, List.set_cons_zero, List.set_cons_succ, i64_w, i32_w]
              rfl
             refine pure_ (i := 3) (N := some 82) (v := ?_) (a' := ?_) #[true, true, true, true, false, false, true, false, true, false, false, false, false, false] rfl rfl (any_of HT_.out (by kernel_rfl)) (fun _ _ _ h => h) (Or.inl ⟨by rfl, ?_⟩) ?_ ?_
             rotate_left
             ·intro w'
              go_simp
              with_reducible rfl
             rotate_left
             ·simp only [Act.put, List.setIfInBounds_toArray, List.set_cons_zero, List.set_cons_succ, i64_w, i32_w]
              rfl
             refine pure_ (i := 4) (N := some 83) (v := ?_) (a' := ?_) #[true, true, true, true, true, false, true, false, true, false, false, false, false, false] rfl rfl (any_of HT_.out (by kernel_rfl)) (fun _ _ _ h => h) (Or.inl ⟨by rfl, ?_⟩) ?_ ?_
             rotate_left
             ·intro w'
              go_simp
              with_reducible rfl
             rotate_left
             ·simp only [Act.put, List.setIfInBounds_toArray, List.set_cons_zero, List.set_cons_succ, i64_w, i32_w]
              rfl
             refine take_ (i := 5) (N := some 84) (v := ?_) (a' := ?_) #[true, true, true, true, true, true, true, false, true, false, false, false, false, false] rfl rfl (take_ofW HT_.out HW_.out (by kernel_rfl)) (fun _ _ _ h => h) (Or.inl ⟨by rfl, ?_⟩) hHeld ?_ ?_
             rotate_left
             ·rintro w' ⟨s0, s1, s2, s3, s4, s5, s6, s7, s8, s9, s10, s11, s12, s13⟩
              go_simp
              with_reducible rfl
             rotate_left
             ·simp only [Act.put, List.setIfInBounds_toArray, List.set_cons_zero, List.set_cons_succ, i64_w, i32_w]
              rfl
             refine pure_ (i := 12) (N := some 10) (v := ?_) (a' := ?_) #[true, true, true, true, true, true, true, false, true, false, false, false, true, false] rfl rfl (any_of HT_.out (by kernel_rfl)) (fun _ _ _ h => h) (Or.inl ⟨by rfl, ?_⟩) ?_ ?_
             rotate_left
             ·intro w'
              go_simp
              with_reducible rfl
             rotate_left
             ·simp only [Act.put, List.setIfInBounds_toArray, List.set_cons_zero, List.set_cons_succ, i64_w, i32_w]
              rfl
             refine take_ (i := 7) (N := some 86) (v := ?_) (a' := ?_) #[true, true, true, true, true, true, true, true, true, false, false, false, true, false] rfl rfl (take_ofW HT_.out HW_.out (by kernel_rfl)) (fun _ _ _ h => h) (Or.inl ⟨by rfl, ?_⟩) hHeld ?_ ?_
             rotate_left
             ·rintro w' ⟨s0, s1, s2, s3, s4, s5, s6, s7, s8, s9, s10, s11, s12, s13⟩
              go_simp
              with_reducible rfl
             rotate_left
             ·simp only [Act.put, List.setIfInBounds_toArray, List.set_cons_zero, List.set_cons_succ, i64_w, i32_w]
              rfl
             refine pure_ (i := 9) (N := some 88) (v := ?_) (a' := ?_) #[true, true, true, true, true, true, true, true, true, true, false, false, true, false] rfl rfl (any_of HT_.out (by kernel_rfl)) (fun _ _ _ h => h) (Or.inl ⟨by rfl, ?_⟩) ?_ ?_
             rotate_left
             ·intro w'
              go_simp
              with_reducible rfl
             rotate_left
             ·simp only [Act.put, List.setIfInBounds_toArray, List.set_cons_zero, List.set_cons_succ, i64_w, i32_w]
              rfl
             refine pure_ (i := 10) (N := some 89) (v := ?_) (a' := ?_) #[true, true, true, true, true, true, true, true, true, true, true, false, true, false] rfl rfl (any_of HT_.out (by kernel_rfl)) (fun _ _ _ h => h) (Or.inl ⟨by rfl, ?_⟩) ?_ ?_
             rotate_left
             ·intro w'
              go_simp
              with_reducible rfl
             rotate_left
             ·simp only [Act.put, List.setIfInBounds_toArray, List.set_cons_zero, List.set_cons_succ, i64_w, i32_w]
              rfl
             refine take_ (i := 11) (N := some 90) (v := ?_) (a' := ?_) #[true, true, true, true, true, true, true, true, true, true, true, true, true, false] rfl rfl (take_ofW HT_.out HW_.out (by kernel_rfl)) (fun _ _ _ h => h) (Or.inl ⟨by rfl, ?_⟩) hHeld ?_ ?_
             rotate_left
             ·rintro w' ⟨s0, s1, s2, s3, s4, s5, s6, s7, s8, s9, s10, s11, s12, s13⟩
              go_simp
              with_reducible rfl
             rotate_left
             ·simp only [Act.put, List.setIfInBounds_toArray, List.set_cons_zero, List.set_cons_succ, i64_w, i32_w]
              rfl
             refine pure_ (i := 13) (N := some 11) (v := ?_) (a' := ?_) #[true, true, true, true, true, true, true, true, true, true, true, true, true, true] rfl rfl (any_of HT_.out (by kernel_rfl)) (fun _ _ _ h => h) (Or.inl ⟨by rfl, ?_⟩) ?_ ?_
             rotate_left
             ·intro w'
              go_simp
              with_reducible rfl
             rotate_left
             ·simp only [Act.put, List.setIfInBounds_toArray, List.set_cons_zero, List.set_cons_succ, i64_w, i32_w]
              rfl
             refine done_ (done_of HT_.out (by kernel_rfl)) ?_
             try go_wp2
             go_loopg [12] k2 (fun kq v12 w' => ∃ (x12_3 : Int), v12 = .int .i64 x12_3 ∧ Aside0 (unicodetextlaw47_GroupsElements.l1 kq l1 x9_2 ((rd_T49 l0_0 x9_2).f1) ((rd_T49 t104 x9_2).f1) x12_3 l0_0 l0_1 a0_2 a0_3 a0_4 t104 t107 t110 t111 t112 = some r) ∧ Aside0 (kq ≤ k2) ∧ Aside0 (Kd.S k49 49 w' w.heap.size (fun _ => True) (.slice (some ad123) t104.length co16) t104) ∧ Aside0 (Kd.R k36 36 w' w.heap.size (fun _ => True) (.slice Ao19 t107.length co19) t107) ∧ Aside0 (w'.heap[gb101]? = some (.cells #[(.slice (some ad122) l0_0.length c0_0), (.slice A0_1 l0_1.length c0_1), .int .i64 a0_2, .int .i64 a0_3, .int .i64 a0_4] 25 (0, 0))) ∧ Aside0 (w'.heap[gb114]? = some (.cells #[(.slice (some ad123) t104.length co16), (.slice Ao19 t107.length co19), .int .i64 t110, .int .i64 t111, .int .i64 t112] 25 (0, 0))) ∧ Aside0 (Below w.heap.size w w') ∧ Aside0 (Below w53.heap.size w53 w'))
             case atStart => exact ⟨(0), (by first | rfl | (simp; done) | (simp [*]; done)), H', ⟨Nat.le_refl _⟩, ⟨by (with_reducible repeat (first | apply Kd.S_alloc | apply Kd.S_drewN | apply Kd.S_drew)); exact HO_115000.out⟩, ⟨by (with_reducible repeat (first | apply Kd.R_alloc | apply Kd.R_drewN | apply Kd.R_drew)); exact HO_115001.out⟩, ⟨by (with_reducible repeat (first | refine blk_drewN ?_ _ | refine blk_drew ?_ | refine blk_alloc ?_ _)); exact BK101.out⟩, ⟨by (with_reducible repeat (first | refine blk_drewN ?_ _ | refine blk_drew ?_ | refine blk_alloc ?_ _)); exact BK114.out⟩, ⟨by repeat (first | (with_reducible first | exact HB.out | apply below_alloc | apply pw_below_drewN | apply below_drew1 | refine below_set ?_ GE101.out | refine below_set ?_ GE114.out) | exact HB.out)⟩, ⟨by repeat (first | exact Below.refl _ _ | apply below_alloc | apply pw_below_drewN | apply below_drew1)⟩⟩
             case round =>
              clear H'
              try clear c1
              try clear p1
              try clear q1
              try clear hx1
              try clear c2
              try clear p2
              try clear c3
              try clear c4
              try clear c5
              try clear c7
              try clear c7b0
              try clear c7b1
              try clear c8
              try clear c8b0
              try clear c8b1
              try clear c9
              try clear c10
              try clear c12
              try clear p12
              try clear q12
              try clear hx12
              try clear c17
              try clear c18
              try clear c22
              try clear c22b0
              try clear c22b1
              try clear c22b2
              try clear c24
              try clear c25
              try clear c25b0
              try clear c25b1
              try clear c26
              try clear c26b0
              try clear c26b1
              try clear c27
              try clear c31
              try clear c35
              try clear c39
              try clear c43
              try clear c46
              try clear c47
              try clear c47b0
              try clear c48
              try clear c48b0
              try clear c49
              try clear c49b0
              try clear c50
              try clear c50b0
              try clear c50b1
              try clear c50b2
              try clear c51
              try clear hcz11_0
              try clear hcz11_1
              try clear hcz11_2
              try clear hcz11_3
              try clear hcz11_4
              try clear hcz13_0
              try clear hcz13_1
              try clear hcz13_2
              try clear hcz13_3
              try clear hcz13_4
              try clear hcz18_0
              try clear hcz18_1
              try clear hcz18_2
              try clear hcz18_3
              try clear hcz18_4
              try clear hcz20_0
              try clear hcz20_1
              try clear hcz20_2
              try clear hcz20_3
              try clear hcz20_4
              try clear hcz28_0
              try clear hcz28_1
              try clear hcz28_2
              try clear hcz28_3
              try clear hcz28_4
              try clear hcz29_0
              try clear hcz29_1
              try clear hcz29_2
              try clear hcz29_3
              try clear hcz29_4
              try clear hcz32_0
              try clear hcz32_1
              try clear hcz32_2
              try clear hcz32_3
              try clear hcz32_4
              try clear hcz33_0
              try clear hcz33_1
              try clear hcz33_2
              try clear hcz33_3
              try clear hcz33_4
              try clear hcz36_0
              try clear hcz36_1
              try clear hcz36_2
              try clear hcz36_3
              try clear hcz36_4
              try clear hcz37_0
              try clear hcz37_1
              try clear hcz37_2
              try clear hcz37_3
              try clear hcz37_4
              try clear hcz40_0
              try clear hcz40_1
              try clear hcz40_2
              try clear hcz40_3
              try clear hcz40_4
              try clear hcz41_0
              try clear hcz41_1
              try clear hcz41_2
              try clear hcz41_3
              try clear hcz41_4
              try clear hcz44_0
              try clear hcz44_1
              try clear hcz44_2
              try clear hcz44_3
              try clear hcz44_4
              try clear hcz45_0
              try clear hcz45_1
              try clear hcz45_2
              try clear hcz45_3
              try clear hcz45_4
              try clear hcz52_0
              try clear hcz52_1
              try clear hcz52_2
              try clear hcz52_3
              try clear hcz52_4
              try clear hfz11_0
              try clear hfz11_1
              try clear hfz11_2
              try clear hfz11_3
              try clear hfz11_4
              try clear hfz13_0
              try clear hfz13_1
              try clear hfz13_2
              try clear hfz13_3
              try clear hfz13_4
              try clear hfz18_0
              try clear hfz18_1
              try clear hfz18_2
              try clear hfz18_3
              try clear hfz18_4
              try clear hfz20_0
              try clear hfz20_1
              try clear hfz20_2
              try clear hfz20_3
              try clear hfz20_4
              try clear hfz28_0
              try clear hfz28_1
              try clear hfz28_2
              try clear hfz28_3
              try clear hfz28_4
              try clear hfz29_0
              try clear hfz29_1
              try clear hfz29_2
              try clear hfz29_3
              try clear hfz29_4
              try clear hfz32_0
              try clear hfz32_1
              try clear hfz32_2
              try clear hfz32_3
              try clear hfz32_4
              try clear hfz33_0
              try clear hfz33_1
              try clear hfz33_2
              try clear hfz33_3
              try clear hfz33_4
              try clear hfz36_0
              try clear hfz36_1
              try clear hfz36_2
              try clear hfz36_3
              try clear hfz36_4
              try clear hfz37_0
              try clear hfz37_1
              try clear hfz37_2
              try clear hfz37_3
              try clear hfz37_4
              try clear hfz40_0
              try clear hfz40_1
              try clear hfz40_2
              try clear hfz40_3
              try clear hfz40_4
              try clear hfz41_0
              try clear hfz41_1
              try clear hfz41_2
              try clear hfz41_3
              try clear hfz41_4
              try clear hfz44_0
              try clear hfz44_1
              try clear hfz44_2
              try clear hfz44_3
              try clear hfz44_4
              try clear hfz45_0
              try clear hfz45_1
              try clear hfz45_2
              try clear hfz45_3
              try clear hfz45_4
              try clear hfz52_0
              try clear hfz52_1
              try clear hfz52_2
              try clear hfz52_3
              try clear hfz52_4
              try clear hx122_0
              try clear hx122_1
              try clear hx123_0
              try clear hx123_1
              try clear p122
              try clear p123
              try clear p2
              try clear q122
              try clear q123
              obtain ⟨x12_3, rfl, HA, HK3, HO_115000, HO_115001, BK101, BK114, HB, HV⟩ := hrel
              cases gk with
              | zero => exact absurd HA.out (by simp [unicodetextlaw47_GroupsElements.l1])
              | succ k3 =>
               have H := HA.out
               clear HA
               simp only [unicodetextlaw47_GroupsElements.l1] at H
               by_cases c54 : x12_3 < (((rd_T49 l0_0 x9_2).f1).length : Int)
               ·rw [if_pos c54] at H
                have c54b0 : decide (x12_3 < (((rd_T49 l0_0 x9_2).f1).length : Int)) = true := decide_eq_true c54
                clear c54
                by_cases c55 : 0 ≤ x12_3
                ·rw [if_pos c55] at H
                 have c55b0 : decide (0 ≤ x12_3) = true := decide_eq_true c55
                 clear c55
                 replace H := Option.bind_eq_some_iff.mp H
                 obtain ⟨t127, A560, H⟩ := H
                 replace H : (if x12_3 < (((rd_T49 t104 x9_2).f1).length : Int) then (if (!(((rd_T51 ((rd_T49 t104 x9_2).f1) x12_3).f0) == t127) || (!(((rd_T51 ((rd_T49 t104 x9_2).f1) x12_3).f1) == ((rd_T51 ((rd_T49 l0_0 x9_2).f1) x12_3).f1)) || (!(((rd_T51 ((rd_T49 t104 x9_2).f1) x12_3).f2) == ((rd_T51 ((rd_T49 l0_0 x9_2).f1) x12_3).f2)) || (!(((rd_T51 ((rd_T49 t104 x9_2).f1) x12_3).f3) == ((rd_T51 ((rd_T49 l0_0 x9_2).f1) x12_3).f3)))))) = true then (none) else (unicodetextlaw47_GroupsElements.l1 k3 l1 x9_2 ((rd_T49 l0_0 x9_2).f1) ((rd_T49 t104 x9_2).f1) (wrap64 (x12_3 + 1)) l0_0 l0_1 a0_2 a0_3 a0_4 t104 t107 t110 t111 t112)) else (none)) = some r := H
                 have A56 := Aside0.mk A560
                 clear A560
                 by_cases c57 : x12_3 < (((rd_T49 t104 x9_2).f1).length : Int)
                 ·rw [if_pos c57] at H
                  have c57b0 : decide (x12_3 < (((rd_T49 t104 x9_2).f1).length : Int)) = true := decide_eq_true c57
                  clear c57
                  by_cases c58 : (!(((rd_T51 ((rd_T49 t104 x9_2).f1) x12_3).f0) == t127) || (!(((rd_T51 ((rd_T49 t104 x9_2).f1) x12_3).f1) == ((rd_T51 ((rd_T49 l0_0 x9_2).f1) x12_3).f1)) || (!(((rd_T51 ((rd_T49 t104 x9_2).f1) x12_3).f2) == ((rd_T51 ((rd_T49 l0_0 x9_2).f1) x12_3).f2)) || (!(((rd_T51 ((rd_T49 t104 x9_2).f1) x12_3).f3) == ((rd_T51 ((rd_T49 l0_0 x9_2).f1) x12_3).f3)))))) = true
                  ·rw [if_pos c58] at H
                   exact absurd H (by simp)
                  ·rw [if_neg c58] at H
                   have c58b0 : (!(((rd_T51 ((rd_T49 t104 x9_2).f1) x12_3).f0) == t127) || (!(((rd_T51 ((rd_T49 t104 x9_2).f1) x12_3).f1) == ((rd_T51 ((rd_T49 l0_0 x9_2).f1) x12_3).f1)) || (!(((rd_T51 ((rd_T49 t104 x9_2).f1) x12_3).f2) == ((rd_T51 ((rd_T49 l0_0 x9_2).f1) x12_3).f2)) || (!(((rd_T51 ((rd_T49 t104 x9_2).f1) x12_3).f3) == ((rd_T51 ((rd_T49 l0_0 x9_2).f1) x12_3).f3)))))) = false := by simpa using c58
                   clear c58
                   have H' := Aside0.mk H
                   clear H
                   have p124 : 0 ≤ (x12_3 : Int) := of_decide_eq_true (by first | (with_reducible assumption) | assumption)
                   have q124 : x12_3 < (((rd_T49 l0_0 x9_2).f1).length : Int) := of_decide_eq_true (by first | (with_reducible assumption) | assumption)
                   obtain ⟨ad124, e124, hx124_0, hx124_1, hx124_2, hx124_3⟩ := at_T51 HR122_1.out x12_3 p124 q124
                   cases e124
                   replace hx124_0 := (HB.out.cell (World.block_lt_of_cell? w _ hx124_0)).trans hx124_0
                   replace hx124_1 := (HB.out.cell (World.block_lt_of_cell? w _ hx124_1)).trans hx124_1
                   replace hx124_2 := (HB.out.cell (World.block_lt_of_cell? w _ hx124_2)).trans hx124_2
                   replace hx124_3 := (HB.out.cell (World.block_lt_of_cell? w _ hx124_3)).trans hx124_3
                   replace p124 := eq_true p124
                   replace q124 := eq_true q124
                   try go_wp2_with (first | ((with_reducible refine gate_dst (N := 13) rfl ?_); refine box_event ?hg (N := 13) ?hd (cs := #[.int .i64 0, .int .i64 0, .int .i64 0, .bool false]) (t := 51) ?hr ?_; (case hd => rfl); (case hg => rfl); (case hr => first | (go_simp; done) | (go_simp; rfl)); intro gb125 hg w69 hbox hb; have v_ := Aside0.mk (below_step (by repeat (first | exact HV.out | apply pw_below_drewN | apply below_drew1)) hb); have GV := Aside0.mk ((by rw [hg]; exact below_size (by repeat (first | exact HV.out | apply pw_below_drewN | apply below_drew1))) : w53.heap.size ≤ gb125); clear HV; have HV := v_; clear v_; have n0_ := Aside0.mk (Kd.S_below (Kd.S_elderB (by (with_reducible repeat (first | apply Kd.S_alloc | apply Kd.S_drewN | apply Kd.S_drew)); exact HO_115000.out) gb125 (Nat.le_of_eq hg.symm)) hb); have n1_ := Aside0.mk (Kd.R_below (by (with_reducible repeat (first | apply Kd.R_alloc | apply Kd.R_drewN | apply Kd.R_drew)); exact HO_115001.out) hb); have n2_ := Aside0.mk (blk_below (g := gb101) (o := .cells #[.slice (some ad122) l0_0.length c0_0, .slice A0_1 l0_1.length c0_1, .int .i64 a0_2, .int .i64 a0_3, .int .i64 a0_4] 25 (0, 0)) (by (with_reducible repeat (first | refine blk_drewN ?_ _ | refine blk_drew ?_ | refine blk_alloc ?_ _)); exact BK101.out) hb); have n3_ := Aside0.mk (blk_below (g := gb114) (o := .cells #[.slice (some ad123) t104.length co16, .slice Ao19 t107.length co19, .int .i64 t110, .int .i64 t111, .int .i64 t112] 25 (0, 0)) (by (with_reducible repeat (first | refine blk_drewN ?_ _ | refine blk_drew ?_ | refine blk_alloc ?_ _)); exact BK114.out) hb); have n4_ := Aside0.mk (below_step (by repeat (first | (with_reducible first | exact HB.out | apply below_alloc | apply pw_below_drewN | apply below_drew1 | refine below_set ?_ GE101.out | refine below_set ?_ GE114.out) | exact HB.out)) hb); have n5_ := Aside0.mk (hbox); have n6_ := Aside0.mk ((by rw [hg]; exact (below_size (by repeat (first | (with_reducible first | exact HB.out | apply below_alloc | apply pw_below_drewN | apply below_drew1 | refine below_set ?_ GE101.out | refine below_set ?_ GE114.out) | exact HB.out))) : w.heap.size ≤ gb125)); have n7_ := Aside0.mk ((by rw [hg]; exact (below_size (by repeat (first | (with_reducible first | exact HB.out | apply below_alloc | apply pw_below_drewN | apply below_drew1 | refine below_set ?_ GE101.out | refine below_set ?_ GE114.out) | exact HB.out))) : w.heap.size ≤ gb125)); have n8_ := Aside0.mk ((by rw [hg]; exact Nat.ne_of_lt (blk_lt (g := gb101) (o := .cells #[.slice (some ad122) l0_0.length c0_0, .slice A0_1 l0_1.length c0_1, .int .i64 a0_2, .int .i64 a0_3, .int .i64 a0_4] 25 (0, 0)) (by (with_reducible repeat (first | refine blk_drewN ?_ _ | refine blk_drew ?_ | refine blk_alloc ?_ _)); exact BK101.out)) : gb101 ≠ gb125)); have n9_ := Aside0.mk ((by rw [hg]; exact Nat.ne_of_gt (blk_lt (g := gb101) (o := .cells #[.slice (some ad122) l0_0.length c0_0, .slice A0_1 l0_1.length c0_1, .int .i64 a0_2, .int .i64 a0_3, .int .i64 a0_4] 25 (0, 0)) (by (with_reducible repeat (first | refine blk_drewN ?_ _ | refine blk_drew ?_ | refine blk_alloc ?_ _)); exact BK101.out)) : gb125 ≠ gb101)); have n10_ := Aside0.mk ((by rw [hg]; exact Nat.ne_of_lt (blk_lt (g := gb114) (o := .cells #[.slice (some ad123) t104.length co16, .slice Ao19 t107.length co19, .int .i64 t110, .int .i64 t111, .int .i64 t112] 25 (0, 0)) (by (with_reducible repeat (first | refine blk_drewN ?_ _ | refine blk_drew ?_ | refine blk_alloc ?_ _)); exact BK114.out)) : gb114 ≠ gb125)); have n11_ := Aside0.mk ((by rw [hg]; exact Nat.ne_of_gt (blk_lt (g := gb114) (o := .cells #[.slice (some ad123) t104.length co16, .slice Ao19 t107.length co19, .int .i64 t110, .int .i64 t111, .int .i64 t112] 25 (0, 0)) (by (with_reducible repeat (first | refine blk_drewN ?_ _ | refine blk_drew ?_ | refine blk_alloc ?_ _)); exact BK114.out)) : gb125 ≠ gb114)); clear HO_115000; clear HO_115001; clear BK101; clear BK114; clear HB; have HO_115000 := n0_; have HO_115001 := n1_; have BK101 := n2_; have BK114 := n3_; have HB := n4_; have BK125 := n5_; have GW125 := n6_; have GE125 := n7_; have NB101_125 := n8_; have NB125_101 := n9_; have NB114_125 := n10_; have NB125_114 := n11_; clear n0_ n1_ n2_ n3_ n4_ n5_ n6_ n7_ n8_ n9_ n10_ n11_; clear hb hbox hg; have hnb70 := NB125_101.out; have hnc70 := NB101_125.out; have hnb71 := NB125_114.out; have hnc71 := NB114_125.out; have hcz72_0 : w69.cell? ⟨gb125, 0, none⟩ = some (.int .i64 0) := (blk_cell BK125.out 0).trans rfl; have hcz72_1 : w69.cell? ⟨gb125, 1, none⟩ = some (.int .i64 0) := (blk_cell BK125.out 1).trans rfl; have hcz72_2 : w69.cell? ⟨gb125, 2, none⟩ = some (.int .i64 0) := (blk_cell BK125.out 2).trans rfl; have hcz72_3 : w69.cell? ⟨gb125, 3, none⟩ = some (.bool false) := (blk_cell BK125.out 3).trans rfl; have hfz72_0 := blk_frozen BK125.out 0; have hfz72_1 := blk_frozen BK125.out 1; have hfz72_2 := blk_frozen BK125.out 2; have hfz72_3 := blk_frozen BK125.out 3))
                   have n0_ : Aside0 (Kd.S k49 49 ((((w69.setCell ⟨gb125, 0, none⟩ (.int .i64 ((rd_T51 ((rd_T49 l0_0 x9_2).f1) x12_3).f0))).setCell ⟨gb125, 1, none⟩ (.int .i64 ((rd_T51 ((rd_T49 l0_0 x9_2).f1) x12_3).f1))).setCell ⟨gb125, 2, none⟩ (.int .i64 ((rd_T51 ((rd_T49 l0_0 x9_2).f1) x12_3).f2))).setCell ⟨gb125, 3, none⟩ (.bool ((rd_T51 ((rd_T49 l0_0 x9_2).f1) x12_3).f3))) w.heap.size (fun k_ => k_ ≠ gb125) (.slice (some ad123) t104.length co16) t104) := ⟨by (with_reducible repeat (first | apply Kd.S_alloc | apply Kd.S_drewN | apply Kd.S_drew)); exact Kd.S_mono (Kd.S_far (p := ⟨gb125, 3, none⟩) (Kd.S_far (p := ⟨gb125, 2, none⟩) (Kd.S_far (p := ⟨gb125, 1, none⟩) (Kd.S_far (p := ⟨gb125, 0, none⟩) (Kd.S_mono HO_115000.out (fun k_ hk => (⟨hk, hk.2⟩ : _ ∧ k_ ≠ gb125))) (fun _ hk => hk.2) (.int .i64 ((rd_T51 ((rd_T49 l0_0 x9_2).f1) x12_3).f0))) (fun _ hk => hk.2) (.int .i64 ((rd_T51 ((rd_T49 l0_0 x9_2).f1) x12_3).f1))) (fun _ hk => hk.2) (.int .i64 ((rd_T51 ((rd_T49 l0_0 x9_2).f1) x12_3).f2))) (fun _ hk => hk.2) (.bool ((rd_T51 ((rd_T49 l0_0 x9_2).f1) x12_3).f3))) (fun _ hk => hk.1.2)⟩
                   have n1_ : Aside0 (Kd.R k36 36 ((((w69.setCell ⟨gb125, 0, none⟩ (.int .i64 ((rd_T51 ((rd_T49 l0_0 x9_2).f1) x12_3).f0))).setCell ⟨gb125, 1, none⟩ (.int .i64 ((rd_T51 ((rd_T49 l0_0 x9_2).f1) x12_3).f1))).setCell ⟨gb125, 2, none⟩ (.int .i64 ((rd_T51 ((rd_T49 l0_0 x9_2).f1) x12_3).f2))).setCell ⟨gb125, 3, none⟩ (.bool ((rd_T51 ((rd_T49 l0_0 x9_2).f1) x12_3).f3))) w.heap.size (fun _ => True) (.slice Ao19 t107.length co19) t107) := ⟨by (with_reducible repeat (first | apply Kd.R_alloc | apply Kd.R_drewN | apply Kd.R_drew)); exact Kd.R_mono (Kd.R_far (p := ⟨gb125, 3, none⟩) (Kd.R_far (p := ⟨gb125, 2, none⟩) (Kd.R_far (p := ⟨gb125, 1, none⟩) (Kd.R_far (p := ⟨gb125, 0, none⟩) (Kd.R_types HO_115001.out BK125.out (by decide)) (fun _ hk => hk.2) (.int .i64 ((rd_T51 ((rd_T49 l0_0 x9_2).f1) x12_3).f0))) (fun _ hk => hk.2) (.int .i64 ((rd_T51 ((rd_T49 l0_0 x9_2).f1) x12_3).f1))) (fun _ hk => hk.2) (.int .i64 ((rd_T51 ((rd_T49 l0_0 x9_2).f1) x12_3).f2))) (fun _ hk => hk.2) (.bool ((rd_T51 ((rd_T49 l0_0 x9_2).f1) x12_3).f3))) (fun _ hk => trivial)⟩
                   have n2_ : Aside0 (((((w69.setCell ⟨gb125, 0, none⟩ (.int .i64 ((rd_T51 ((rd_T49 l0_0 x9_2).f1) x12_3).f0))).setCell ⟨gb125, 1, none⟩ (.int .i64 ((rd_T51 ((rd_T49 l0_0 x9_2).f1) x12_3).f1))).setCell ⟨gb125, 2, none⟩ (.int .i64 ((rd_T51 ((rd_T49 l0_0 x9_2).f1) x12_3).f2))).setCell ⟨gb125, 3, none⟩ (.bool ((rd_T51 ((rd_T49 l0_0 x9_2).f1) x12_3).f3))).heap[gb101]? = some (.cells #[.slice (some ad122) l0_0.length c0_0, .slice A0_1 l0_1.length c0_1, .int .i64 a0_2, .int .i64 a0_3, .int .i64 a0_4] 25 (0, 0))) := ⟨by (with_reducible repeat (first | refine blk_drewN ?_ _ | refine blk_drew ?_ | refine blk_alloc ?_ _)); refine blk_far ?_ NB101_125.out _; (with_reducible repeat (first | refine blk_drewN ?_ _ | refine blk_drew ?_ | refine blk_alloc ?_ _)); refine blk_far ?_ NB101_125.out _; (with_reducible repeat (first | refine blk_drewN ?_ _ | refine blk_drew ?_ | refine blk_alloc ?_ _)); refine blk_far ?_ NB101_125.out _; (with_reducible repeat (first | refine blk_drewN ?_ _ | refine blk_drew ?_ | refine blk_alloc ?_ _)); refine blk_far ?_ NB101_125.out _; (with_reducible repeat (first | refine blk_drewN ?_ _ | refine blk_drew ?_ | refine blk_alloc ?_ _)); exact BK101.out⟩
                   have n3_ : Aside0 (((((w69.setCell ⟨gb125, 0, none⟩ (.int .i64 ((rd_T51 ((rd_T49 l0_0 x9_2).f1) x12_3).f0))).setCell ⟨gb125, 1, none⟩ (.int .i64 ((rd_T51 ((rd_T49 l0_0 x9_2).f1) x12_3).f1))).setCell ⟨gb125, 2, none⟩ (.int .i64 ((rd_T51 ((rd_T49 l0_0 x9_2).f1) x12_3).f2))).setCell ⟨gb125, 3, none⟩ (.bool ((rd_T51 ((rd_T49 l0_0 x9_2).f1) x12_3).f3))).heap[gb114]? = some (.cells #[.slice (some ad123) t104.length co16, .slice Ao19 t107.length co19, .int .i64 t110, .int .i64 t111, .int .i64 t112] 25 (0, 0))) := ⟨by (with_reducible repeat (first | refine blk_drewN ?_ _ | refine blk_drew ?_ | refine blk_alloc ?_ _)); refine blk_far ?_ NB114_125.out _; (with_reducible repeat (first | refine blk_drewN ?_ _ | refine blk_drew ?_ | refine blk_alloc ?_ _)); refine blk_far ?_ NB114_125.out _; (with_reducible repeat (first | refine blk_drewN ?_ _ | refine blk_drew ?_ | refine blk_alloc ?_ _)); refine blk_far ?_ NB114_125.out _; (with_reducible repeat (first | refine blk_drewN ?_ _ | refine blk_drew ?_ | refine blk_alloc ?_ _)); refine blk_far ?_ NB114_125.out _; (with_reducible repeat (first | refine blk_drewN ?_ _ | refine blk_drew ?_ | refine blk_alloc ?_ _)); exact BK114.out⟩
                   have n4_ : Aside0 (((((w69.setCell ⟨gb125, 0, none⟩ (.int .i64 ((rd_T51 ((rd_T49 l0_0 x9_2).f1) x12_3).f0))).setCell ⟨gb125, 1, none⟩ (.int .i64 ((rd_T51 ((rd_T49 l0_0 x9_2).f1) x12_3).f1))).setCell ⟨gb125, 2, none⟩ (.int .i64 ((rd_T51 ((rd_T49 l0_0 x9_2).f1) x12_3).f2))).setCell ⟨gb125, 3, none⟩ (.bool ((rd_T51 ((rd_T49 l0_0 x9_2).f1) x12_3).f3))).heap[gb125]? = some (.cells #[.int .i64 ((rd_T51 ((rd_T49 l0_0 x9_2).f1) x12_3).f0), .int .i64 ((rd_T51 ((rd_T49 l0_0 x9_2).f1) x12_3).f1), .int .i64 ((rd_T51 ((rd_T49 l0_0 x9_2).f1) x12_3).f2), .bool ((rd_T51 ((rd_T49 l0_0 x9_2).f1) x12_3).f3)] 51 (0, 0))) := ⟨by (with_reducible repeat (first | refine blk_drewN ?_ _ | refine blk_drew ?_ | refine blk_alloc ?_ _)); refine blk_put (cs := #[.int .i64 ((rd_T51 ((rd_T49 l0_0 x9_2).f1) x12_3).f0), .int .i64 ((rd_T51 ((rd_T49 l0_0 x9_2).f1) x12_3).f1), .int .i64 ((rd_T51 ((rd_T49 l0_0 x9_2).f1) x12_3).f2), .bool false]) ?_ 3 _ rfl; (with_reducible repeat (first | refine blk_drewN ?_ _ | refine blk_drew ?_ | refine blk_alloc ?_ _)); refine blk_put (cs := #[.int .i64 ((rd_T51 ((rd_T49 l0_0 x9_2).f1) x12_3).f0), .int .i64 ((rd_T51 ((rd_T49 l0_0 x9_2).f1) x12_3).f1), .int .i64 0, .bool false]) ?_ 2 _ rfl; (with_reducible repeat (first | refine blk_drewN ?_ _ | refine blk_drew ?_ | refine blk_alloc ?_ _)); refine blk_put (cs := #[.int .i64 ((rd_T51 ((rd_T49 l0_0 x9_2).f1) x12_3).f0), .int .i64 0, .int .i64 0, .bool false]) ?_ 1 _ rfl; (with_reducible repeat (first | refine blk_drewN ?_ _ | refine blk_drew ?_ | refine blk_alloc ?_ _)); refine blk_put (cs := #[.int .i64 0, .int .i64 0, .int .i64 0, .bool false]) ?_ 0 _ rfl; (with_reducible repeat (first | refine blk_drewN ?_ _ | refine blk_drew ?_ | refine blk_alloc ?_ _)); exact BK125.out⟩
                   have n5_ : Aside0 (Below w.heap.size w ((((w69.setCell ⟨gb125, 0, none⟩ (.int .i64 ((rd_T51 ((rd_T49 l0_0 x9_2).f1) x12_3).f0))).setCell ⟨gb125, 1, none⟩ (.int .i64 ((rd_T51 ((rd_T49 l0_0 x9_2).f1) x12_3).f1))).setCell ⟨gb125, 2, none⟩ (.int .i64 ((rd_T51 ((rd_T49 l0_0 x9_2).f1) x12_3).f2))).setCell ⟨gb125, 3, none⟩ (.bool ((rd_T51 ((rd_T49 l0_0 x9_2).f1) x12_3).f3)))) := ⟨by repeat (first | (with_reducible first | exact HB.out | apply below_alloc | apply pw_below_drewN | apply below_drew1 | refine below_set ?_ GE101.out | refine below_set ?_ GE114.out | refine below_set ?_ GE125.out) | exact HB.out)⟩
                   have v_ : Aside0 (Below w53.heap.size w53 ((((w69.setCell ⟨gb125, 0, none⟩ (.int .i64 ((rd_T51 ((rd_T49 l0_0 x9_2).f1) x12_3).f0))).setCell ⟨gb125, 1, none⟩ (.int .i64 ((rd_T51 ((rd_T49 l0_0 x9_2).f1) x12_3).f1))).setCell ⟨gb125, 2, none⟩ (.int .i64 ((rd_T51 ((rd_T49 l0_0 x9_2).f1) x12_3).f2))).setCell ⟨gb125, 3, none⟩ (.bool ((rd_T51 ((rd_T49 l0_0 x9_2).f1) x12_3).f3)))) := ⟨by repeat (first | exact HV.out | refine below_set ?_ GV.out)⟩
                   clear HV
                   (try clear HO_115000)
                   (try clear HO_115001)
                   (try clear BK101)
                   (try clear BK114)
                   (try clear BK125)
                   (try clear HB)
                   generalize ((((w69.setCell ⟨gb125, 0, none⟩ (.int .i64 ((rd_T51 ((rd_T49 l0_0 x9_2).f1) x12_3).f0))).setCell ⟨gb125, 1, none⟩ (.int .i64 ((rd_T51 ((rd_T49 l0_0 x9_2).f1) x12_3).f1))).setCell ⟨gb125, 2, none⟩ (.int .i64 ((rd_T51 ((rd_T49 l0_0 x9_2).f1) x12_3).f2))).setCell ⟨gb125, 3, none⟩ (.bool ((rd_T51 ((rd_T49 l0_0 x9_2).f1) x12_3).f3))) = w73 at n0_ n1_ n2_ n3_ n4_ n5_ v_ ⊢
                   have HO_115000 := n0_
                   have HO_115001 := n1_
                   have BK101 := n2_
                   have BK114 := n3_
                   have BK125 := n4_
                   have HB := n5_
                   have HV := v_
                   clear v_
                   clear n0_ n1_ n2_ n3_ n4_ n5_
                   have n0_ := Aside0.mk (Kd.S_drew HO_115000.out)
                   have n1_ := Aside0.mk (Kd.R_drew HO_115001.out)
                   have n2_ := Aside0.mk (blk_drew BK101.out)
                   have n3_ := Aside0.mk (blk_drew BK114.out)
                   have n4_ := Aside0.mk (blk_drew BK125.out)
                   have n5_ := Aside0.mk (below_drew1 HB.out)
                   have v_ := Aside0.mk (below_drew1 HV.out)
                   clear HV
                   clear HO_115000
                   clear HO_115001
                   clear BK101
                   clear BK114
                   clear BK125
                   clear HB
                   have HO_115000 := n0_
                   have HO_115001 := n1_
                   have BK101 := n2_
                   have BK114 := n3_
                   have BK125 := n4_
                   have HB := n5_
                   have HV := v_
                   clear v_
                   clear n0_ n1_ n2_ n3_ n4_ n5_
                   have p126 : 0 ≤ (x12_3 : Int) := of_decide_eq_true (by first | (with_reducible assumption) | assumption)
                   have q126 : x12_3 < (((rd_T49 l0_0 x9_2).f1).length : Int) := of_decide_eq_true (by first | (with_reducible assumption) | assumption)
                   obtain ⟨ad126, e126, hx126_0, hx126_1, hx126_2, hx126_3⟩ := at_T51 HR122_1.out x12_3 p126 q126
                   have hw126_3 := hx126_3
                   have hw126_2 := hx126_2
                   have hw126_1 := hx126_1
                   have hw126_0 := hx126_0
                   obtain rfl : ad124 = ad126 := (by injection e126)
                   replace hx126_0 := (HB.out.cell (World.block_lt_of_cell? w _ hx126_0)).trans hx126_0
                   replace hx126_1 := (HB.out.cell (World.block_lt_of_cell? w _ hx126_1)).trans hx126_1
                   replace hx126_2 := (HB.out.cell (World.block_lt_of_cell? w _ hx126_2)).trans hx126_2
                   replace hx126_3 := (HB.out.cell (World.block_lt_of_cell? w _ hx126_3)).trans hx126_3
                   replace p126 := eq_true p126
                   replace q126 := eq_true q126
                   refine start_ (n := 10) (S := fun w' => w'.cell? ⟨gb101, 0, none⟩ = some (.slice (some ad122) l0_0.length c0_0) ∧ w'.cell? ⟨gb101, 1, none⟩ = some (.slice A0_1 l0_1.length c0_1) ∧ w'.cell? ⟨gb101, 2, none⟩ = some (.int .i64 a0_2) ∧ w'.cell? ⟨gb101, 3, none⟩ = some (.int .i64 a0_3) ∧ w'.cell? ⟨gb101, 4, none⟩ = some (.int .i64 a0_4) ∧ w'.cell? (ad124.add ((x12_3).toNat * 4)) = some (.int .i64 ((rd_T51 ((rd_T49 l0_0 x9_2).f1) x12_3).f0)) ∧ w'.cell? ⟨(ad124.add ((x12_3).toNat * 4)).block, (ad124.add ((x12_3).toNat * 4)).off + 1, none⟩ = some (.int .i64 ((rd_T51 ((rd_T49 l0_0 x9_2).f1) x12_3).f1)) ∧ w'.cell? ⟨(ad124.add ((x12_3).toNat * 4)).block, (ad124.add ((x12_3).toNat * 4)).off + 2, none⟩ = some (.int .i64 ((rd_T51 ((rd_T49 l0_0 x9_2).f1) x12_3).f2)) ∧ w'.cell? ⟨(ad124.add ((x12_3).toNat * 4)).block, (ad124.add ((x12_3).toNat * 4)).off + 3, none⟩ = some (.bool ((rd_T51 ((rd_T49 l0_0 x9_2).f1) x12_3).f3))) (ds := []) #[false, false, false, false, false, false, false, false, false, false] (by kernel_rfl) rfl rfl ⟨(blk_cell BK101.out 0).trans rfl, (blk_cell BK101.out 1).trans rfl, (blk_cell BK101.out 2).trans rfl, (blk_cell BK101.out 3).trans rfl, (blk_cell BK101.out 4).trans rfl, ((HB.out.cell (World.block_lt_of_cell? w _ hw126_0)).trans hw126_0), ((HB.out.cell (World.block_lt_of_cell? w _ hw126_1)).trans hw126_1), ((HB.out.cell (World.block_lt_of_cell? w _ hw126_2)).trans hw126_2), ((HB.out.cell (World.block_lt_of_cell? w _ hw126_3)).trans hw126_3)⟩ (fun hHeld => ?_); refine with_tabW unicodetextlaw47_GroupsElements.tab21 unicodetextlaw47_GroupsElements.bits21 (fun HT_ HW_ => ?_)
                   generalize w73.drew = w74 at HO_115000 HO_115001 BK101 BK114 BK125 HB hx126_0 hx126_1 hx126_2 hx126_3 hHeld HV ⊢
                   refine pure_ (i := 1) (N := some 107) (v := ?_) (a' := ?_) #[false, true, false, false, false, false, false, false, false, false] rfl rfl (any_of HT_.out (by kernel_rfl)) (fun _ _ _ h => h) (Or.inl ⟨by rfl, ?_⟩) ?_ ?_
                   rotate_left
                   ·intro w'
                    go_simp
                    with_reducible rfl
                   rotate_left
                   ·simp only [Act.put, List.setIfInBounds_toArray, List.set_cons_zero, List.set_cons_succ, i64_w, i32_w]
                    rfl
                   refine pure_ (i := 2) (N := some 108) (v := ?_) (a' := ?_) #[false, true, true, false, false, false, false, false, false, false] rfl rfl (any_of HT_.out (by kernel_rfl)) (fun _ _ _ h => h) (Or.inl ⟨by rfl, ?_⟩) ?_ ?_
                   rotate_left
                   ·intro w'
                    go_simp
                    with_reducible rfl
                   rotate_left
                   ·simp only [Act.put, List.setIfInBounds_toArray, List.set_cons_zero, List.set_cons_succ, i64_w, i32_w]
                    rfl
                   refine pure_ (i := 3) (N := some 109) (v := ?_) (a' := ?_) #[false, true, true, true, false, false, false, false, false, false] rfl rfl (any_of HT_.out (by kernel_rfl)) (fun _ _ _ h => h) (Or.inl ⟨by rfl, ?_⟩) ?_ ?_
                   rotate_left
                   ·intro w'
                    go_simp
                    with_reducible rfl
                   rotate_left
                   ·simp only [Act.put, List.setIfInBounds_toArray, List.set_cons_zero, List.set_cons_succ, i64_w, i32_w]
                    rfl
                   refine pure_ (i := 4) (N := some 110) (v := ?_) (a' := ?_) #[false, true, true, true, true, false, false, false, false, false] rfl rfl (any_of HT_.out (by kernel_rfl)) (fun _ _ _ h => h) (Or.inl ⟨by rfl, ?_⟩) ?_ ?_
                   rotate_left
                   ·intro w'
                    go_simp
                    with_reducible rfl
                   rotate_left
                   ·simp only [Act.put, List.setIfInBounds_toArray, List.set_cons_zero, List.set_cons_succ, i64_w, i32_w]
                    rfl
                   refine pure_ (i := 5) (N := some 111) (v := ?_) (a' := ?_) #[false, true, true, true, true, true, false, false, false, false] rfl rfl (any_of HT_.out (by kernel_rfl)) (fun _ _ _ h => h) (Or.inl ⟨by rfl, ?_⟩) ?_ ?_
                   rotate_left
                   ·intro w'
                    go_simp
                    with_reducible rfl
                   rotate_left
                   ·simp only [Act.put, List.setIfInBounds_toArray, List.set_cons_zero, List.set_cons_succ, i64_w, i32_w]
                    rfl
                   refine take_ (i := 0) (N := some 106) (v := ?_) (a' := ?_) #[true, true, true, true, true, true, false, false, false, false] rfl rfl (take_ofW HT_.out HW_.out (by kernel_rfl)) (fun _ _ _ h => h) (Or.inl ⟨by rfl, ?_⟩) hHeld ?_ ?_
                   rotate_left
                   ·rintro w' ⟨s0, s1, s2, s3, s4, s5, s6, s7, s8⟩
                    go_simp
                    with_reducible rfl
                   rotate_left
                   ·simp only [Act.put, List.setIfInBounds_toArray, List.set_cons_zero, List.set_cons_succ, i64_w, i32_w]
                    rfl
                   refine take_ (i := 6) (N := some 112) (v := ?_) (a' := ?_) #[true, true, true, true, true, true, true, false, false, false] rfl rfl (take_ofW HT_.out HW_.out (by kernel_rfl)) (fun _ _ _ h => h) (Or.inl ⟨by rfl, ?_⟩) hHeld ?_ ?_
                   rotate_left
                   ·rintro w' ⟨s0, s1, s2, s3, s4, s5, s6, s7, s8⟩
                    go_simp
                    with_reducible rfl
                   rotate_left
                   ·simp only [Act.put, List.setIfInBounds_toArray, List.set_cons_zero, List.set_cons_succ, i64_w, i32_w]
                    rfl
                   refine one_ (i := 7) (N := some 113) #[true, true, true, true, true, true, true, true, false, false] rfl rfl (one_of HT_.out (by kernel_rfl)) (by decide) (fun K hK => ?_)
                   refine goes_ Try.func15 (by kernel_rfl) rfl #[.agg #[.slice (some ad122) l0_0.length c0_0, .slice A0_1 l0_1.length c0_1, .int .i64 a0_2, .int .i64 a0_3, .int .i64 a0_4], .slice A1 l1.length c1, .int .i64 ((rd_T51 ((rd_T49 l0_0 x9_2).f1) x12_3).f0)] (by rfl) rfl rfl (by (try simp only [List.map_toArray, List.map_cons, List.map_nil]); first | done | rfl | (simp only [List.length_drop, List.length_take]; rfl)) ?_
                   with_reducible refine (groups_Move.calls k3 _ _ l0_0 _ _ l0_1 a0_2 a0_3 a0_4 _ _ l1 ((rd_T51 ((rd_T49 l0_0 x9_2).f1) x12_3).f0) t127 _ ?side1 ?side2 ?side3 ?side4 ?side5 ?side6 A56.out).mono ?_
                   (case side1 => repeat (first | exact (Kd.C_below HR0_0.out HB.out) | (with_reducible refine Kd.C_alloc ?_ _) | (with_reducible refine Kd.C_drewN ?_ _) | (with_reducible refine Kd.C_drew ?_)))
                   (case side2 => exact HC0_0.out)
                   (case side3 => repeat (first | exact (Kd.C_below HR0_1.out HB.out) | (with_reducible refine Kd.C_alloc ?_ _) | (with_reducible refine Kd.C_drewN ?_ _) | (with_reducible refine Kd.C_drew ?_)))
                   (case side4 => exact HC0_1.out)
                   (case side5 => repeat (first | exact (Kd.C_below HR1.out HB.out) | (with_reducible refine Kd.C_alloc ?_ _) | (with_reducible refine Kd.C_drewN ?_ _) | (with_reducible refine Kd.C_drew ?_)))
                   (case side6 => exact HC1.out)
                   rintro e w75 ⟨rfl, hb⟩
                   refine ⟨_, rfl, ?_⟩
                   have n0_ := Aside0.mk (Kd.S_below (by (with_reducible repeat (first | apply Kd.S_alloc | apply Kd.S_drewN | apply Kd.S_drew)); exact HO_115000.out) hb)
                   have n1_ := Aside0.mk (Kd.R_below (by (with_reducible repeat (first | apply Kd.R_alloc | apply Kd.R_drewN | apply Kd.R_drew)); exact HO_115001.out) hb)
                   have n2_ := Aside0.mk (blk_below (g := gb101) (o := .cells #[.slice (some ad122) l0_0.length c0_0, .slice A0_1 l0_1.length c0_1, .int .i64 a0_2, .int .i64 a0_3, .int .i64 a0_4] 25 (0, 0)) (by (with_reducible repeat (first | refine blk_drewN ?_ _ | refine blk_drew ?_ | refine blk_alloc ?_ _)); exact BK101.out) hb)
                   have n3_ := Aside0.mk (blk_below (g := gb114) (o := .cells #[.slice (some ad123) t104.length co16, .slice Ao19 t107.length co19, .int .i64 t110, .int .i64 t111, .int .i64 t112] 25 (0, 0)) (by (with_reducible repeat (first | refine blk_drewN ?_ _ | refine blk_drew ?_ | refine blk_alloc ?_ _)); exact BK114.out) hb)
                   have n4_ := Aside0.mk (blk_below (g := gb125) (o := .cells #[.int .i64 ((rd_T51 ((rd_T49 l0_0 x9_2).f1) x12_3).f0), .int .i64 ((rd_T51 ((rd_T49 l0_0 x9_2).f1) x12_3).f1), .int .i64 ((rd_T51 ((rd_T49 l0_0 x9_2).f1) x12_3).f2), .bool ((rd_T51 ((rd_T49 l0_0 x9_2).f1) x12_3).f3)] 51 (0, 0)) (by (with_reducible repeat (first | refine blk_drewN ?_ _ | refine blk_drew ?_ | refine blk_alloc ?_ _)); exact BK125.out) hb)
                   have n5_ := Aside0.mk (below_step (by repeat (first | (with_reducible first | exact HB.out | apply below_alloc | apply pw_below_drewN | apply below_drew1 | refine below_set ?_ GE101.out | refine below_set ?_ GE114.out | refine below_set ?_ GE125.out) | exact HB.out)) hb)
                   have v_ := Aside0.mk (below_step HV.out hb)
                   clear HV
                   clear HO_115000
                   clear HO_115001
                   clear BK101
                   clear BK114
                   clear BK125
                   clear HB
                   have HO_115000 := n0_
                   have HO_115001 := n1_
                   have BK101 := n2_
                   have BK114 := n3_
                   have BK125 := n4_
                   have HB := n5_
                   have HV := v_
                   clear v_
                   clear n0_ n1_ n2_ n3_ n4_ n5_
                   (try clear hb)
                   (try clear hb2)
                   (try clear hk)
                   (try clear hi)
                   refine hK.out _ _ ⟨(blk_cell BK101.out 0).trans rfl, (blk_cell BK101.out 1).trans rfl, (blk_cell BK101.out 2).trans rfl, (blk_cell BK101.out 3).trans rfl, (blk_cell BK101.out 4).trans rfl, ((HB.out.cell (World.block_lt_of_cell? w _ hw126_0)).trans hw126_0), ((HB.out.cell (World.block_lt_of_cell? w _ hw126_1)).trans hw126_1), ((HB.out.cell (World.block_lt_of_cell? w _ hw126_2)).trans hw126_2), ((HB.out.cell (World.block_lt_of_cell? w _ hw126_3)).trans hw126_3)⟩ (fun hHeld => ?_)
                   clear hK K
                   refine norm_ (a' := ?_) ?_ ?_
                   rotate_left
                   ·show Act.put _ (some 113) _ = _
                    simp only [Act.put, List.setIfInBounds_toArray, List.set_cons_zero, List.set_cons_succ, i64_w, i32_w]
                    rfl
                   refine pure_ (i := 8) (N := some 114) (v := ?_) (a' := ?_) #[true, true, true, true, true, true, true, true, true, false] rfl rfl (any_of HT_.out (by kernel_rfl)) (fun _ _ _ h => h) (Or.inl ⟨by rfl, ?_⟩) ?_ ?_
                   rotate_left
                   ·intro w'
                    go_simp
                    with_reducible rfl
                   rotate_left
                   ·simp only [Act.put, List.setIfInBounds_toArray, List.set_cons_zero, List.set_cons_succ, i64_w, i32_w]
                    rfl
                   refine one_ (i := 9) (N := none) #[true, true, true, true, true, true, true, true, true, true] rfl rfl (one_of HT_.out (by kernel_rfl)) (by decide) (fun K hK => ?_)
                   have hs76 : w75.cell? ⟨gb125, 0, none⟩ = some (.int .i64 ((rd_T51 ((rd_T49 l0_0 x9_2).f1) x12_3).f0)) := (blk_cell BK125.out 0).trans rfl
                   have hfs76 := blk_frozen BK125.out 0
                   have hns76_0 := NB101_125.out
                   have hns76_1 := NB114_125.out
                   have hms76_0 := NB125_101.out
                   have hms76_1 := NB125_114.out
                   refine skip_ (w1 := ?_) (by rfl) rfl ?_ ?_
                   rotate_left
                   ·go_simp
                    rfl
                   refine hK.out _ _ ⟨((cell_far (p := ⟨gb125, _, none⟩) NB101_125.out _).trans (hHeld.1)), ((cell_far (p := ⟨gb125, _, none⟩) NB101_125.out _).trans (hHeld.2.1)), ((cell_far (p := ⟨gb125, _, none⟩) NB101_125.out _).trans (hHeld.2.2.1)), ((cell_far (p := ⟨gb125, _, none⟩) NB101_125.out _).trans (hHeld.2.2.2.1)), ((cell_far (p := ⟨gb125, _, none⟩) NB101_125.out _).trans (hHeld.2.2.2.2.1)), ((cell_far (p := ⟨gb125, _, none⟩) (by first | exact Nat.ne_of_lt (Nat.lt_of_lt_of_le (by have := World.block_lt_of_cell? _ _ hw126_0; first | rwa [add_block] at this | exact this) GW125.out) | (rw [add_block]; exact Nat.ne_of_lt (Nat.lt_of_lt_of_le (by have := World.block_lt_of_cell? _ _ hw126_0; first | rwa [add_block] at this | exact this) GW125.out)) | (show (Addr.add _ _).block ≠ _; rw [add_block]; exact Nat.ne_of_lt (Nat.lt_of_lt_of_le (by have := World.block_lt_of_cell? _ _ hw126_0; first | rwa [add_block] at this | exact this) GW125.out)) | (dsimp only; exact Nat.ne_of_lt (Nat.lt_of_lt_of_le (by have := World.block_lt_of_cell? _ _ hw126_0; first | rwa [add_block] at this | exact this) GW125.out))) _).trans (hHeld.2.2.2.2.2.1)), ((cell_far (p := ⟨gb125, _, none⟩) (by first | exact Nat.ne_of_lt (Nat.lt_of_lt_of_le (by have := World.block_lt_of_cell? _ _ hw126_1; first | rwa [add_block] at this | exact this) GW125.out) | (rw [add_block]; exact Nat.ne_of_lt (Nat.lt_of_lt_of_le (by have := World.block_lt_of_cell? _ _ hw126_1; first | rwa [add_block] at this | exact this) GW125.out)) | (show (Addr.add _ _).block ≠ _; rw [add_block]; exact Nat.ne_of_lt (Nat.lt_of_lt_of_le (by have := World.block_lt_of_cell? _ _ hw126_1; first | rwa [add_block] at this | exact this) GW125.out)) | (dsimp only; exact Nat.ne_of_lt (Nat.lt_of_lt_of_le (by have := World.block_lt_of_cell? _ _ hw126_1; first | rwa [add_block] at this | exact this) GW125.out))) _).trans (hHeld.2.2.2.2.2.2.1)), ((cell_far (p := ⟨gb125, _, none⟩) (by first | exact Nat.ne_of_lt (Nat.lt_of_lt_of_le (by have := World.block_lt_of_cell? _ _ hw126_2; first | rwa [add_block] at this | exact this) GW125.out) | (rw [add_block]; exact Nat.ne_of_lt (Nat.lt_of_lt_of_le (by have := World.block_lt_of_cell? _ _ hw126_2; first | rwa [add_block] at this | exact this) GW125.out)) | (show (Addr.add _ _).block ≠ _; rw [add_block]; exact Nat.ne_of_lt (Nat.lt_of_lt_of_le (by have := World.block_lt_of_cell? _ _ hw126_2; first | rwa [add_block] at this | exact this) GW125.out)) | (dsimp only; exact Nat.ne_of_lt (Nat.lt_of_lt_of_le (by have := World.block_lt_of_cell? _ _ hw126_2; first | rwa [add_block] at this | exact this) GW125.out))) _).trans (hHeld.2.2.2.2.2.2.2.1)), ((cell_far (p := ⟨gb125, _, none⟩) (by first | exact Nat.ne_of_lt (Nat.lt_of_lt_of_le (by have := World.block_lt_of_cell? _ _ hw126_3; first | rwa [add_block] at this | exact this) GW125.out) | (rw [add_block]; exact Nat.ne_of_lt (Nat.lt_of_lt_of_le (by have := World.block_lt_of_cell? _ _ hw126_3; first | rwa [add_block] at this | exact this) GW125.out)) | (show (Addr.add _ _).block ≠ _; rw [add_block]; exact Nat.ne_of_lt (Nat.lt_of_lt_of_le (by have := World.block_lt_of_cell? _ _ hw126_3; first | rwa [add_block] at this | exact this) GW125.out)) | (dsimp only; exact Nat.ne_of_lt (Nat.lt_of_lt_of_le (by have := World.block_lt_of_cell? _ _ hw126_3; first | rwa [add_block] at this | exact this) GW125.out))) _).trans (hHeld.2.2.2.2.2.2.2.2))⟩ (fun hHeld => ?_)
                   clear hK K
                   refine done_ (done_of HT_.out (by kernel_rfl)) ?_
                   try go_wp2
                   have n0_ : Aside0 (Kd.S k49 49 (w75.setCell ⟨gb125, 0, none⟩ (.int .i64 t127)) w.heap.size (fun k_ => k_ ≠ gb125) (.slice (some ad123) t104.length co16) t104) := ⟨by (with_reducible repeat (first | apply Kd.S_alloc | apply Kd.S_drewN | apply Kd.S_drew)); exact Kd.S_mono (Kd.S_far (p := ⟨gb125, 0, none⟩) (Kd.S_mono HO_115000.out (fun k_ hk => (⟨hk, hk⟩ : _ ∧ k_ ≠ gb125))) (fun _ hk => hk.2) (.int .i64 t127)) (fun _ hk => hk.1)⟩
                   have n1_ : Aside0 (Kd.R k36 36 (w75.setCell ⟨gb125, 0, none⟩ (.int .i64 t127)) w.heap.size (fun _ => True) (.slice Ao19 t107.length co19) t107) := ⟨by (with_reducible repeat (first | apply Kd.R_alloc | apply Kd.R_drewN | apply Kd.R_drew)); exact Kd.R_mono (Kd.R_far (p := ⟨gb125, 0, none⟩) (Kd.R_types HO_115001.out BK125.out (by decide)) (fun _ hk => hk.2) (.int .i64 t127)) (fun _ hk => trivial)⟩
                   have n2_ : Aside0 ((w75.setCell ⟨gb125, 0, none⟩ (.int .i64 t127)).heap[gb101]? = some (.cells #[.slice (some ad122) l0_0.length c0_0, .slice A0_1 l0_1.length c0_1, .int .i64 a0_2, .int .i64 a0_3, .int .i64 a0_4] 25 (0, 0))) := ⟨by (with_reducible repeat (first | refine blk_drewN ?_ _ | refine blk_drew ?_ | refine blk_alloc ?_ _)); refine blk_far ?_ NB101_125.out _; (with_reducible repeat (first | refine blk_drewN ?_ _ | refine blk_drew ?_ | refine blk_alloc ?_ _)); exact BK101.out⟩
                   have n3_ : Aside0 ((w75.setCell ⟨gb125, 0, none⟩ (.int .i64 t127)).heap[gb114]? = some (.cells #[.slice (some ad123) t104.length co16, .slice Ao19 t107.length co19, .int .i64 t110, .int .i64 t111, .int .i64 t112] 25 (0, 0))) := ⟨by (with_reducible repeat (first | refine blk_drewN ?_ _ | refine blk_drew ?_ | refine blk_alloc ?_ _)); refine blk_far ?_ NB114_125.out _; (with_reducible repeat (first | refine blk_drewN ?_ _ | refine blk_drew ?_ | refine blk_alloc ?_ _)); exact BK114.out⟩
                   have n4_ : Aside0 ((w75.setCell ⟨gb125, 0, none⟩ (.int .i64 t127)).heap[gb125]? = some (.cells #[.int .i64 t127, .int .i64 ((rd_T51 ((rd_T49 l0_0 x9_2).f1) x12_3).f1), .int .i64 ((rd_T51 ((rd_T49 l0_0 x9_2).f1) x12_3).f2), .bool ((rd_T51 ((rd_T49 l0_0 x9_2).f1) x12_3).f3)] 51 (0, 0))) := ⟨by (with_reducible repeat (first | refine blk_drewN ?_ _ | refine blk_drew ?_ | refine blk_alloc ?_ _)); refine blk_put (cs := #[.int .i64 ((rd_T51 ((rd_T49 l0_0 x9_2).f1) x12_3).f0), .int .i64 ((rd_T51 ((rd_T49 l0_0 x9_2).f1) x12_3).f1), .int .i64 ((rd_T51 ((rd_T49 l0_0 x9_2).f1) x12_3).f2), .bool ((rd_T51 ((rd_T49 l0_0 x9_2).f1) x12_3).f3)]) ?_ 0 _ rfl; (with_reducible repeat (first | refine blk_drewN ?_ _ | refine blk_drew ?_ | refine blk_alloc ?_ _)); exact BK125.out⟩
                   have n5_ : Aside0 (Below w.heap.size w (w75.setCell ⟨gb125, 0, none⟩ (.int .i64 t127))) := ⟨by repeat (first | (with_reducible first | exact HB.out | apply below_alloc | apply pw_below_drewN | apply below_drew1 | refine below_set ?_ GE101.out | refine below_set ?_ GE114.out | refine below_set ?_ GE125.out) | exact HB.out)⟩
                   have v_ : Aside0 (Below w53.heap.size w53 (w75.setCell ⟨gb125, 0, none⟩ (.int .i64 t127))) := ⟨by repeat (first | exact HV.out | refine below_set ?_ GV.out)⟩
                   clear HV
                   (try clear HO_115000)
                   (try clear HO_115001)
                   (try clear BK101)
                   (try clear BK114)
                   (try clear BK125)
                   (try clear HB)
                   generalize (w75.setCell ⟨gb125, 0, none⟩ (.int .i64 t127)) = w77 at n0_ n1_ n2_ n3_ n4_ n5_ v_ ⊢
                   have HO_115000 := n0_
                   have HO_115001 := n1_
                   have BK101 := n2_
                   have BK114 := n3_
                   have BK125 := n4_
                   have HB := n5_
                   have HV := v_
                   clear v_
                   clear n0_ n1_ n2_ n3_ n4_ n5_
                   have n0_ := Aside0.mk (Kd.S_drew HO_115000.out)
                   have n1_ := Aside0.mk (Kd.R_drew HO_115001.out)
                   have n2_ := Aside0.mk (blk_drew BK101.out)
                   have n3_ := Aside0.mk (blk_drew BK114.out)
                   have n4_ := Aside0.mk (blk_drew BK125.out)
                   have n5_ := Aside0.mk (below_drew1 HB.out)
                   have v_ := Aside0.mk (below_drew1 HV.out)
                   clear HV
                   clear HO_115000
                   clear HO_115001
                   clear BK101
                   clear BK114
                   clear BK125
                   clear HB
                   have HO_115000 := n0_
                   have HO_115001 := n1_
                   have BK101 := n2_
                   have BK114 := n3_
                   have BK125 := n4_
                   have HB := n5_
                   have HV := v_
                   clear v_
                   clear n0_ n1_ n2_ n3_ n4_ n5_
                   have p128 : 0 ≤ (x12_3 : Int) := of_decide_eq_true (by first | (with_reducible assumption) | assumption)
                   have q128 : x12_3 < (((rd_T49 t104 x9_2).f1).length : Int) := of_decide_eq_true (by first | (with_reducible assumption) | assumption)
                   obtain ⟨ad128, e128, hx128_0, hx128_1, hx128_2, hx128_3⟩ := at_T51 HR123_1.out x12_3 p128 q128
                   have hw128_3 := hx128_3
                   have hw128_2 := hx128_2
                   have hw128_1 := hx128_1
                   have hw128_0 := hx128_0
                   cases e128
                   replace hx128_0 := (HV.out.cell (World.block_lt_of_cell? w53 _ hx128_0)).trans hx128_0
                   replace hx128_1 := (HV.out.cell (World.block_lt_of_cell? w53 _ hx128_1)).trans hx128_1
                   replace hx128_2 := (HV.out.cell (World.block_lt_of_cell? w53 _ hx128_2)).trans hx128_2
                   replace hx128_3 := (HV.out.cell (World.block_lt_of_cell? w53 _ hx128_3)).trans hx128_3
                   replace p128 := eq_true p128
                   replace q128 := eq_true q128
                   refine start_ (n := 6) (S := fun w' => w'.cell? ⟨gb125, 0, none⟩ = some (.int .i64 t127) ∧ w'.cell? ⟨gb125, 1, none⟩ = some (.int .i64 ((rd_T51 ((rd_T49 l0_0 x9_2).f1) x12_3).f1)) ∧ w'.cell? ⟨gb125, 2, none⟩ = some (.int .i64 ((rd_T51 ((rd_T49 l0_0 x9_2).f1) x12_3).f2)) ∧ w'.cell? ⟨gb125, 3, none⟩ = some (.bool ((rd_T51 ((rd_T49 l0_0 x9_2).f1) x12_3).f3)) ∧ w'.cell? (ad128.add ((x12_3).toNat * 4)) = some (.int .i64 ((rd_T51 ((rd_T49 t104 x9_2).f1) x12_3).f0)) ∧ w'.cell? ⟨(ad128.add ((x12_3).toNat * 4)).block, (ad128.add ((x12_3).toNat * 4)).off + 1, none⟩ = some (.int .i64 ((rd_T51 ((rd_T49 t104 x9_2).f1) x12_3).f1)) ∧ w'.cell? ⟨(ad128.add ((x12_3).toNat * 4)).block, (ad128.add ((x12_3).toNat * 4)).off + 2, none⟩ = some (.int .i64 ((rd_T51 ((rd_T49 t104 x9_2).f1) x12_3).f2)) ∧ w'.cell? ⟨(ad128.add ((x12_3).toNat * 4)).block, (ad128.add ((x12_3).toNat * 4)).off + 3, none⟩ = some (.bool ((rd_T51 ((rd_T49 t104 x9_2).f1) x12_3).f3))) (ds := []) #[false, false, false, false, false, false] (by kernel_rfl) rfl rfl ⟨(blk_cell BK125.out 0).trans rfl, (blk_cell BK125.out 1).trans rfl, (blk_cell BK125.out 2).trans rfl, (blk_cell BK125.out 3).trans rfl, ((HV.out.cell (World.block_lt_of_cell? w53 _ hw128_0)).trans hw128_0), ((HV.out.cell (World.block_lt_of_cell? w53 _ hw128_1)).trans hw128_1), ((HV.out.cell (World.block_lt_of_cell? w53 _ hw128_2)).trans hw128_2), ((HV.out.cell (World.block_lt_of_cell? w53 _ hw128_3)).trans hw128_3)⟩ (fun hHeld => ?_)
                   generalize w77.drew = w78 at HO_115000 HO_115001 BK101 BK114 BK125 HB hx128_0 hx128_1 hx128_2 hx128_3 hHeld HV ⊢
                   refine pure_ (i := 0) (N := some 115) (v := ?_) (a' := ?_) #[true, false, false, false, false, false] rfl rfl (by kernel_rfl) (fun _ _ _ h => h) (Or.inl ⟨by rfl, ?_⟩) ?_ ?_
                   rotate_left
                   ·intro w'
                    go_simp
                    with_reducible rfl
                   rotate_left
                   ·simp only [Act.put, List.setIfInBounds_toArray, List.set_cons_zero, List.set_cons_succ, i64_w, i32_w]
                    rfl
                   refine pure_ (i := 1) (N := some 116) (v := ?_) (a' := ?_) #[true, true, false, false, false, false] rfl rfl (by kernel_rfl) (fun _ _ _ h => h) (Or.inl ⟨by rfl, ?_⟩) ?_ ?_
                   rotate_left
                   ·intro w'
                    go_simp
                    with_reducible rfl
                   rotate_left
                   ·simp only [Act.put, List.setIfInBounds_toArray, List.set_cons_zero, List.set_cons_succ, i64_w, i32_w]
                    rfl
                   refine pure_ (i := 2) (N := some 117) (v := ?_) (a' := ?_) #[true, true, true, false, false, false] rfl rfl (by kernel_rfl) (fun _ _ _ h => h) (Or.inl ⟨by rfl, ?_⟩) ?_ ?_
                   rotate_left
                   ·intro w'
                    go_simp
                    with_reducible rfl
                   rotate_left
                   ·simp only [Act.put, List.setIfInBounds_toArray, List.set_cons_zero, List.set_cons_succ, i64_w, i32_w]
                    rfl
                   refine take_ (i := 3) (N := some 118) (v := ?_) (a' := ?_) #[true, true, true, true, false, false] rfl rfl (by kernel_rfl) (fun _ _ _ h => h) (Or.inl ⟨by rfl, ?_⟩) hHeld ?_ ?_
                   rotate_left
                   ·rintro w' ⟨s0, s1, s2, s3, s4, s5, s6, s7⟩
                    go_simp
                    with_reducible rfl
                   rotate_left
                   ·simp only [Act.put, List.setIfInBounds_toArray, List.set_cons_zero, List.set_cons_succ, i64_w, i32_w]
                    rfl
                   refine take_ (i := 4) (N := some 119) (v := ?_) (a' := ?_) #[true, true, true, true, true, false] rfl rfl (by kernel_rfl) (fun _ _ _ h => h) (Or.inl ⟨by rfl, ?_⟩) hHeld ?_ ?_
                   rotate_left
                   ·rintro w' ⟨s0, s1, s2, s3, s4, s5, s6, s7⟩
                    go_simp
                    with_reducible rfl
                   rotate_left
                   ·simp only [Act.put, List.setIfInBounds_toArray, List.set_cons_zero, List.set_cons_succ, i64_w, i32_w]
                    rfl
                   refine pure_ (i := 5) (N := some 120) (v := ?_) (a' := ?_) #[true, true, true, true, true, true] rfl rfl (by kernel_rfl) (fun _ _ _ h => h) (Or.inl ⟨by rfl, ?_⟩) ?_ ?_
                   rotate_left
                   ·intro w'
                    go_simp
                    with_reducible rfl
                   rotate_left
                   ·simp only [Act.put, List.setIfInBounds_toArray, List.set_cons_zero, List.set_cons_succ, i64_w, i32_w]
                    rfl
                   refine done_ (by kernel_rfl) ?_
                   try go_wp2
                   go_roundg k3
                   case measure => have := HJ8.out; have := HK2.out; have := HK3.out; omega
                   case rel => exact ⟨(wrap64 (x12_3 + 1)), (by first | rfl | (simp; done) | (simp [*]; done)), H', ⟨by have := HJ8.out; have := HK2.out; have := HK3.out; omega⟩, ⟨by (with_reducible repeat (first | apply Kd.S_alloc | apply Kd.S_drewN | apply Kd.S_drew)); exact Kd.S_mono HO_115000.out (fun _ hk => trivial)⟩, ⟨by (with_reducible repeat (first | apply Kd.R_alloc | apply Kd.R_drewN | apply Kd.R_drew)); exact HO_115001.out⟩, ⟨by (with_reducible repeat (first | refine blk_drewN ?_ _ | refine blk_drew ?_ | refine blk_alloc ?_ _)); exact BK101.out⟩, ⟨by (with_reducible repeat (first | refine blk_drewN ?_ _ | refine blk_drew ?_ | refine blk_alloc ?_ _)); exact BK114.out⟩, ⟨by repeat (first | (with_reducible first | exact HB.out | apply below_alloc | apply pw_below_drewN | apply below_drew1 | refine below_set ?_ GE101.out | refine below_set ?_ GE114.out | refine below_set ?_ GE125.out) | exact HB.out)⟩, ⟨by repeat (first | exact HV.out | apply below_alloc | apply pw_below_drewN | apply below_drew1 | refine below_set ?_ GV.out)⟩⟩
                 ·rw [if_neg c57] at H
                  exact absurd H (by simp)
                ·rw [if_neg c55] at H
                 exact absurd H (by simp)
               ·rw [if_neg c54] at H
                have c54b0 : decide (x12_3 < (((rd_T49 l0_0 x9_2).f1).length : Int)) = false := decide_eq_false c54
                clear c54
                have H' := Aside0.mk H
                clear H
                go_wp2
                go_roundg k3
                case measure => have := HJ8.out; have := HK2.out; have := HK3.out; omega
                case rel => exact ⟨(wrap64 (x9_2 + 1)), (by first | rfl | (simp; done) | (simp [*]; done)), H', ⟨by have := HJ8.out; have := HK2.out; have := HK3.out; omega⟩, ⟨by (with_reducible repeat (first | apply Kd.S_alloc | apply Kd.S_drewN | apply Kd.S_drew)); exact HO_115000.out⟩, ⟨by (with_reducible repeat (first | apply Kd.R_alloc | apply Kd.R_drewN | apply Kd.R_drew)); exact HO_115001.out⟩, ⟨by (with_reducible repeat (first | refine blk_drewN ?_ _ | refine blk_drew ?_ | refine blk_alloc ?_ _)); exact BK101.out⟩, ⟨by (with_reducible repeat (first | refine blk_drewN ?_ _ | refine blk_drew ?_ | refine blk_alloc ?_ _)); exact BK114.out⟩, ⟨by repeat (first | (with_reducible first | exact HB.out | apply below_alloc | apply pw_below_drewN | apply below_drew1 | refine below_set ?_ GE101.out | refine below_set ?_ GE114.out) | exact HB.out)⟩⟩
            ·rw [if_neg c50] at H
             exact absurd H (by simp)
           ·rw [if_neg c49] at H
            exact absurd H (by simp)
          ·rw [if_neg c48] at H
           exact absurd H (by simp)
         ·rw [if_neg c47] at H
          have c47b0 : decide (x9_2 < (l0_0.length : Int)) = false := decide_eq_false c47
          clear c47
          replace H := Option.bind_eq_some_iff.mp H
          obtain ⟨t121, A820, H⟩ := H
          replace H : (some t121) = some r := H
          have A82 := Aside0.mk A820
          clear A820
          obtain rfl := Option.some.inj H
          have hnb83 := NB101_114.out
          have hnc83 := NB114_101.out
          have hcz84_0 : wr.cell? ⟨gb101, 0, none⟩ = some (.slice A0_0 l0_0.length c0_0) := (blk_cell BK101.out 0).trans rfl
          have hcz84_1 : wr.cell? ⟨gb101, 1, none⟩ = some (.slice A0_1 l0_1.length c0_1) := (blk_cell BK101.out 1).trans rfl
          have hcz84_2 : wr.cell? ⟨gb101, 2, none⟩ = some (.int .i64 a0_2) := (blk_cell BK101.out 2).trans rfl
          have hcz84_3 : wr.cell? ⟨gb101, 3, none⟩ = some (.int .i64 a0_3) := (blk_cell BK101.out 3).trans rfl
          have hcz84_4 : wr.cell? ⟨gb101, 4, none⟩ = some (.int .i64 a0_4) := (blk_cell BK101.out 4).trans rfl
          have hfz84_0 := blk_frozen BK101.out 0
          have hfz84_1 := blk_frozen BK101.out 1
          have hfz84_2 := blk_frozen BK101.out 2
          have hfz84_3 := blk_frozen BK101.out 3
          have hfz84_4 := blk_frozen BK101.out 4
          go_wp2_with (first | ((with_reducible refine gate_callee (f := 11) rfl ?_); refine goesL_ (some 121) rfl rfl Try.func11 (by kernel_rfl) rfl #[] rfl (by (try simp only [List.map_toArray, List.map_cons, List.map_nil]); first | done | rfl | (simp only [List.length_drop, List.length_take]; rfl)) ?_; (with_reducible refine (unicodetextlaw47_alive.calls k2  t121 _ A82.out).mono ?_); rintro e w85 ⟨rfl, hb⟩; refine ⟨_, rfl, ?_⟩; have n0_ := Aside0.mk (Kd.S_below (by (with_reducible repeat (first | apply Kd.S_alloc | apply Kd.S_drewN | apply Kd.S_drew)); exact HO_115000.out) hb); have n1_ := Aside0.mk (Kd.R_below (by (with_reducible repeat (first | apply Kd.R_alloc | apply Kd.R_drewN | apply Kd.R_drew)); exact HO_115001.out) hb); have n2_ := Aside0.mk (blk_below (g := gb101) (o := .cells #[.slice A0_0 l0_0.length c0_0, .slice A0_1 l0_1.length c0_1, .int .i64 a0_2, .int .i64 a0_3, .int .i64 a0_4] 25 (0, 0)) (by (with_reducible repeat (first | refine blk_drewN ?_ _ | refine blk_drew ?_ | refine blk_alloc ?_ _)); exact BK101.out) hb); have n3_ := Aside0.mk (blk_below (g := gb114) (o := .cells #[.slice Ao16 t104.length co16, .slice Ao19 t107.length co19, .int .i64 t110, .int .i64 t111, .int .i64 t112] 25 (0, 0)) (by (with_reducible repeat (first | refine blk_drewN ?_ _ | refine blk_drew ?_ | refine blk_alloc ?_ _)); exact BK114.out) hb); have n4_ := Aside0.mk (below_step (by repeat (first | (with_reducible first | exact HB.out | apply below_alloc | apply pw_below_drewN | apply below_drew1 | refine below_set ?_ GE101.out | refine below_set ?_ GE114.out) | exact HB.out)) hb); clear HO_115000; clear HO_115001; clear BK101; clear BK114; clear HB; have HO_115000 := n0_; have HO_115001 := n1_; have BK101 := n2_; have BK114 := n3_; have HB := n4_; clear n0_ n1_ n2_ n3_ n4_; (try clear hb); (try clear hb2); (try clear hk); (try clear hi)))
          go_ret
          exact ⟨by first | rfl | (simp [errW_none, errW_some] <;> rfl) | (simp [*, errW_none, errW_some] <;> rfl), by repeat (first | (with_reducible first | exact HB.out | apply below_alloc | apply pw_below_drewN | apply below_drew1 | refine below_set ?_ GE101.out | refine below_set ?_ GE114.out) | exact HB.out)⟩
   ·rw [if_neg c8] at H
    have c8b0 : (t113 == 0) = false := beq_eq_false_iff_ne.mpr c8
    have c8b1 : (t113 != 0) = true := bne_iff_ne.mpr c8
    replace H := Option.bind_eq_some_iff.mp H
    obtain ⟨t119, A860, H⟩ := H
    replace H : (some t119) = some r := H
    have A86 := Aside0.mk A860
    clear A860
    obtain rfl := Option.some.inj H
    go_enter Try.func9, Try.ntmps9
    go_wp2_with (first | ((with_reducible refine gate_dst (N := 2) rfl ?_); refine box_event ?hg (N := 2) ?hd (cs := #[.slice A0_0 l0_0.length c0_0, .slice A0_1 l0_1.length c0_1, .int .i64 a0_2, .int .i64 a0_3, .int .i64 a0_4]) (t := 25) ?hr ?_; (case hd => rfl); (case hg => rfl); (case hr => first | (go_simp; done) | (go_simp; rfl)); intro gb101 hg w87 hbox hb; have n0_ := Aside0.mk (below_step (by repeat (first | (with_reducible first | exact HB.out | apply below_alloc | apply pw_below_drewN | apply below_drew1) | exact HB.out)) hb); have n1_ := Aside0.mk (hbox); have n2_ := Aside0.mk ((by rw [hg]; exact (below_size (by repeat (first | (with_reducible first | exact HB.out | apply below_alloc | apply pw_below_drewN | apply below_drew1) | exact HB.out))) : w.heap.size ≤ gb101)); have n3_ := Aside0.mk ((by rw [hg]; exact (below_size (by repeat (first | (with_reducible first | exact HB.out | apply below_alloc | apply pw_below_drewN | apply below_drew1) | exact HB.out))) : w.heap.size ≤ gb101)); clear HB; have HB := n0_; have BK101 := n1_; have GW101 := n2_; have GE101 := n3_; clear n0_ n1_ n2_ n3_; clear hb hbox hg; have hcz88_0 : w87.cell? ⟨gb101, 0, none⟩ = some (.slice A0_0 l0_0.length c0_0) := (blk_cell BK101.out 0).trans rfl; have hcz88_1 : w87.cell? ⟨gb101, 1, none⟩ = some (.slice A0_1 l0_1.length c0_1) := (blk_cell BK101.out 1).trans rfl; have hcz88_2 : w87.cell? ⟨gb101, 2, none⟩ = some (.int .i64 a0_2) := (blk_cell BK101.out 2).trans rfl; have hcz88_3 : w87.cell? ⟨gb101, 3, none⟩ = some (.int .i64 a0_3) := (blk_cell BK101.out 3).trans rfl; have hcz88_4 : w87.cell? ⟨gb101, 4, none⟩ = some (.int .i64 a0_4) := (blk_cell BK101.out 4).trans rfl; have hfz88_0 := blk_frozen BK101.out 0; have hfz88_1 := blk_frozen BK101.out 1; have hfz88_2 := blk_frozen BK101.out 2; have hfz88_3 := blk_frozen BK101.out 3; have hfz88_4 := blk_frozen BK101.out 4) | ((with_reducible refine gate_callee (f := 10) rfl ?_); refine goesL_ (some 16) rfl rfl Try.func10 (by kernel_rfl) rfl #[.agg #[.slice A0_0 l0_0.length c0_0, .slice A0_1 l0_1.length c0_1, .int .i64 a0_2, .int .i64 a0_3, .int .i64 a0_4], .slice A1 l1.length c1] rfl (by (try simp only [List.map_toArray, List.map_cons, List.map_nil]); first | done | rfl | (simp only [List.length_drop, List.length_take]; rfl)) ?_; (with_reducible refine (unicodetextlaw47_few.calls k _ _ l0_0 _ _ l0_1 a0_2 a0_3 a0_4 _ _ l1 true _ ?side1 ?side2 ?side3 ?side4 ?side5 ?side6 A3.out).mono ?_); (case side1 => repeat (first | exact (Kd.C_below HR0_0.out HB.out) | (with_reducible refine Kd.C_alloc ?_ _) | (with_reducible refine Kd.C_drewN ?_ _) | (with_reducible refine Kd.C_drew ?_))); (case side2 => exact HC0_0.out); (case side3 => repeat (first | exact (Kd.C_below HR0_1.out HB.out) | (with_reducible refine Kd.C_alloc ?_ _) | (with_reducible refine Kd.C_drewN ?_ _) | (with_reducible refine Kd.C_drew ?_))); (case side4 => exact HC0_1.out); (case side5 => repeat (first | exact (Kd.C_below HR1.out HB.out) | (with_reducible refine Kd.C_alloc ?_ _) | (with_reducible refine Kd.C_drewN ?_ _) | (with_reducible refine Kd.C_drew ?_))); (case side6 => exact HC1.out); rintro e w89 ⟨rfl, hb⟩; refine ⟨_, rfl, ?_⟩; have n0_ := Aside0.mk (blk_below (g := gb101) (o := .cells #[.slice A0_0 l0_0.length c0_0, .slice A0_1 l0_1.length c0_1, .int .i64 a0_2, .int .i64 a0_3, .int .i64 a0_4] 25 (0, 0)) (by (with_reducible repeat (first | refine blk_drewN ?_ _ | refine blk_drew ?_ | refine blk_alloc ?_ _)); exact BK101.out) hb); have n1_ := Aside0.mk (below_step (by repeat (first | (with_reducible first | exact HB.out | apply below_alloc | apply pw_below_drewN | apply below_drew1 | refine below_set ?_ GE101.out) | exact HB.out)) hb); clear BK101; clear HB; have BK101 := n0_; have HB := n1_; clear n0_ n1_; (try clear hb); (try clear hb2); (try clear hk); (try clear hi); have hcz90_0 : w89.cell? ⟨gb101, 0, none⟩ = some (.slice A0_0 l0_0.length c0_0) := (blk_cell BK101.out 0).trans rfl; have hcz90_1 : w89.cell? ⟨gb101, 1, none⟩ = some (.slice A0_1 l0_1.length c0_1) := (blk_cell BK101.out 1).trans rfl; have hcz90_2 : w89.cell? ⟨gb101, 2, none⟩ = some (.int .i64 a0_2) := (blk_cell BK101.out 2).trans rfl; have hcz90_3 : w89.cell? ⟨gb101, 3, none⟩ = some (.int .i64 a0_3) := (blk_cell BK101.out 3).trans rfl; have hcz90_4 : w89.cell? ⟨gb101, 4, none⟩ = some (.int .i64 a0_4) := (blk_cell BK101.out 4).trans rfl; have hfz90_0 := blk_frozen BK101.out 0; have hfz90_1 := blk_frozen BK101.out 1; have hfz90_2 := blk_frozen BK101.out 2; have hfz90_3 := blk_frozen BK101.out 3; have hfz90_4 := blk_frozen BK101.out 4) | ((with_reducible refine gate_callee (f := 18) rfl ?_); refine goesL_ (some 22) rfl rfl Try.func18 (by kernel_rfl) rfl #[.agg #[.slice A0_0 l0_0.length c0_0, .slice A0_1 l0_1.length c0_1, .int .i64 a0_2, .int .i64 a0_3, .int .i64 a0_4], .slice A1 l1.length c1] rfl (by (try simp only [List.map_toArray, List.map_cons, List.map_nil]); first | done | rfl | (simp only [List.length_drop, List.length_take]; rfl)) ?_; (with_reducible refine (groups_Apply.calls k _ _ l0_0 _ _ l0_1 a0_2 a0_3 a0_4 _ _ l1 t104 t107 t110 t111 t112 t113 _ ?side1 ?side2 ?side3 ?side4 ?side5 ?side6 A5.out).mono ?_); (case side1 => repeat (first | exact (Kd.C_below HR0_0.out HB.out) | (with_reducible refine Kd.C_alloc ?_ _) | (with_reducible refine Kd.C_drewN ?_ _) | (with_reducible refine Kd.C_drew ?_))); (case side2 => exact HC0_0.out); (case side3 => repeat (first | exact (Kd.C_below HR0_1.out HB.out) | (with_reducible refine Kd.C_alloc ?_ _) | (with_reducible refine Kd.C_drewN ?_ _) | (with_reducible refine Kd.C_drew ?_))); (case side4 => exact HC0_1.out); (case side5 => repeat (first | exact (Kd.C_below HR1.out HB.out) | (with_reducible refine Kd.C_alloc ?_ _) | (with_reducible refine Kd.C_drewN ?_ _) | (with_reducible refine Kd.C_drew ?_))); (case side6 => exact HC1.out); rintro e w91 ⟨v105, v108, rfl, ho0, ho1, hb⟩; refine ⟨_, rfl, ?_⟩; have n0_ := Aside0.mk (Kd.S_lower ho0 (below_size (by repeat (first | (with_reducible first | exact HB.out | apply below_alloc | apply pw_below_drewN | apply below_drew1 | refine below_set ?_ GE101.out) | exact HB.out)))); have n1_ := Aside0.mk (Kd.R_lower ho1 (below_size (by repeat (first | (with_reducible first | exact HB.out | apply below_alloc | apply pw_below_drewN | apply below_drew1 | refine below_set ?_ GE101.out) | exact HB.out)))); have n2_ := Aside0.mk (blk_below (g := gb101) (o := .cells #[.slice A0_0 l0_0.length c0_0, .slice A0_1 l0_1.length c0_1, .int .i64 a0_2, .int .i64 a0_3, .int .i64 a0_4] 25 (0, 0)) (by (with_reducible repeat (first | refine blk_drewN ?_ _ | refine blk_drew ?_ | refine blk_alloc ?_ _)); exact BK101.out) hb); have n3_ := Aside0.mk (below_step (by repeat (first | (with_reducible first | exact HB.out | apply below_alloc | apply pw_below_drewN | apply below_drew1 | refine below_set ?_ GE101.out) | exact HB.out)) hb); clear BK101; clear HB; have HO106 := n0_; have HO109 := n1_; have BK101 := n2_; have HB := n3_; clear n0_ n1_ n2_ n3_; (try clear hb); (try clear hb2); (try clear hk); (try clear hi); (try clear ho0); (try clear ho1)) | ((with_reducible refine gate_dst (N := 5) rfl ?_); refine box_event ?hg (N := 5) ?hd (cs := #[.slice none 0 0, .slice none 0 0, .int .i64 0, .int .i64 0, .int .i64 0]) (t := 25) ?hr ?_; (case hd => rfl); (case hg => rfl); (case hr => first | (go_simp; done) | (go_simp; rfl)); intro gb114 hg w92 hbox hb; have n0_ := Aside0.mk (Kd.S_below (by (with_reducible repeat (first | apply Kd.S_alloc | apply Kd.S_drewN | apply Kd.S_drew)); exact HO106.out) hb); have n1_ := Aside0.mk (Kd.R_below (by (with_reducible repeat (first | apply Kd.R_alloc | apply Kd.R_drewN | apply Kd.R_drew)); exact HO109.out) hb); have n2_ := Aside0.mk (blk_below (g := gb101) (o := .cells #[.slice A0_0 l0_0.length c0_0, .slice A0_1 l0_1.length c0_1, .int .i64 a0_2, .int .i64 a0_3, .int .i64 a0_4] 25 (0, 0)) (by (with_reducible repeat (first | refine blk_drewN ?_ _ | refine blk_drew ?_ | refine blk_alloc ?_ _)); exact BK101.out) hb); have n3_ := Aside0.mk (below_step (by repeat (first | (with_reducible first | exact HB.out | apply below_alloc | apply pw_below_drewN | apply below_drew1 | refine below_set ?_ GE101.out) | exact HB.out)) hb); have n4_ := Aside0.mk (hbox); have n5_ := Aside0.mk ((by rw [hg]; exact (below_size (by repeat (first | (with_reducible first | exact HB.out | apply below_alloc | apply pw_below_drewN | apply below_drew1 | refine below_set ?_ GE101.out) | exact HB.out))) : w.heap.size ≤ gb114)); have n6_ := Aside0.mk ((by rw [hg]; exact (below_size (by repeat (first | (with_reducible first | exact HB.out | apply below_alloc | apply pw_below_drewN | apply below_drew1 | refine below_set ?_ GE101.out) | exact HB.out))) : w.heap.size ≤ gb114)); have n7_ := Aside0.mk ((by rw [hg]; exact Nat.ne_of_lt (blk_lt (g := gb101) (o := .cells #[.slice A0_0 l0_0.length c0_0, .slice A0_1 l0_1.length c0_1, .int .i64 a0_2, .int .i64 a0_3, .int .i64 a0_4] 25 (0, 0)) (by (with_reducible repeat (first | refine blk_drewN ?_ _ | refine blk_drew ?_ | refine blk_alloc ?_ _)); exact BK101.out)) : gb101 ≠ gb114)); have n8_ := Aside0.mk ((by rw [hg]; exact Nat.ne_of_gt (blk_lt (g := gb101) (o := .cells #[.slice A0_0 l0_0.length c0_0, .slice A0_1 l0_1.length c0_1, .int .i64 a0_2, .int .i64 a0_3, .int .i64 a0_4] 25 (0, 0)) (by (with_reducible repeat (first | refine blk_drewN ?_ _ | refine blk_drew ?_ | refine blk_alloc ?_ _)); exact BK101.out)) : gb114 ≠ gb101)); clear HO106; clear HO109; clear BK101; clear HB; have HO106 := n0_; have HO109 := n1_; have BK101 := n2_; have HB := n3_; have BK114 := n4_; have GW114 := n5_; have GE114 := n6_; have NB101_114 := n7_; have NB114_101 := n8_; clear n0_ n1_ n2_ n3_ n4_ n5_ n6_ n7_ n8_; clear hb hbox hg; obtain ⟨Ao93, co93, eo93⟩ := Kd.S_slice HO106.out; subst eo93; have hnb94 := NB114_101.out; have hnc94 := NB101_114.out; have hcz95_0 : w92.cell? ⟨gb114, 0, none⟩ = some (.slice none 0 0) := (blk_cell BK114.out 0).trans rfl; have hcz95_1 : w92.cell? ⟨gb114, 1, none⟩ = some (.slice none 0 0) := (blk_cell BK114.out 1).trans rfl; have hcz95_2 : w92.cell? ⟨gb114, 2, none⟩ = some (.int .i64 0) := (blk_cell BK114.out 2).trans rfl; have hcz95_3 : w92.cell? ⟨gb114, 3, none⟩ = some (.int .i64 0) := (blk_cell BK114.out 3).trans rfl; have hcz95_4 : w92.cell? ⟨gb114, 4, none⟩ = some (.int .i64 0) := (blk_cell BK114.out 4).trans rfl; have hfz95_0 := blk_frozen BK114.out 0; have hfz95_1 := blk_frozen BK114.out 1; have hfz95_2 := blk_frozen BK114.out 2; have hfz95_3 := blk_frozen BK114.out 3; have hfz95_4 := blk_frozen BK114.out 4; obtain ⟨Ao96, co96, eo96⟩ := Kd.R_slice HO109.out; subst eo96; have hcz97_0 : w92.cell? ⟨gb101, 0, none⟩ = some (.slice A0_0 l0_0.length c0_0) := (blk_cell BK101.out 0).trans rfl; have hcz97_1 : w92.cell? ⟨gb101, 1, none⟩ = some (.slice A0_1 l0_1.length c0_1) := (blk_cell BK101.out 1).trans rfl; have hcz97_2 : w92.cell? ⟨gb101, 2, none⟩ = some (.int .i64 a0_2) := (blk_cell BK101.out 2).trans rfl; have hcz97_3 : w92.cell? ⟨gb101, 3, none⟩ = some (.int .i64 a0_3) := (blk_cell BK101.out 3).trans rfl; have hcz97_4 : w92.cell? ⟨gb101, 4, none⟩ = some (.int .i64 a0_4) := (blk_cell BK101.out 4).trans rfl; have hfz97_0 := blk_frozen BK101.out 0; have hfz97_1 := blk_frozen BK101.out 1; have hfz97_2 := blk_frozen BK101.out 2; have hfz97_3 := blk_frozen BK101.out 3; have hfz97_4 := blk_frozen BK101.out 4) | ((with_reducible refine gate_callee (f := 12) rfl ?_); refine goesL_ (some 28) rfl rfl Try.func12 (by kernel_rfl) rfl #[.agg #[.slice A0_0 l0_0.length c0_0, .slice A0_1 l0_1.length c0_1, .int .i64 a0_2, .int .i64 a0_3, .int .i64 a0_4], .slice A1 l1.length c1] rfl (by (try simp only [List.map_toArray, List.map_cons, List.map_nil]); first | done | rfl | (simp only [List.length_drop, List.length_take]; rfl)) ?_; (with_reducible refine (groups_Order.calls k _ _ l0_0 _ _ l0_1 a0_2 a0_3 a0_4 _ _ l1 t115 t118 _ ?side1 ?side2 ?side3 ?side4 ?side5 ?side6 A6.out).mono ?_); (case side1 => exact Kd.C_below HR0_0.out (by repeat (first | (with_reducible first | exact HB.out | apply below_alloc | apply pw_below_drewN | apply below_drew1 | refine below_set ?_ GE101.out | refine below_set ?_ GE114.out) | exact HB.out))); (case side2 => exact HC0_0.out); (case side3 => exact Kd.C_below HR0_1.out (by repeat (first | (with_reducible first | exact HB.out | apply below_alloc | apply pw_below_drewN | apply below_drew1 | refine below_set ?_ GE101.out | refine below_set ?_ GE114.out) | exact HB.out))); (case side4 => exact HC0_1.out); (case side5 => exact Kd.C_below HR1.out (by repeat (first | (with_reducible first | exact HB.out | apply below_alloc | apply pw_below_drewN | apply below_drew1 | refine below_set ?_ GE101.out | refine below_set ?_ GE114.out) | exact HB.out))); (case side6 => exact HC1.out); rintro e w98 ⟨v116, rfl, ho0, hb⟩; refine ⟨_, rfl, ?_⟩; have n0_ := Aside0.mk (Kd.S_below (by (with_reducible repeat (first | apply Kd.S_alloc | apply Kd.S_drewN | apply Kd.S_drew)); exact (Kd.S_mono (Kd.S_far (p := ⟨gb114, 4, none⟩) (Kd.S_far (p := ⟨gb114, 3, none⟩) (Kd.S_far (p := ⟨gb114, 2, none⟩) (Kd.S_far (p := ⟨gb114, 1, none⟩) (Kd.S_far (p := ⟨gb114, 0, none⟩) (Kd.S_types HO106.out BK114.out (by decide)) (fun _ hk => hk.2) (.slice Ao93 t104.length co93)) (fun _ hk => hk.2) (.slice Ao96 t107.length co96)) (fun _ hk => hk.2) (.int .i64 t110)) (fun _ hk => hk.2) (.int .i64 t111)) (fun _ hk => hk.2) (.int .i64 t112)) (fun _ h_ => h_.1))) hb); have n1_ := Aside0.mk (Kd.R_elder' (by (with_reducible repeat (first | apply Kd.R_alloc | apply Kd.R_drewN | apply Kd.R_drew)); exact (Kd.R_mono (Kd.R_far (p := ⟨gb114, 4, none⟩) (Kd.R_far (p := ⟨gb114, 3, none⟩) (Kd.R_far (p := ⟨gb114, 2, none⟩) (Kd.R_far (p := ⟨gb114, 1, none⟩) (Kd.R_far (p := ⟨gb114, 0, none⟩) (Kd.R_types HO109.out BK114.out (by decide)) (fun _ hk => hk.2) (.slice Ao93 t104.length co93)) (fun _ hk => hk.2) (.slice Ao96 t107.length co96)) (fun _ hk => hk.2) (.int .i64 t110)) (fun _ hk => hk.2) (.int .i64 t111)) (fun _ hk => hk.2) (.int .i64 t112)) (fun _ h_ => h_.1))) (Kd.R_base ho0) hb); have n2_ := Aside0.mk (Kd.R_lower (Kd.R_new' ho0 (Kd.R_lt (by (with_reducible repeat (first | apply Kd.R_alloc | apply Kd.R_drewN | apply Kd.R_drew)); exact (Kd.R_mono (Kd.R_far (p := ⟨gb114, 4, none⟩) (Kd.R_far (p := ⟨gb114, 3, none⟩) (Kd.R_far (p := ⟨gb114, 2, none⟩) (Kd.R_far (p := ⟨gb114, 1, none⟩) (Kd.R_far (p := ⟨gb114, 0, none⟩) (Kd.R_types HO109.out BK114.out (by decide)) (fun _ hk => hk.2) (.slice Ao93 t104.length co93)) (fun _ hk => hk.2) (.slice Ao96 t107.length co96)) (fun _ hk => hk.2) (.int .i64 t110)) (fun _ hk => hk.2) (.int .i64 t111)) (fun _ hk => hk.2) (.int .i64 t112)) (fun _ h_ => h_.1))))) (below_size (by repeat (first | (with_reducible first | exact HB.out | apply below_alloc | apply pw_below_drewN | apply below_drew1 | refine below_set ?_ GE101.out | refine below_set ?_ GE114.out) | exact HB.out)))); have n3_ := Aside0.mk (blk_below (g := gb101) (o := .cells #[.slice A0_0 l0_0.length c0_0, .slice A0_1 l0_1.length c0_1, .int .i64 a0_2, .int .i64 a0_3, .int .i64 a0_4] 25 (0, 0)) (by (with_reducible repeat (first | refine blk_drewN ?_ _ | refine blk_drew ?_ | refine blk_alloc ?_ _)); refine blk_far ?_ NB101_114.out _; (with_reducible repeat (first | refine blk_drewN ?_ _ | refine blk_drew ?_ | refine blk_alloc ?_ _)); refine blk_far ?_ NB101_114.out _; (with_reducible repeat (first | refine blk_drewN ?_ _ | refine blk_drew ?_ | refine blk_alloc ?_ _)); refine blk_far ?_ NB101_114.out _; (with_reducible repeat (first | refine blk_drewN ?_ _ | refine blk_drew ?_ | refine blk_alloc ?_ _)); refine blk_far ?_ NB101_114.out _; (with_reducible repeat (first | refine blk_drewN ?_ _ | refine blk_drew ?_ | refine blk_alloc ?_ _)); refine blk_far ?_ NB101_114.out _; (with_reducible repeat (first | refine blk_drewN ?_ _ | refine blk_drew ?_ | refine blk_alloc ?_ _)); exact BK101.out) hb); have n4_ := Aside0.mk (blk_below (g := gb114) (o := .cells #[.slice Ao93 t104.length co93, .slice Ao96 t107.length co96, .int .i64 t110, .int .i64 t111, .int .i64 t112] 25 (0, 0)) (by (with_reducible repeat (first | refine blk_drewN ?_ _ | refine blk_drew ?_ | refine blk_alloc ?_ _)); refine blk_put (cs := #[.slice Ao93 t104.length co93, .slice Ao96 t107.length co96, .int .i64 t110, .int .i64 t111, .int .i64 0]) ?_ 4 _ rfl; (with_reducible repeat (first | refine blk_drewN ?_ _ | refine blk_drew ?_ | refine blk_alloc ?_ _)); refine blk_put (cs := #[.slice Ao93 t104.length co93, .slice Ao96 t107.length co96, .int .i64 t110, .int .i64 0, .int .i64 0]) ?_ 3 _ rfl; (with_reducible repeat (first | refine blk_drewN ?_ _ | refine blk_drew ?_ | refine blk_alloc ?_ _)); refine blk_put (cs := #[.slice Ao93 t104.length co93, .slice Ao96 t107.length co96, .int .i64 0, .int .i64 0, .int .i64 0]) ?_ 2 _ rfl; (with_reducible repeat (first | refine blk_drewN ?_ _ | refine blk_drew ?_ | refine blk_alloc ?_ _)); refine blk_put (cs := #[.slice Ao93 t104.length co93, .slice none 0 0, .int .i64 0, .int .i64 0, .int .i64 0]) ?_ 1 _ rfl; (with_reducible repeat (first | refine blk_drewN ?_ _ | refine blk_drew ?_ | refine blk_alloc ?_ _)); refine blk_put (cs := #[.slice none 0 0, .slice none 0 0, .int .i64 0, .int .i64 0, .int .i64 0]) ?_ 0 _ rfl; (with_reducible repeat (first | refine blk_drewN ?_ _ | refine blk_drew ?_ | refine blk_alloc ?_ _)); exact BK114.out) hb); have n5_ := Aside0.mk (below_step (by repeat (first | (with_reducible first | exact HB.out | apply below_alloc | apply pw_below_drewN | apply below_drew1 | refine below_set ?_ GE101.out | refine below_set ?_ GE114.out) | exact HB.out)) hb); clear HO106; clear HO109; clear BK101; clear BK114; clear HB; have HO106 := n0_; have HO109 := n1_; have HO117 := n2_; have BK101 := n3_; have BK114 := n4_; have HB := n5_; clear n0_ n1_ n2_ n3_ n4_ n5_; (try clear hb); (try clear hb2); (try clear hk); (try clear hi); (try clear ho0)) | ((with_reducible refine gate_callee (f := 11) rfl ?_); refine goesL_ (some 36) rfl rfl Try.func11 (by kernel_rfl) rfl #[] rfl (by (try simp only [List.map_toArray, List.map_cons, List.map_nil]); first | done | rfl | (simp only [List.length_drop, List.length_take]; rfl)) ?_; (with_reducible refine (unicodetextlaw47_alive.calls k  t119 _ A86.out).mono ?_); rintro e w99 ⟨rfl, hb⟩; refine ⟨_, rfl, ?_⟩; have n0_ := Aside0.mk (Kd.S_below (by (with_reducible repeat (first | apply Kd.S_alloc | apply Kd.S_drewN | apply Kd.S_drew)); exact HO106.out) hb); have n1_ := Aside0.mk (Kd.R_below (by (with_reducible repeat (first | apply Kd.R_alloc | apply Kd.R_drewN | apply Kd.R_drew)); exact HO109.out) hb); have n2_ := Aside0.mk (Kd.R_below (by (with_reducible repeat (first | apply Kd.R_alloc | apply Kd.R_drewN | apply Kd.R_drew)); exact HO117.out) hb); have n3_ := Aside0.mk (blk_below (g := gb101) (o := .cells #[.slice A0_0 l0_0.length c0_0, .slice A0_1 l0_1.length c0_1, .int .i64 a0_2, .int .i64 a0_3, .int .i64 a0_4] 25 (0, 0)) (by (with_reducible repeat (first | refine blk_drewN ?_ _ | refine blk_drew ?_ | refine blk_alloc ?_ _)); exact BK101.out) hb); have n4_ := Aside0.mk (blk_below (g := gb114) (o := .cells #[.slice Ao93 t104.length co93, .slice Ao96 t107.length co96, .int .i64 t110, .int .i64 t111, .int .i64 t112] 25 (0, 0)) (by (with_reducible repeat (first | refine blk_drewN ?_ _ | refine blk_drew ?_ | refine blk_alloc ?_ _)); exact BK114.out) hb); have n5_ := Aside0.mk (below_step (by repeat (first | (with_reducible first | exact HB.out | apply below_alloc | apply pw_below_drewN | apply below_drew1 | refine below_set ?_ GE101.out | refine below_set ?_ GE114.out) | exact HB.out)) hb); clear HO106; clear HO109; clear HO117; clear BK101; clear BK114; clear HB; have HO106 := n0_; have HO109 := n1_; have HO117 := n2_; have BK101 := n3_; have BK114 := n4_; have HB := n5_; clear n0_ n1_ n2_ n3_ n4_ n5_; (try clear hb); (try clear hb2); (try clear hk); (try clear hi)))
    go_ret
    exact ⟨by first | rfl | (simp [errW_none, errW_some] <;> rfl) | (simp [*, errW_none, errW_some] <;> rfl), by repeat (first | (with_reducible first | exact HB.out | apply below_alloc | apply pw_below_drewN | apply below_drew1 | refine below_set ?_ GE101.out | refine below_set ?_ GE114.out) | exact HB.out)⟩
  ·rw [if_neg c7] at H
   exact absurd H (by simp)
 ·replace c4 := Bool.eq_false_iff.mpr c4
  subst c4
  have H1 : ((unicodetextlaw47_alive.f k).bind fun t103 => (some t103)) = some r := by rw [if_neg (show ¬ (false = true) by decide)] at H; exact H
  clear H
  have H := H1
  clear H1
  replace H := Option.bind_eq_some_iff.mp H
  obtain ⟨t103, A1120, H⟩ := H
  replace H : (some t103) = some r := H
  have A112 := Aside0.mk A1120
  clear A1120
  obtain rfl := Option.some.inj H
  go_enter Try.func9, Try.ntmps9
  go_wp2_with (first | ((with_reducible refine gate_dst (N := 2) rfl ?_); refine box_event ?hg (N := 2) ?hd (cs := #[.slice A0_0 l0_0.length c0_0, .slice A0_1 l0_1.length c0_1, .int .i64 a0_2, .int .i64 a0_3, .int .i64 a0_4]) (t := 25) ?hr ?_; (case hd => rfl); (case hg => rfl); (case hr => first | (go_simp; done) | (go_simp; rfl)); intro gb101 hg w113 hbox hb; have n0_ := Aside0.mk (below_step (by repeat (first | (with_reducible first | exact HB.out | apply below_alloc | apply pw_below_drewN | apply below_drew1) | exact HB.out)) hb); have n1_ := Aside0.mk (hbox); have n2_ := Aside0.mk ((by rw [hg]; exact (below_size (by repeat (first | (with_reducible first | exact HB.out | apply below_alloc | apply pw_below_drewN | apply below_drew1) | exact HB.out))) : w.heap.size ≤ gb101)); have n3_ := Aside0.mk ((by rw [hg]; exact (below_size (by repeat (first | (with_reducible first | exact HB.out | apply below_alloc | apply pw_below_drewN | apply below_drew1) | exact HB.out))) : w.heap.size ≤ gb101)); clear HB; have HB := n0_; have BK101 := n1_; have GW101 := n2_; have GE101 := n3_; clear n0_ n1_ n2_ n3_; clear hb hbox hg; have hcz114_0 : w113.cell? ⟨gb101, 0, none⟩ = some (.slice A0_0 l0_0.length c0_0) := (blk_cell BK101.out 0).trans rfl; have hcz114_1 : w113.cell? ⟨gb101, 1, none⟩ = some (.slice A0_1 l0_1.length c0_1) := (blk_cell BK101.out 1).trans rfl; have hcz114_2 : w113.cell? ⟨gb101, 2, none⟩ = some (.int .i64 a0_2) := (blk_cell BK101.out 2).trans rfl; have hcz114_3 : w113.cell? ⟨gb101, 3, none⟩ = some (.int .i64 a0_3) := (blk_cell BK101.out 3).trans rfl; have hcz114_4 : w113.cell? ⟨gb101, 4, none⟩ = some (.int .i64 a0_4) := (blk_cell BK101.out 4).trans rfl; have hfz114_0 := blk_frozen BK101.out 0; have hfz114_1 := blk_frozen BK101.out 1; have hfz114_2 := blk_frozen BK101.out 2; have hfz114_3 := blk_frozen BK101.out 3; have hfz114_4 := blk_frozen BK101.out 4) | ((with_reducible refine gate_callee (f := 10) rfl ?_); refine goesL_ (some 16) rfl rfl Try.func10 (by kernel_rfl) rfl #[.agg #[.slice A0_0 l0_0.length c0_0, .slice A0_1 l0_1.length c0_1, .int .i64 a0_2, .int .i64 a0_3, .int .i64 a0_4], .slice A1 l1.length c1] rfl (by (try simp only [List.map_toArray, List.map_cons, List.map_nil]); first | done | rfl | (simp only [List.length_drop, List.length_take]; rfl)) ?_; (with_reducible refine (unicodetextlaw47_few.calls k _ _ l0_0 _ _ l0_1 a0_2 a0_3 a0_4 _ _ l1 false _ ?side1 ?side2 ?side3 ?side4 ?side5 ?side6 A3.out).mono ?_); (case side1 => repeat (first | exact (Kd.C_below HR0_0.out HB.out) | (with_reducible refine Kd.C_alloc ?_ _) | (with_reducible refine Kd.C_drewN ?_ _) | (with_reducible refine Kd.C_drew ?_))); (case side2 => exact HC0_0.out); (case side3 => repeat (first | exact (Kd.C_below HR0_1.out HB.out) | (with_reducible refine Kd.C_alloc ?_ _) | (with_reducible refine Kd.C_drewN ?_ _) | (with_reducible refine Kd.C_drew ?_))); (case side4 => exact HC0_1.out); (case side5 => repeat (first | exact (Kd.C_below HR1.out HB.out) | (with_reducible refine Kd.C_alloc ?_ _) | (with_reducible refine Kd.C_drewN ?_ _) | (with_reducible refine Kd.C_drew ?_))); (case side6 => exact HC1.out); rintro e w115 ⟨rfl, hb⟩; refine ⟨_, rfl, ?_⟩; have n0_ := Aside0.mk (blk_below (g := gb101) (o := .cells #[.slice A0_0 l0_0.length c0_0, .slice A0_1 l0_1.length c0_1, .int .i64 a0_2, .int .i64 a0_3, .int .i64 a0_4] 25 (0, 0)) (by (with_reducible repeat (first | refine blk_drewN ?_ _ | refine blk_drew ?_ | refine blk_alloc ?_ _)); exact BK101.out) hb); have n1_ := Aside0.mk (below_step (by repeat (first | (with_reducible first | exact HB.out | apply below_alloc | apply pw_below_drewN | apply below_drew1 | refine below_set ?_ GE101.out) | exact HB.out)) hb); clear BK101; clear HB; have BK101 := n0_; have HB := n1_; clear n0_ n1_; (try clear hb); (try clear hb2); (try clear hk); (try clear hi)) | ((with_reducible refine gate_callee (f := 11) rfl ?_); refine goesL_ (some 18) rfl rfl Try.func11 (by kernel_rfl) rfl #[] rfl (by (try simp only [List.map_toArray, List.map_cons, List.map_nil]); first | done | rfl | (simp only [List.length_drop, List.length_take]; rfl)) ?_; (with_reducible refine (unicodetextlaw47_alive.calls k  t103 _ A112.out).mono ?_); rintro e w116 ⟨rfl, hb⟩; refine ⟨_, rfl, ?_⟩; have n0_ := Aside0.mk (blk_below (g := gb101) (o := .cells #[.slice A0_0 l0_0.length c0_0, .slice A0_1 l0_1.length c0_1, .int .i64 a0_2, .int .i64 a0_3, .int .i64 a0_4] 25 (0, 0)) (by (with_reducible repeat (first | refine blk_drewN ?_ _ | refine blk_drew ?_ | refine blk_alloc ?_ _)); exact BK101.out) hb); have n1_ := Aside0.mk (below_step (by repeat (first | (with_reducible first | exact HB.out | apply below_alloc | apply pw_below_drewN | apply below_drew1 | refine below_set ?_ GE101.out) | exact HB.out)) hb); clear BK101; clear HB; have BK101 := n0_; have HB := n1_; clear n0_ n1_; (try clear hb); (try clear hb2); (try clear hk); (try clear hi)))
  go_ret
  exact ⟨by first | rfl | (simp [errW_none, errW_some] <;> rfl) | (simp [*, errW_none, errW_some] <;> rfl), by repeat (first | (with_reducible first | exact HB.out | apply below_alloc | apply pw_below_drewN | apply below_drew1 | refine below_set ?_ GE101.out) | exact HB.out)⟩
end Go.Proofs.Ytfcpebjjcijgcaa.G
-- by hand: lemmas
namespace Go.Proofs.Ytfcpebjjcijgcaa.G
open Go.RowKit Go.Proofs.YtfcpebjjcijgcaaW.PrintWords Go.Proofs.YtfcpebjjcijgcaaW.PrintLast Go.Proofs.YtfcpebjjcijgcaaW.PrintMore
attribute [local go_sem] max2_int min2_int max_two min_two max_three min_three max_four min_four   -- for this text's walks alone
set_option linter.unusedVariables false
set_option linter.unusedSimpArgs false
/-! What a reading of an argument says of its cells -/
theorem skolem_list {α : Type} {Q : Nat → α → Prop} : ∀ n, (∀ i, i < n → ∃ x, Q i x) → ∃ xs : List α, xs.length = n ∧ ∀ i x, xs[i]? = some x → Q i x
  | 0, _ => ⟨[], rfl, fun i x h => by simp at h⟩
  | n + 1, h => by
    obtain ⟨xs, hl, hx⟩ := skolem_list n fun i hi => h i (by omega)
    obtain ⟨y, hy⟩ := h n (by omega)
    refine ⟨xs ++ [y], by simp [hl], fun i x hi => ?_⟩
    by_cases hlt : i < xs.length
    · rw [List.getElem?_append_left hlt] at hi
      exact hx i x hi
    · rw [List.getElem?_append_right (by omega)] at hi
      obtain ⟨h0, _⟩ := List.getElem?_eq_some_iff.1 hi
      have h0 : i - xs.length < 1 := h0
      have e : i = n := by omega
      subst e
      rw [hl, Nat.sub_self] at hi
      obtain rfl := Option.some.inj hi
      exact hy
section
variable {H : Type} {enc : TypeId × Value → H} {P : Program} {w : World} {sp : Nat → Bool} {held : Bool}
/-- Cells of a type read as something of the kind d. -/
def Opens {α : Type} (enc : TypeId × Value → H) (P : Program) (w : World) (sp : Nat → Bool) (held : Bool) (t : TypeId) (d : Kd α) (Good : α → Prop) : Prop :=
  ∀ fuel cs y, DataW.trod enc P w 0 sp held fuel t cs = some y → ∃ x, d.K w x cs ∧ Good x
theorem opens_int {t : TypeId} {k : IntKind} (ht : P.underlying t = some (.int k)) : Opens enc P w sp held t (Kd.int k) (fun n => (Lit.int k n).wf = true) := fun fuel cs y h => by
  obtain ⟨n, rfl, _, hw⟩ := DataW.trod_int ht h
  exact ⟨n, rfl, hw⟩
theorem opens_string {t : TypeId} (ht : P.underlying t = some .string) : Opens enc P w sp held t Kd.string (fun s => s.size ≤ 9223372036854775807) := fun fuel cs y h => by
  obtain ⟨s, rfl, _, hw⟩ := DataW.trod_string ht h
  exact ⟨s, rfl, hw⟩
theorem opens_bool {t : TypeId} (ht : P.underlying t = some .bool) : Opens enc P w sp held t Kd.bool (fun _ => True) := fun fuel cs y h => by
  obtain ⟨b, rfl, _⟩ := DataW.trod_bool ht h
  exact ⟨b, rfl, trivial⟩
theorem opens_rows {α : Type} {d : Kd α} {Good : α → Prop} {t e : TypeId} (ht : P.underlying t = some (.slice e)) (hc : P.cellsOf e = d.sz) (he : Opens enc P w sp held e d Good) {fuel : Nat} {cs : List Value} {y : DataW H × List MemPlace} (h : DataW.trod enc P w 0 sp held fuel t cs = some y) :
    ∃ A cap, ∃ xs : List α, cs = [.slice A xs.length cap] ∧ xs.length ≤ cap ∧ d.C w A xs.length xs ∧ ∀ x, x ∈ xs → Good x := by
  rcases DataW.trod_slice ht h with ⟨rfl, _⟩ | ⟨a, len, cap, elems, rest, n, _, rfl, rfl, hb, hl, hm, hlen, hel, _, _⟩
  · exact ⟨none, 0, [], rfl, Nat.le_refl _, Kd.C_nil d w, fun x hx => by cases hx⟩
  · obtain ⟨xs, hxl, hx⟩ := skolem_list (α := α) (Q := fun i x => (∃ c, c.length = d.sz ∧ d.K w x c ∧ ∀ j u, c[j]? = some u → w.cell? (a.add (i * d.sz + j)) = some u) ∧ Good x) len (fun i hi => by
      have h1 := hel i hi
      rw [List.getElem?_eq_getElem (by omega), Option.bind_eq_some_iff] at h1
      obtain ⟨c, h2, h3⟩ := h1
      obtain ⟨x, hK, hg⟩ := he _ _ _ h3
      obtain ⟨_, hcl, hcc⟩ := World.cells?_some h2
      refine ⟨x, ⟨c, by omega, hK, fun j u hu => ?_⟩, hg⟩
      obtain ⟨hj, _⟩ := List.getElem?_eq_some_iff.1 hu
      have := hcc j (by omega)
      rw [hu, hc] at this
      rw [← this, Addr.add_add])
    subst hxl
    refine ⟨some a, cap, xs, rfl, hl, ⟨rfl, by unfold maxLen at hm; omega, fun _ => ⟨a, rfl, fun j p hp => (hx j p hp).1⟩⟩, fun x hxm => ?_⟩
    obtain ⟨i, hi⟩ := List.getElem?_of_mem hxm
    exact (hx i x hi).2
theorem opens_slice {α : Type} {d : Kd α} {Good : α → Prop} {t e : TypeId} (ht : P.underlying t = some (.slice e)) (hc : P.cellsOf e = d.sz) (he : Opens enc P w sp held e d Good) : Opens enc P w sp held t (Kd.slice e d) (fun xs => ∀ x, x ∈ xs → Good x) := fun fuel cs y h => by
  obtain ⟨A, cap, xs, rfl, h1, h2, h3⟩ := opens_rows ht hc he h
  exact ⟨xs, ⟨A, cap, rfl, h1, h2⟩, h3⟩
/-- The part of a field. -/
theorem field_at {t : TypeId} {fs : Array Field} {fuel : Nat} {cs : List Value} {y : DataW H × List MemPlace} (ht : P.underlying t = some (.struct fs)) (h : DataW.trod enc P w 0 sp held fuel t cs = some y) :
    cs.length = P.cellsOf t ∧ ∀ (i : Nat) (f : Field), fs[i]? = some f → ∀ {α : Type} {d : Kd α} {Good : α → Prop}, Opens enc P w sp held f.type d Good → ∃ x, d.K w x ((cs.drop f.offset).take (P.cellsOf f.type)) ∧ Good x := by
  obtain ⟨xs, n, rfl, _, hl, hxl, hx⟩ := DataW.trod_struct ht h
  refine ⟨hl, fun i f hf α d Good hO => ?_⟩
  have h1 := hx i f hf
  have hi : i < fs.size := (Array.getElem?_eq_some_iff.1 hf).1
  rw [List.getElem?_eq_getElem (by omega)] at h1
  exact hO _ _ _ h1
end
section
variable {H : Type} {enc : TypeId × Value → H} {w : World} {sp : Nat → Bool} {held : Bool}
theorem opens_group : Opens enc Try.prog w sp held 36 k36 (fun g => g.f0.size ≤ 9223372036854775807) := fun fuel cs y h => by
  obtain ⟨hl, hf⟩ := field_at Try.underlying36 h
  have hl : cs.length = 3 := hl
  obtain ⟨s, h0, g0⟩ := hf 0 _ rfl (opens_string Try.underlying9)
  obtain ⟨a, h1, _⟩ := hf 1 _ rfl (opens_int Try.underlying3)
  obtain ⟨b, h2, _⟩ := hf 2 _ rfl (opens_int Try.underlying3)
  match cs, hl with
  | [c0, c1, c2], _ =>
    have h0 : [c0] = [.string s] := h0
    have h1 : [c1] = [.int .i64 a] := h1
    have h2 : [c2] = [.int .i64 b] := h2
    obtain ⟨rfl, _⟩ := List.cons.inj h0
    obtain ⟨rfl, _⟩ := List.cons.inj h1
    obtain ⟨rfl, _⟩ := List.cons.inj h2
    exact ⟨⟨s, a, b⟩, k36_mk w ⟨s, a, b⟩, g0⟩
theorem opens_element : Opens enc Try.prog w sp held 51 k51 (fun _ => True) := fun fuel cs y h => by
  obtain ⟨hl, hf⟩ := field_at Try.underlying51 h
  have hl : cs.length = 4 := hl
  obtain ⟨a, h0, _⟩ := hf 0 _ rfl (opens_int Try.underlying3)
  obtain ⟨b, h1, _⟩ := hf 1 _ rfl (opens_int Try.underlying3)
  obtain ⟨c, h2, _⟩ := hf 2 _ rfl (opens_int Try.underlying3)
  obtain ⟨v, h3, _⟩ := hf 3 _ rfl (opens_bool Try.underlying4)
  match cs, hl with
  | [c0, c1, c2, c3], _ =>
    have h0 : [c0] = [.int .i64 a] := h0
    have h1 : [c1] = [.int .i64 b] := h1
    have h2 : [c2] = [.int .i64 c] := h2
    have h3 : [c3] = [.bool v] := h3
    obtain ⟨rfl, _⟩ := List.cons.inj h0
    obtain ⟨rfl, _⟩ := List.cons.inj h1
    obtain ⟨rfl, _⟩ := List.cons.inj h2
    obtain ⟨rfl, _⟩ := List.cons.inj h3
    exact ⟨⟨a, b, c, v⟩, k51_mk w ⟨a, b, c, v⟩, trivial⟩
theorem opens_entry : Opens enc Try.prog w sp held 49 k49 (fun _ => True) := fun fuel cs y h => by
  obtain ⟨hl, hf⟩ := field_at Try.underlying49 h
  have hl : cs.length = 2 := hl
  obtain ⟨xs, h0, _⟩ := hf 0 _ rfl (opens_slice Try.underlying46 (by kernel_rfl) (opens_int Try.underlying3))
  obtain ⟨es, h1, _⟩ := hf 1 _ rfl (opens_slice Try.underlying47 (by kernel_rfl) opens_element)
  match cs, hl with
  | [c0, c1], _ =>
    obtain ⟨A0, p0, e0, l0, g0⟩ := h0
    obtain ⟨A1, p1, e1, l1, g1⟩ := h1
    have e0 : [c0] = [.slice A0 xs.length p0] := e0
    have e1 : [c1] = [.slice A1 es.length p1] := e1
    obtain ⟨rfl, _⟩ := List.cons.inj e0
    obtain ⟨rfl, _⟩ := List.cons.inj e1
    exact ⟨⟨xs, es⟩, k49_mk w ⟨xs, es⟩ l0 g0 l1 g1, trivial⟩
/-- A collation that came in. -/
theorem opens_coll {fuel : Nat} {cs : List Value} {y : DataW H × List MemPlace} (h : DataW.trod enc Try.prog w 0 sp held fuel 25 cs = some y) :
    ∃ A0 c0, ∃ E : List S49, ∃ A1 c1, ∃ G : List S36, ∃ b2 b3 b4 : Int, cs = [.slice A0 E.length c0, .slice A1 G.length c1, .int .i64 b2, .int .i64 b3, .int .i64 b4] ∧ E.length ≤ c0 ∧ Kd.C k49 w A0 E.length E ∧ G.length ≤ c1 ∧ Kd.C k36 w A1 G.length G ∧ ∀ g, g ∈ G → g.f0.size ≤ 9223372036854775807 := by
  obtain ⟨hl, hf⟩ := field_at Try.underlying25 h
  have hl : cs.length = 5 := hl
  obtain ⟨E, h0, _⟩ := hf 0 _ rfl (opens_slice Try.underlying22 (by kernel_rfl) opens_entry)
  obtain ⟨G, h1, hg⟩ := hf 1 _ rfl (opens_slice Try.underlying23 (by kernel_rfl) opens_group)
  obtain ⟨b2, h2, _⟩ := hf 2 _ rfl (opens_int Try.underlying3)
  obtain ⟨b3, h3, _⟩ := hf 3 _ rfl (opens_int Try.underlying3)
  obtain ⟨b4, h4, _⟩ := hf 4 _ rfl (opens_int Try.underlying3)
  match cs, hl with
  | [d0, d1, d2, d3, d4], _ =>
    obtain ⟨A0, p0, e0, l0, g0⟩ := h0
    obtain ⟨A1, p1, e1, l1, g1⟩ := h1
    have e0 : [d0] = [.slice A0 E.length p0] := e0
    have e1 : [d1] = [.slice A1 G.length p1] := e1
    have h2 : [d2] = [.int .i64 b2] := h2
    have h3 : [d3] = [.int .i64 b3] := h3
    have h4 : [d4] = [.int .i64 b4] := h4
    obtain ⟨rfl, _⟩ := List.cons.inj e0
    obtain ⟨rfl, _⟩ := List.cons.inj e1
    obtain ⟨rfl, _⟩ := List.cons.inj h2
    obtain ⟨rfl, _⟩ := List.cons.inj h3
    obtain ⟨rfl, _⟩ := List.cons.inj h4
    exact ⟨A0, p0, E, A1, p1, G, b2, b3, b4, rfl, l0, g0, l1, g1, hg⟩
/-- Names that came in. -/
theorem opens_names {fuel : Nat} {cs : List Value} {y : DataW H × List MemPlace} (h : DataW.trod enc Try.prog w 0 sp held fuel 26 cs = some y) :
    ∃ A c, ∃ l : List ByteArray, cs = [.slice A l.length c] ∧ l.length ≤ c ∧ Kd.C Kd.string w A l.length l ∧ ∀ s, s ∈ l → s.size ≤ 9223372036854775807 :=
  opens_rows Try.underlying26 (by kernel_rfl) (opens_string Try.underlying9) h
end
end Go.Proofs.Ytfcpebjjcijgcaa.G
-- by hand: lemmas
namespace Go.Proofs.Ytfcpebjjcijgcaa.G
open Go.RowKit Go.Proofs.YtfcpebjjcijgcaaW.PrintWords Go.Proofs.YtfcpebjjcijgcaaW.PrintLast Go.Proofs.YtfcpebjjcijgcaaW.PrintMore
attribute [local go_sem] max2_int min2_int max_two min_two max_three min_three max_four min_four   -- for this text's walks alone
set_option linter.unusedVariables false
set_option linter.unusedSimpArgs false
/-! The whole check, twice -/
section
variable (E : List S49) (G : List S36) (base b3 b4 : Int) (cs : List Int) (es : List S51) (x : Int)
end
/-- The entry before entry i. -/
def prevOf (l : List S49) (i : Nat) : Option S49 := if i = 0 then none else l[i - 1]?
/-- The first error of entries behind p. -/
def entErrs (base : Int) : Option S49 → List S49 → Int
  | _, [] => 0
  | p, e :: l => if enErr base e.f0 e.f1 ≠ 0 then enErr base e.f0 e.f1 else match p with
    | some q => if 0 ≤ cmpL q.f0 e.f0 then 4 else entErrs base (some e) l
    | none => entErrs base (some e) l
/-- The first error of a collation. -/
def chk (E : List S49) (G : List S36) (base b3 b4 : Int) : Int :=
  if base < 1 ∨ 65502 < base ∨ b3 < 1 ∨ 65535 < b3 ∨ b4 < 1 ∨ 65535 < b4 then 1 else if grErr G base = 0 then entErrs base none E else grErr G base
/-- Nothing of the entries is longer than any machine bears. -/
def eFits (E : List S49) : Prop := E.length ≤ 1099511627776 ∧ ∀ e, e ∈ E → e.f0.length ≤ 1099511627776 ∧ e.f1.length ≤ 1099511627776
theorem prevOf_succ {l : List S49} {i : Nat} (h : i < l.length) : prevOf l (i + 1) = some l[i] := by
  unfold prevOf
  rw [if_neg (by omega), Nat.add_sub_cancel, List.getElem?_eq_getElem h]
section
variable (E : List S49) (G : List S36) (base b3 b4 : Int) (hE : eFits E)
include hE
theorem cchk_loop : ∀ (d i : Nat), E.length - i = d → Ev (fun k => colltable_Check.l0 k E (E.length : Int) (i : Int) E G base b3 b4) (entErrs base (prevOf E i) (E.drop i)) := by
  have hl := hE.1
  intro d
  induction d with
  | zero =>
    intro i hd
    rw [List.drop_of_length_le (by omega)]
    refine Ev.step (f := fun _ => some 0) (fun k => ?_) (by unfold entErrs; exact Ev.now _)
    simp only [colltable_Check.l0]
    rw [if_neg (by omega)]
  | succ d ih =>
    intro i hd
    have hi : i < E.length := by omega
    rw [List.drop_eq_getElem_cons hi]
    have hn := ih (i + 1) (by omega)
    rw [prevOf_succ hi] at hn
    unfold entErrs
    by_cases he : enErr base E[i].f0 E[i].f1 = 0
    · rw [if_neg (by rw [he]; simp)]
      cases i with
      | zero =>
        have hp : prevOf E 0 = none := rfl
        rw [hp]
        refine Ev.step (f := fun k => colltable_Check.l0 k E (E.length : Int) ((0 + 1 : Nat) : Int) E G base b3 b4) (fun k => ?_) hn
        simp only [colltable_Check.l0]
        rw [rdT49 hi, if_pos (by omega), if_pos (by omega), if_pos (by omega), wrap_nat (by omega)]
        simp only [colltable_ofEntry.f, Option.bind_some]
        rw [if_pos he, if_neg (by omega)]
      | succ j =>
        have hj : j < E.length := by omega
        rw [prevOf_succ hj]
        by_cases hc : 0 ≤ cmpL E[j].f0 E[j + 1].f0
        · simp only [if_pos hc]
          refine Ev.step (f := fun _ => some 4) (fun k => ?_) (Ev.now _)
          simp only [colltable_Check.l0]
          rw [rdT49 hi, if_pos (by omega), if_pos (by omega), if_pos (by omega), wrap_pred (by omega), rdT49 hj]
          simp only [colltable_ofEntry.f, codepoint_Compare.f, Option.bind_some]
          rw [if_pos he, if_pos (by omega), if_pos (by omega), if_pos (by omega), if_pos hc]
        · simp only [if_neg hc]
          refine Ev.step (f := fun k => colltable_Check.l0 k E (E.length : Int) ((j + 1 + 1 : Nat) : Int) E G base b3 b4) (fun k => ?_) hn
          simp only [colltable_Check.l0]
          rw [rdT49 hi, if_pos (by omega), if_pos (by omega), if_pos (by omega), wrap_pred (by omega), rdT49 hj, wrap_nat (by omega)]
          simp only [colltable_ofEntry.f, codepoint_Compare.f, Option.bind_some]
          rw [if_pos he, if_pos (by omega), if_pos (by omega), if_pos (by omega), if_neg hc]
    · rw [if_pos he]
      refine Ev.step (f := fun _ => some (enErr base E[i].f0 E[i].f1)) (fun k => ?_) (Ev.now _)
      simp only [colltable_Check.l0]
      rw [rdT49 hi, if_pos (by omega), if_pos (by omega), if_pos (by omega)]
      simp only [colltable_ofEntry.f, Option.bind_some]
      rw [if_neg he]
theorem cchk_ev (hG : fits G = true) : Ev (fun k => colltable_Check.f k E G base b3 b4) (chk E G base b3 b4) := by
  have h0 : ∀ k, colltable_Check.f k E G base b3 b4 = colltable_Check.j0 k (decide (base < 1 ∨ 65502 < base ∨ b3 < 1 ∨ 65535 < b3 ∨ b4 < 1 ∨ 65535 < b4)) E G base b3 b4 := fun k => by
    unfold colltable_Check.f
    repeat' split
    all_goals first | (rw [decide_eq_true (by omega)]; done) | (congr 1; rw [Bool.eq_iff_iff, decide_eq_true_iff, decide_eq_true_iff]; omega)
  refine Ev.congr h0 ?_
  unfold chk
  by_cases hb : base < 1 ∨ 65502 < base ∨ b3 < 1 ∨ 65535 < b3 ∨ b4 < 1 ∨ 65535 < b4
  · rw [decide_eq_true hb, if_pos hb]
    refine Ev.step (f := fun _ => some 1) (fun k => ?_) (Ev.now _)
    simp only [colltable_Check.j0, if_true]
  · rw [decide_eq_false hb, if_neg hb]
    have hg : colltable_ofGroups.f E G base b3 b4 = some (grErr G base) := by
      unfold colltable_ofGroups.f
      rw [if_pos hG]
    by_cases hz : grErr G base = 0
    · rw [if_pos hz]
      refine Ev.step (f := fun k => colltable_Check.l0 k E (E.length : Int) ((0 : Nat) : Int) E G base b3 b4) (fun k => ?_) (cchk_loop E G base b3 b4 hE _ 0 rfl)
      simp only [colltable_Check.j0, Bool.false_eq_true, if_false]
      rw [hg, Option.bind_some, if_pos hz]
      rfl
    · rw [if_neg hz]
      refine Ev.step (f := fun _ => some (grErr G base)) (fun k => ?_) (Ev.now _)
      simp only [colltable_Check.j0, Bool.false_eq_true, if_false]
      rw [hg, Option.bind_some, if_neg hz]
end
/-! small collations -/
def smallP (E : List S49) (G : List S36) : Bool := decide (E.length ≤ 12) && decide (G.length ≤ 8) && E.all fun e => decide (e.f0.length ≤ 10) && decide (e.f1.length ≤ 20)
theorem small_ev (E : List S49) (G : List S36) (base b3 b4 : Int) : Ev (fun k => unicodetextref43_Small.f k E G base b3 b4) (smallP E G) := by
  have h0 : ∀ k, unicodetextref43_Small.f k E G base b3 b4 = unicodetextref43_Small.j0 k (!(decide (E.length ≤ 12) && decide (G.length ≤ 8))) E G base b3 b4 := fun k => by
    unfold unicodetextref43_Small.f
    by_cases h1 : E.length ≤ 12
    · rw [if_neg (by omega), decide_eq_true h1, Bool.true_and]
      congr 1
      rw [Bool.eq_iff_iff, decide_eq_true_iff, Bool.not_eq_true', decide_eq_false_iff_not]
      omega
    · rw [if_pos (by omega), decide_eq_false h1]
      rfl
  refine Ev.congr h0 ?_
  unfold smallP
  by_cases h : E.length ≤ 12 ∧ G.length ≤ 8
  · obtain ⟨h1, h2⟩ := h
    rw [decide_eq_true h1, decide_eq_true h2]
    have loop : ∀ (d i : Nat), E.length - i = d → Ev (fun k => unicodetextref43_Small.l0 k (i : Int) E G base b3 b4) ((E.drop i).all fun e => decide (e.f0.length ≤ 10) && decide (e.f1.length ≤ 20)) := by
      intro d
      induction d with
      | zero =>
        intro i hd
        rw [List.drop_of_length_le (by omega)]
        refine Ev.step (f := fun _ => some true) (fun k => ?_) (Ev.now _)
        simp only [unicodetextref43_Small.l0]
        rw [if_neg (by omega)]
      | succ d ih =>
        intro i hd
        have hi : i < E.length := by omega
        rw [List.drop_eq_getElem_cons hi, List.all_cons]
        by_cases ha : E[i].f0.length ≤ 10 ∧ E[i].f1.length ≤ 20
        · rw [decide_eq_true ha.1, decide_eq_true ha.2]
          refine Ev.step (f := fun k => unicodetextref43_Small.l0 k ((i + 1 : Nat) : Int) E G base b3 b4) (fun k => ?_) (by simpa using ih (i + 1) (by omega))
          simp only [unicodetextref43_Small.l0]
          rw [rdT49 hi, if_pos (by omega), if_pos (by omega), if_neg (by omega), if_neg (by omega), wrap_nat (by omega)]
        · rw [show (decide (E[i].f0.length ≤ 10) && decide (E[i].f1.length ≤ 20)) = false by rw [← Bool.decide_and]; exact decide_eq_false ha, Bool.false_and]
          refine Ev.step (f := fun _ => some false) (fun k => ?_) (Ev.now _)
          simp only [unicodetextref43_Small.l0]
          rw [rdT49 hi, if_pos (by omega), if_pos (by omega)]
          repeat' split
          all_goals first | rfl | (exfalso; omega)
    have := loop _ 0 rfl
    rw [List.drop_zero] at this
    refine Ev.step (f := fun k => unicodetextref43_Small.l0 k ((0 : Nat) : Int) E G base b3 b4) (fun k => ?_) (by simpa using this)
    simp only [unicodetextref43_Small.j0, Bool.and_self, Bool.not_true, Bool.false_eq_true, if_false]
    rfl
  · rw [show (decide (E.length ≤ 12) && decide (G.length ≤ 8)) = false by rw [← Bool.decide_and]; exact decide_eq_false h]
    refine Ev.step (f := fun _ => some false) (fun k => ?_) (Ev.now _)
    simp only [unicodetextref43_Small.j0, Bool.not_false, if_true]
theorem small_fits {E : List S49} {G : List S36} (h : smallP E G = true) : eFits E ∧ G.length ≤ 8 := by
  simp only [smallP, Bool.and_eq_true, List.all_eq_true, decide_eq_true_eq] at h
  refine ⟨⟨by omega, fun e he => ?_⟩, h.1.2⟩
  have := h.2 e he
  omega
theorem few_ev (E : List S49) (G : List S36) (base b3 b4 : Int) (names : List ByteArray) : Ev (fun k => unicodetextlaw47_few.f k E G base b3 b4 names) (smallP E G && decide (names.length ≤ 12)) := by
  refine Ev.bind (small_ev E G base b3 b4) ?_
  by_cases h : smallP E G = true
  · simp only [h, if_true, Bool.true_and]
    rw [show decide (names.length ≤ 12) = decide ((names.length : Int) ≤ 12) by rw [Bool.eq_iff_iff, decide_eq_true_iff, decide_eq_true_iff]; omega]
    exact Ev.now _
  · simp only [Bool.eq_false_iff.2 h, Bool.false_eq_true, if_false, Bool.false_and]
    exact Ev.now _
end Go.Proofs.Ytfcpebjjcijgcaa.G
-- by hand: lemmas
namespace Go.Proofs.Ytfcpebjjcijgcaa.G
open Go.RowKit Go.Proofs.YtfcpebjjcijgcaaW.PrintWords Go.Proofs.YtfcpebjjcijgcaaW.PrintLast Go.Proofs.YtfcpebjjcijgcaaW.PrintMore
attribute [local go_sem] max2_int min2_int max_two min_two max_three min_three max_four min_four   -- for this text's walks alone
set_option linter.unusedVariables false
set_option linter.unusedSimpArgs false
/-! The plain answer of the document's Order -/
/-- Where a name stands, or -1. -/
def posI (l : List S36) (s : ByteArray) : Int := if memB s (nms l) = true then ((nms l).findIdx fun t => decide (t = s) : Nat) else -1
/-- The group of a name. -/
theorem posI_get {l : List S36} {s : ByteArray} (h : memB s (nms l) = true) : ∃ j : Nat, ∃ hj : j < l.length, posI l s = (j : Int) ∧ l[j].f0 = s ∧ ∀ i (hi : i < j), l[i].f0 ≠ s := by
  have hlt : ((nms l).findIdx fun t => decide (t = s)) < (nms l).length := List.findIdx_lt_length_of_exists ⟨s, memB_iff.1 h, decide_eq_true rfl⟩
  have hlen : (nms l).length = l.length := by simp [nms]
  refine ⟨(nms l).findIdx fun t => decide (t = s), by omega, by unfold posI; rw [if_pos h], ?_, fun i hi e => ?_⟩
  · have := List.findIdx_getElem (w := hlt)
    have := of_decide_eq_true this
    simpa [nms] using this
  · have := List.not_of_lt_findIdx hi
    have e2 : (nms l)[i]'(by omega) = s := by simpa [nms] using e
    rw [decide_eq_true e2] at this
    cases this
/-- The group of a name (the last part of what the document builds). -/
def gOf (l : List S36) (s : ByteArray) : S36 := rd_T36 l (posI l s)
/-- What the document builds ahead of numbering. -/
def refRow (l : List S36) (names : List ByteArray) : List S36 := names.map (gOf l) ++ l.filter fun g => !memB g.f0 names
section
variable (E : List S49) (G : List S36) (base b3 b4 : Int) (names : List ByteArray) (hG : fits G = true) (hn : names.length ≤ 1099511627776)
end
section
variable (E : List S49) (G : List S36) (base b3 b4 : Int) (names : List ByteArray) (hn : names.length ≤ 1099511627776)
include hn
end
section
variable (E : List S49) (G : List S36) (base b3 b4 : Int) (names : List ByteArray) (hG : fits G = true) (hn : names.length ≤ 1099511627776)
include hG hn
end
/-- The document's order, when nothing is wrong. -/
def rordP (l : List S36) (names : List ByteArray) : List S36 × Int :=
  if names.any (fun s => !memB s (nms l)) = true then ([], 6) else if names.Nodup then (renum (rd_T36 l 0).f1 (refRow l names), 0) else ([], 5)
end Go.Proofs.Ytfcpebjjcijgcaa.G
-- by hand: lemmas
namespace Go.Proofs.Ytfcpebjjcijgcaa.G
open Go.RowKit Go.Proofs.YtfcpebjjcijgcaaW.PrintWords Go.Proofs.YtfcpebjjcijgcaaW.PrintLast Go.Proofs.YtfcpebjjcijgcaaW.PrintMore
attribute [local go_sem] max2_int min2_int max_two min_two max_three min_three max_four min_four   -- for this text's walks alone
set_option linter.unusedVariables false
set_option linter.unusedSimpArgs false
/-! The two orders are one -/
theorem filter_range {α : Type} (l : List α) (f : α → Nat) (n : Nat) : (List.range (n + 1)).flatMap (fun v => l.filter fun x => f x == v) = (List.range n).flatMap (fun v => l.filter fun x => f x == v) ++ l.filter (fun x => f x == n) := by
  rw [List.range_succ, List.flatMap_append]
  simp
theorem filter_one {l : List S36} (hd : (nms l).Nodup) {s : ByteArray} (hs : memB s (nms l) = true) : (l.filter fun g => decide (g.f0 = s)) = [gOf l s] := by
  obtain ⟨j, hj, he, hf, hlt⟩ := posI_get hs
  have hg : gOf l s = l[j] := by
    unfold gOf
    rw [he, rdT36 hj]
  rw [hg]
  have key : ∀ (m : List S36), (nms m).Nodup → ∀ g, g ∈ m → g.f0 = s → (m.filter fun g => decide (g.f0 = s)) = [g] := by
    intro m
    induction m with
    | nil => intro _ g hg; cases hg
    | cons a m ih =>
      intro hd g hg hf
      have hd' : ¬ a.f0 ∈ nms m ∧ (nms m).Nodup := List.nodup_cons.1 hd
      rcases List.mem_cons.1 hg with rfl | hg
      · rw [List.filter_cons_of_pos (by simp [hf])]
        congr 1
        rw [List.filter_eq_nil_iff]
        intro b hb h
        have hb2 : b.f0 = s := by simpa using h
        exact hd'.1 (by rw [hf, ← hb2]; exact List.mem_map.2 ⟨b, hb, rfl⟩)
      · rw [List.filter_cons_of_neg (by
          intro h
          have h : a.f0 = s := by simpa using h
          exact hd'.1 (by rw [h, ← hf]; exact List.mem_map.2 ⟨g, hg, rfl⟩))]
        exact ih hd'.2 g hg hf
  exact key l hd _ (List.getElem_mem hj) hf
theorem sortG_row {l : List S36} {names : List ByteArray} (hd : (nms l).Nodup) (hn : names.Nodup) (hall : ∀ s, s ∈ names → memB s (nms l) = true) : sortG names l = refRow l names := by
  unfold sortG bucket refRow
  rw [filter_range]
  congr 1
  · have h : ∀ i, i ≤ names.length → (List.range i).flatMap (fun v => l.filter fun x => idxN names x.f0 == v) = (names.take i).map (gOf l) := by
      intro i
      induction i with
      | zero => intro _; simp
      | succ i ih =>
        intro hi
        rw [filter_range, ih (by omega), take_name (show i < names.length by omega), List.map_append]
        congr 1
        rw [List.map_cons, List.map_nil, ← filter_one hd (hall names[i] (List.getElem_mem (by omega)))]
        refine List.filter_congr fun x _ => ?_
        rw [Bool.eq_iff_iff, beq_iff_eq, decide_eq_true_iff]
        constructor
        · intro he
          have hlt : idxN names x.f0 < names.length := by omega
          have h2 : names[idxN names x.f0]'hlt = x.f0 := of_decide_eq_true (List.findIdx_getElem (w := hlt))
          subst he
          exact h2.symm
        · intro he
          unfold idxN
          rw [List.findIdx_eq (show i < names.length by omega)]
          refine ⟨decide_eq_true he.symm, fun j hj => decide_eq_false fun e => ?_⟩
          have := (List.getElem_inj (h₀ := show j < names.length by omega) (h₁ := show i < names.length by omega) hn).1 (e.trans he)
          omega
    rw [h _ (Nat.le_refl _), List.take_length]
  · refine List.filter_congr fun x _ => ?_
    rw [Bool.eq_iff_iff, beq_iff_eq]
    constructor
    · intro he
      cases hm : memB x.f0 names with
      | false => rfl
      | true =>
        have := idxN_lt hm
        omega
    · intro he
      rw [Bool.not_eq_true'] at he
      exact idxN_not he
theorem grErr_zero {l : List S36} {base : Int} (h : grErr l base = 0) : (∀ g, g ∈ l → nameP g.f0 = true) ∧ (nms l).Nodup ∧ (∀ g, g ∈ l → 1 ≤ g.f1 ∧ g.f1 ≤ g.f2 ∧ g.f2 < base) ∧ inRow l = true := by
  unfold grErr at h
  split at h
  · cases h
  · rename_i h1
    split at h
    · cases h
    · rename_i h2
      split at h
      · cases h
      · rename_i h3
        split at h
        · rename_i h4
          refine ⟨fun g hg => ?_, ?_, fun g hg => ?_, h4⟩
          · cases hn : nameP g.f0 with
            | true => rfl
            | false => exact absurd (List.any_eq_true.2 ⟨g, hg, by rw [hn]; rfl⟩) h1
          · unfold dupG at h2
            simpa using h2
          · have hb : ¬ badR base g = true := fun e => h3 (List.any_eq_true.2 ⟨g, hg, e⟩)
            simp only [badR, Bool.or_eq_true, decide_eq_true_eq] at hb
            omega
        · cases h
theorem chk_zero {E : List S49} {G : List S36} {base b3 b4 : Int} (h : chk E G base b3 b4 = 0) : 1 ≤ base ∧ base ≤ 65502 ∧ grErr G base = 0 := by
  unfold chk at h
  split at h
  · cases h
  · split at h
    · rename_i h1 h2
      exact ⟨by omega, by omega, h2⟩
    · contradiction
/-- The answer to Order. -/
def ordA (E : List S49) (G : List S36) (base b3 b4 : Int) (names : List ByteArray) : List S36 × Int := if chk E G base b3 b4 = 0 then rordP G names else ([], chk E G base b3 b4)
section
variable (E : List S49) (G : List S36) (base b3 b4 : Int) (names : List ByteArray) (hE : eFits E) (hG : fits G = true) (h8 : G.length ≤ 8) (hN : namesFit names = true)
include hE hG h8 hN
theorem order_ev : Ev (fun k => groups_Order.f k E G base b3 b4 names) (ordA E G base b3 b4 names) := by
  refine Ev.bind (cchk_ev E G base b3 b4 hE hG) ?_
  unfold ordA
  by_cases hc : chk E G base b3 b4 = 0
  · simp only [hc, if_true]
    rw [if_pos ⟨hG, by omega, hN⟩]
    have hz := grErr_zero (chk_zero hc).2.2
    have : ordP G names = rordP G names := by
      unfold ordP rordP
      split
      · rfl
      · rename_i hall
        by_cases hnd : names.Nodup
        · rw [if_pos hnd, if_neg (by simp [hnd]), sortG_row hz.2.1 hnd (fun s hs => ?_)]
          cases hm : memB s (nms G) with
          | true => rfl
          | false => exact absurd (List.any_eq_true.2 ⟨s, hs, by rw [hm]; rfl⟩) hall
        · rw [if_neg hnd, if_pos (by simp [hnd])]
    rw [this]
    exact Ev.now _
  · simp only [hc, if_false]
    exact Ev.now _
end
theorem same_loop (l : List S36) (hl : l.length ≤ 2199023255552) : ∀ (d i : Nat), l.length - i = d → Ev (fun k => unicodetextref47_SameGroups.l0 k l l (i : Int)) true := by
  intro d
  induction d with
  | zero =>
    intro i hd
    refine Ev.step (f := fun _ => some true) (fun k => ?_) (Ev.now _)
    simp only [unicodetextref47_SameGroups.l0]
    rw [if_neg (by omega)]
  | succ d ih =>
    intro i hd
    refine Ev.step (f := fun k => unicodetextref47_SameGroups.l0 k l l ((i + 1 : Nat) : Int)) (fun k => ?_) (ih (i + 1) (by omega))
    simp only [unicodetextref47_SameGroups.l0]
    rw [if_pos (by omega), if_pos (by omega), if_pos (by omega), if_neg (by simp), wrap_nat (by omega)]
theorem same_ev (l : List S36) (hl : l.length ≤ 2199023255552) : Ev (fun k => unicodetextref47_SameGroups.f k l l) true := by
  refine Ev.congr (f := fun k => unicodetextref47_SameGroups.l0 k l l ((0 : Nat) : Int)) (fun k => ?_) (same_loop l hl _ 0 rfl)
  unfold unicodetextref47_SameGroups.f
  rw [if_pos rfl]
  rfl
theorem renum_length : ∀ (p : Int) (l : List S36), (renum p l).length = l.length
  | _, [] => rfl
  | _, _ :: l => by
    show (renum _ l).length + 1 = l.length + 1
    rw [renum_length _ l]
theorem ordA_len (E : List S49) (G : List S36) (base b3 b4 : Int) (names : List ByteArray) (hG : G.length ≤ 8) (hN : names.length ≤ 1099511627776) : (ordA E G base b3 b4 names).1.length ≤ 2199023255552 := by
  unfold ordA rordP
  split
  · split
    · simp
    · split
      · rw [renum_length]
        unfold refRow
        rw [List.length_append, List.length_map]
        have := List.length_filter_le (fun g => !memB g.f0 names) G
        omega
      · simp
  · simp
theorem alive_row : rordP aliveG aliveN = (aliveR, 0) := by kernel_rfl
theorem alive_order : ordA [] aliveG 100 1 1 aliveN = (aliveR, 0) := by
  unfold ordA
  have hc : chk [] aliveG 100 1 1 = 0 := by decide +kernel
  rw [if_pos hc]
  exact alive_row
theorem move_ev (E : List S49) (G : List S36) (base b3 b4 : Int) (names : List ByteArray) (x : Int) (hE : eFits E) (hG : fits G = true) (h8 : G.length ≤ 8) (hN : namesFit names = true) (hfit : fits (ordA E G base b3 b4 names).1 = true) : Ev (fun k => groups_Move.f k E G base b3 b4 names x) (if (ordA E G base b3 b4 names).2 = 0 then moveP G (ordA E G base b3 b4 names).1 x else x) := by
  refine Ev.bind (order_ev E G base b3 b4 names hE hG h8 hN) ?_
  by_cases h : (ordA E G base b3 b4 names).2 = 0
  · simp only [h, if_true]
    rw [if_pos ⟨hG, hfit⟩]
    exact Ev.now _
  · simp only [h, if_false]
    exact Ev.now _
theorem alive_ev : Ev (fun k => unicodetextlaw47_alive.f k) true := by
  have hE : eFits ([] : List S49) := ⟨by simp, fun e he => by cases he⟩
  have hG : fits aliveG = true := by decide +kernel
  have hN : namesFit aliveN = true := by decide +kernel
  have hO := order_ev [] aliveG 100 1 1 aliveN hE hG (by decide) hN
  have hM := fun x => move_ev [] aliveG 100 1 1 aliveN x hE hG (by decide) hN (by rw [alive_order]; decide +kernel)
  rw [alive_order] at hO
  simp only [alive_order, if_true] at hM
  have m0 : moveP aliveG aliveR 12 = 3 := by decide +kernel
  have m1 : moveP aliveG aliveR 9 = 29 := by decide +kernel
  have m2 : moveP aliveG aliveR 30 = 30 := by decide +kernel
  have h0 := hM 12
  have h1 := hM 9
  have h2 := hM 30
  rw [m0] at h0
  rw [m1] at h1
  rw [m2] at h2
  refine Ev.bind hO ?_
  simp only [if_true]
  refine Ev.bind (same_ev aliveR (by decide)) ?_
  simp only [if_true]
  refine Ev.bind h0 ?_
  simp only [if_true]
  refine Ev.bind h1 ?_
  simp only [if_true]
  refine Ev.bind h2 ?_
  simp only [if_true]
  exact Ev.now _
end Go.Proofs.Ytfcpebjjcijgcaa.G
-- by hand: lemmas
namespace Go.Proofs.Ytfcpebjjcijgcaa.G
open Go.RowKit Go.Proofs.YtfcpebjjcijgcaaW.PrintWords Go.Proofs.YtfcpebjjcijgcaaW.PrintLast Go.Proofs.YtfcpebjjcijgcaaW.PrintMore
attribute [local go_sem] max2_int min2_int max_two min_two max_three min_three max_four min_four   -- for this text's walks alone
set_option linter.unusedVariables false
set_option linter.unusedSimpArgs false
/-! What the new order is -/
theorem nms_renum : ∀ (p : Int) (l : List S36), nms (renum p l) = nms l
  | _, [] => rfl
  | _, g :: l => by
    show g.f0 :: nms (renum _ l) = g.f0 :: nms l
    rw [nms_renum _ l]
theorem gOf_mem {G : List S36} {s : ByteArray} (h : memB s (nms G) = true) : gOf G s ∈ G ∧ (gOf G s).f0 = s := by
  obtain ⟨j, hj, he, hf, _⟩ := posI_get h
  unfold gOf
  rw [he, rdT36 hj]
  exact ⟨List.getElem_mem hj, hf⟩
theorem nms_refRow {G : List S36} {names : List ByteArray} (hall : ∀ s, s ∈ names → memB s (nms G) = true) : nms (refRow G names) = names ++ (nms G).filter fun s => !memB s names := by
  unfold refRow nms
  rw [List.map_append, List.map_map, List.filter_map]
  congr 1
  conv => rhs; rw [← List.map_id names]
  exact List.map_congr_left fun s hs => (gOf_mem (hall s hs)).2
theorem refRow_has {G : List S36} {names : List ByteArray} (hall : ∀ s, s ∈ names → memB s (nms G) = true) (s : ByteArray) : memB s (nms (refRow G names)) = memB s (nms G) := by
  rw [Bool.eq_iff_iff, memB_iff, memB_iff, nms_refRow hall, List.mem_append, List.mem_filter]
  constructor
  · rintro (h | h)
    · exact memB_iff.1 (hall s h)
    · exact h.1
  · intro h
    by_cases hm : memB s names = true
    · exact .inl (memB_iff.1 hm)
    · exact .inr ⟨h, by rw [Bool.eq_false_iff.2 hm]; rfl⟩
/-- Order has answered with no error. -/
structure Ordered (E : List S49) (G : List S36) (base b3 b4 : Int) (names : List ByteArray) (R : List S36) : Prop where
  c : chk E G base b3 b4 = 0
  all : ∀ s, s ∈ names → memB s (nms G) = true
  nd : names.Nodup
  r : R = renum (rd_T36 G 0).f1 (refRow G names)
theorem ordA_zero {E : List S49} {G : List S36} {base b3 b4 : Int} {names : List ByteArray} (h : (ordA E G base b3 b4 names).2 = 0) : Ordered E G base b3 b4 names (ordA E G base b3 b4 names).1 := by
  unfold ordA at h ⊢
  by_cases hc : chk E G base b3 b4 = 0
  · rw [if_pos hc] at h ⊢
    unfold rordP at h ⊢
    by_cases h1 : names.any (fun s => !memB s (nms G)) = true
    · rw [if_pos h1] at h
      cases h
    · rw [if_neg h1] at h ⊢
      by_cases h2 : names.Nodup
      · rw [if_pos h2]
        refine ⟨hc, fun s hs => ?_, h2, rfl⟩
        cases hm : memB s (nms G) with
        | true => rfl
        | false => exact absurd (List.any_eq_true.2 ⟨s, hs, by rw [hm]; rfl⟩) h1
      · rw [if_neg h2] at h
        cases h
  · rw [if_neg hc] at h
    exact absurd h hc
theorem ordA_bad {E : List S49} {G : List S36} {base b3 b4 : Int} {names : List ByteArray} (h : (ordA E G base b3 b4 names).2 ≠ 0) : (ordA E G base b3 b4 names).1 = [] := by
  unfold ordA at h ⊢
  by_cases hc : chk E G base b3 b4 = 0
  · rw [if_pos hc] at h ⊢
    unfold rordP at h ⊢
    by_cases h1 : names.any (fun s => !memB s (nms G)) = true
    · rw [if_pos h1]
    · rw [if_neg h1] at h ⊢
      by_cases h2 : names.Nodup
      · rw [if_pos h2] at h
        exact absurd rfl h
      · rw [if_neg h2]
  · rw [if_neg hc]
theorem Ordered.gr {E : List S49} {G : List S36} {base b3 b4 : Int} {names : List ByteArray} {R : List S36} (h : Ordered E G base b3 b4 names R) : (∀ g, g ∈ G → nameP g.f0 = true) ∧ (nms G).Nodup ∧ (∀ g, g ∈ G → 1 ≤ g.f1 ∧ g.f1 ≤ g.f2 ∧ g.f2 < base) ∧ inRow G = true := grErr_zero (chk_zero h.c).2.2
theorem Ordered.nms_eq {E : List S49} {G : List S36} {base b3 b4 : Int} {names : List ByteArray} {R : List S36} (h : Ordered E G base b3 b4 names R) : nms R = nms (refRow G names) := by rw [h.r, nms_renum]
theorem Ordered.has {E : List S49} {G : List S36} {base b3 b4 : Int} {names : List ByteArray} {R : List S36} (h : Ordered E G base b3 b4 names R) (s : ByteArray) : memB s (nms R) = memB s (nms G) := by rw [h.nms_eq]; exact refRow_has h.all s
theorem Ordered.row_len {E : List S49} {G : List S36} {base b3 b4 : Int} {names : List ByteArray} {R : List S36} (h : Ordered E G base b3 b4 names R) : (refRow G names).length = G.length := by rw [← sortG_row h.gr.2.1 h.nd h.all, sortG_length]
theorem Ordered.len {E : List S49} {G : List S36} {base b3 b4 : Int} {names : List ByteArray} {R : List S36} (h : Ordered E G base b3 b4 names R) : R.length = G.length := by rw [h.r, renum_length, h.row_len]
theorem fits_iff {l : List S36} : fits l = true ↔ l.length ≤ 1099511627776 ∧ ∀ s, s ∈ nms l → s.size ≤ 9223372036854775807 := by
  simp only [fits, Bool.and_eq_true, List.all_eq_true, decide_eq_true_eq, nms, List.mem_map]
  constructor
  · rintro ⟨h1, h2⟩
    exact ⟨h1, fun s ⟨g, hg, e⟩ => e ▸ h2 g hg⟩
  · rintro ⟨h1, h2⟩
    exact ⟨h1, fun g hg => h2 _ ⟨g, hg, rfl⟩⟩
theorem ordA_fits (E : List S49) (G : List S36) (base b3 b4 : Int) (names : List ByteArray) (hG : fits G = true) : fits (ordA E G base b3 b4 names).1 = true := by
  by_cases h : (ordA E G base b3 b4 names).2 = 0
  · have ho := ordA_zero h
    rw [fits_iff] at hG ⊢
    refine ⟨by rw [ho.len]; exact hG.1, fun s hs => hG.2 s ?_⟩
    rw [← memB_iff, ← ho.has, memB_iff]
    exact hs
  · rw [ordA_bad h]
    rfl
section
variable (E : List S49) (G : List S36) (base b3 b4 : Int) (names : List ByteArray) (hE : eFits E) (hG : fits G = true) (h8 : G.length ≤ 8) (hN : namesFit names = true)
include hE hG h8 hN
/-- The answer to Move. -/
def movA (E : List S49) (G : List S36) (base b3 b4 : Int) (names : List ByteArray) (x : Int) : Int := if (ordA E G base b3 b4 names).2 = 0 then moveP G (ordA E G base b3 b4 names).1 x else x
theorem gmove_ev (x : Int) : Ev (fun k => groups_Move.f k E G base b3 b4 names x) (movA E G base b3 b4 names x) := move_ev E G base b3 b4 names x hE hG h8 hN (ordA_fits E G base b3 b4 names hG)
end
/-- What a small collation and few names bring along. -/
theorem few_fits {E : List S49} {G : List S36} {names : List ByteArray} (hsG : ∀ g, g ∈ G → g.f0.size ≤ 9223372036854775807) (hsN : ∀ s, s ∈ names → s.size ≤ 9223372036854775807) (hf : (smallP E G && decide (names.length ≤ 12)) = true) : eFits E ∧ fits G = true ∧ G.length ≤ 8 ∧ namesFit names = true ∧ names.length ≤ 12 := by
  simp only [Bool.and_eq_true, decide_eq_true_eq] at hf
  obtain ⟨hE, h8⟩ := small_fits hf.1
  refine ⟨hE, ?_, h8, ?_, hf.2⟩
  · simp only [fits, Bool.and_eq_true, List.all_eq_true, decide_eq_true_eq]
    exact ⟨by omega, hsG⟩
  · simp only [namesFit, Bool.and_eq_true, List.all_eq_true, decide_eq_true_eq]
    exact ⟨by omega, hsN⟩
end Go.Proofs.Ytfcpebjjcijgcaa.G
-- by hand: lemmas
namespace Go.Proofs.Ytfcpebjjcijgcaa.G
open Go.RowKit Go.Proofs.YtfcpebjjcijgcaaW.PrintWords Go.Proofs.YtfcpebjjcijgcaaW.PrintLast Go.Proofs.YtfcpebjjcijgcaaW.PrintMore
attribute [local go_sem] max2_int min2_int max_two min_two max_three min_three max_four min_four   -- for this text's walks alone
set_option linter.unusedVariables false
set_option linter.unusedSimpArgs false
/-! What groups.Apply answers. -/
section
variable (E : List S49) (G : List S36) (base b3 b4 : Int) (names : List ByteArray)
/-- The answer to Apply. -/
def aplA : List S49 × List S36 × Int × Int × Int × Int := if (ordA E G base b3 b4 names).2 = 0 then (E.map (moveE G (ordA E G base b3 b4 names).1), (ordA E G base b3 b4 names).1, base, b3, b4, 0) else ([], [], 0, 0, 0, (ordA E G base b3 b4 names).2)
theorem gapply_ev (hE : eFits E) (hG : fits G = true) (h8 : G.length ≤ 8) (hN : namesFit names = true) (hS : eSmall E = true) : Ev (fun k => groups_Apply.f k E G base b3 b4 names) (aplA E G base b3 b4 names) := by
  refine Ev.bind (order_ev E G base b3 b4 names hE hG h8 hN) ?_
  unfold aplA
  by_cases h : (ordA E G base b3 b4 names).2 = 0
  · simp only [h, if_true]
    rw [if_pos ⟨hG, ordA_fits E G base b3 b4 names hG, hS⟩]
    exact Ev.now _
  · simp only [h, if_false]
    exact Ev.now _
end
theorem small_eSmall {E : List S49} {G : List S36} (h : smallP E G = true) : eSmall E = true := by
  simp only [smallP, Bool.and_eq_true, decide_eq_true_eq, List.all_eq_true] at h
  simp only [eSmall, Bool.and_eq_true, decide_eq_true_eq, List.all_eq_true]
  refine ⟨by omega, fun e he => ?_⟩
  have := h.2 e he
  omega
end Go.Proofs.Ytfcpebjjcijgcaa.G
-- by hand: lemmas
namespace Go.Proofs.Ytfcpebjjcijgcaa.G
open Go.RowKit Go.Proofs.YtfcpebjjcijgcaaW.PrintWords Go.Proofs.YtfcpebjjcijgcaaW.PrintLast Go.Proofs.YtfcpebjjcijgcaaW.PrintMore
attribute [local go_sem] max2_int min2_int max_two min_two max_three min_three max_four min_four   -- for this text's walks alone
set_option linter.unusedVariables false
set_option linter.unusedSimpArgs false
/-! GroupsElements -/
section
variable (E : List S49) (G R : List S36) (base b3 b4 : Int) (names : List ByteArray) (hE : eFits E) (hG : fits G = true) (h8 : G.length ≤ 8) (hN : namesFit names = true) (hS : E.length ≤ 1000000 ∧ ∀ e, e ∈ E → e.f0.length ≤ 1000000 ∧ e.f1.length ≤ 1000000) (ho : (ordA E G base b3 b4 names).2 = 0) (hr : (ordA E G base b3 b4 names).1 = R)
include hE hG h8 hN hS ho hr
theorem el_l1 (i : Nat) (hi : i < E.length) (hnext : Ev (fun k => unicodetextlaw47_GroupsElements.l0 k names ((i + 1 : Nat) : Int) E G base b3 b4 (E.map (moveE G R)) R base b3 b4) true) : ∀ (d j : Nat), E[i].f1.length - j = d → Ev (fun k => unicodetextlaw47_GroupsElements.l1 k names (i : Int) E[i].f1 (moveE G R E[i]).f1 (j : Int) E G base b3 b4 (E.map (moveE G R)) R base b3 b4) true := by
  have hb := hS.2 E[i] (List.getElem_mem hi)
  have hl := hS.1
  have hlen : (moveE G R E[i]).f1.length = E[i].f1.length := by simp [moveE]
  intro d
  induction d with
  | zero =>
    intro j hd
    refine Ev.step (f := fun k => unicodetextlaw47_GroupsElements.l0 k names ((i + 1 : Nat) : Int) E G base b3 b4 (E.map (moveE G R)) R base b3 b4) (fun k => ?_) hnext
    simp only [unicodetextlaw47_GroupsElements.l1]
    rw [if_neg (by omega), wrap_nat (by omega)]
  | succ d ih =>
    intro j hd
    have hj : j < E[i].f1.length := by omega
    have hj2 : j < (moveE G R E[i]).f1.length := by omega
    refine Ev.step (f := fun k => (groups_Move.f k E G base b3 b4 names E[i].f1[j].f0).bind fun t => if (!((moveE G R E[i]).f1[j].f0 == t) || (!((moveE G R E[i]).f1[j].f1 == E[i].f1[j].f1) || (!((moveE G R E[i]).f1[j].f2 == E[i].f1[j].f2) || (!((moveE G R E[i]).f1[j].f3 == E[i].f1[j].f3))))) = true then none else unicodetextlaw47_GroupsElements.l1 k names (i : Int) E[i].f1 (moveE G R E[i]).f1 ((j + 1 : Nat) : Int) E G base b3 b4 (E.map (moveE G R)) R base b3 b4) (fun k => ?_) (Ev.bind (gmove_ev E G base b3 b4 names hE hG h8 hN E[i].f1[j].f0) ?_)
    · simp only [unicodetextlaw47_GroupsElements.l1]
      rw [if_pos (by omega), if_pos (by omega), rdT51 hj]
      congr 1
      funext t
      rw [if_pos (by omega), rdT51 hj2, wrap_nat (by omega)]
    · have hm : movA E G base b3 b4 names E[i].f1[j].f0 = moveP G R E[i].f1[j].f0 := by
        unfold movA
        rw [if_pos ho, hr]
      have he : (moveE G R E[i]).f1[j] = ⟨moveP G R E[i].f1[j].f0, E[i].f1[j].f1, E[i].f1[j].f2, E[i].f1[j].f3⟩ := by simp [moveE]
      rw [hm, he]
      simp only [beq_self_eq_true, Bool.not_true, Bool.or_false, Bool.false_eq_true, if_false]
      exact ih (j + 1) (by omega)
theorem el_l0 : ∀ (d i : Nat), E.length - i = d → Ev (fun k => unicodetextlaw47_GroupsElements.l0 k names (i : Int) E G base b3 b4 (E.map (moveE G R)) R base b3 b4) true := by
  have hl := hS.1
  intro d
  induction d with
  | zero =>
    intro i hd
    refine Ev.step (f := fun k => (unicodetextlaw47_alive.f k).bind fun t => some t) (fun k => ?_) (Ev.bind alive_ev (Ev.now _))
    simp only [unicodetextlaw47_GroupsElements.l0]
    rw [if_neg (by omega)]
  | succ d ih =>
    intro i hd
    have hi : i < E.length := by omega
    have hi2 : i < (E.map (moveE G R)).length := by rw [List.length_map]; omega
    refine Ev.step (f := fun k => unicodetextlaw47_GroupsElements.l1 k names (i : Int) E[i].f1 (moveE G R E[i]).f1 ((0 : Nat) : Int) E G base b3 b4 (E.map (moveE G R)) R base b3 b4) (fun k => ?_) (el_l1 E G R base b3 b4 names hE hG h8 hN hS ho hr i hi (ih (i + 1) (by omega)) _ 0 rfl)
    simp only [unicodetextlaw47_GroupsElements.l0]
    rw [if_pos (by omega), if_pos (by omega), if_pos (by rw [List.length_map]; omega), rdT49 hi, rdT49 hi2, List.getElem_map, if_pos (by simp [moveE])]
    rfl
end
theorem elements_law (E : List S49) (G : List S36) (base b3 b4 : Int) (names : List ByteArray) (hsG : ∀ g, g ∈ G → g.f0.size ≤ 9223372036854775807) (hsN : ∀ s, s ∈ names → s.size ≤ 9223372036854775807) : ∃ k, unicodetextlaw47_GroupsElements.f k E G base b3 b4 names = some true := by
  refine Ev.rounds ?_
  refine Ev.bind (few_ev E G base b3 b4 names) ?_
  by_cases hf : (smallP E G && decide (names.length ≤ 12)) = true
  · simp only [hf, if_true]
    obtain ⟨hE, hG, h8, hN, hn⟩ := few_fits hsG hsN hf
    have hS := small_eSmall (Bool.and_eq_true_iff.1 hf).1
    refine Ev.bind (gapply_ev E G base b3 b4 names hE hG h8 hN hS) ?_
    refine Ev.bind (order_ev E G base b3 b4 names hE hG h8 hN) ?_
    by_cases ho : (ordA E G base b3 b4 names).2 = 0
    · have hap : aplA E G base b3 b4 names = (E.map (moveE G (ordA E G base b3 b4 names).1), (ordA E G base b3 b4 names).1, base, b3, b4, 0) := if_pos ho
      have hlen := ordA_len E G base b3 b4 names h8 (namesFit_len hN)
      rw [hap]
      have hl0 := el_l0 E G (ordA E G base b3 b4 names).1 base b3 b4 names hE hG h8 hN (eSmall_len hS) ho rfl _ 0 rfl
      generalize (ordA E G base b3 b4 names).1 = R at hlen hl0 ⊢
      simp only [ho, if_true, List.length_map]
      refine Ev.bind (same_ev R hlen) ?_
      simp only [if_true]
      refine Ev.step (f := fun k => unicodetextlaw47_GroupsElements.l0 k names ((0 : Nat) : Int) E G base b3 b4 (E.map (moveE G R)) R base b3 b4) (fun k => ?_) hl0
      simp only [unicodetextlaw47_GroupsElements.j0]
      rw [if_neg (by simp)]
      rfl
    · have hap : aplA E G base b3 b4 names = ([], [], 0, 0, 0, (ordA E G base b3 b4 names).2) := if_neg ho
      rw [hap]
      simp only [ho, if_true, if_false]
      exact Ev.bind alive_ev (Ev.now _)
  · simp only [hf, if_false]
    exact Ev.bind alive_ev (Ev.now _)
end Go.Proofs.Ytfcpebjjcijgcaa.G
namespace Go.Proofs.Ytfcpebjjcijgcaa.groupsElements
open Go.ChangeShapes Go.WideShapes Go.ChangeAt Go.RowKit Go.Proofs.YtfcpebjjcijgcaaW.PrintWords Go.Proofs.YtfcpebjjcijgcaaW.PrintLast Go.Proofs.YtfcpebjjcijgcaaW.PrintMore Go.Proofs.Ytfcpebjjcijgcaa.G
theorem own : ownKnob Try.prog.godebug = none := by kernel_rfl
theorem laidOut : laidOutB Try.prog = true := by kernel_rfl
set_option maxRecDepth 100000 in
theorem lifted (os : Os) (started : os.Started) (H : Type) (enc : TypeId × Value → H) :
    ReturnsInHanded {} Try.checked os 9 .any (Rows.groupsElementsSpec.pre6 enc Try.prog Try.f9 Rows.groupsElementsRow.domain false) (Rows.groupsElementsSpec.post enc Try.prog Try.f9 false true false false) := by
  refine returnsInHanded_of_change_sized (C := Try.checked) own started (by kernel_rfl) Try.func9
    (ChangeSpec.witness6 (enc := enc) (C := Try.checked) false ⟨#[], #[.agg #[.slice none 0 0, .slice none 0 0, .int .i64 0, .int .i64 0, .int .i64 0], .slice none 0 0], []⟩ 8 (by kernel_rfl) (by kernel_rfl) (by kernel_rfl) (by kernel_rfl)) ?_
  intro W base args ds gs before hval0 hW hcnd hsz0 _
  have hval : ∀ (j : Nat) t v, Try.f9.params[j]? = some t → args[j]? = some v → Value.okWide Try.prog W .any base t v := hval0
  have hW' := hW
  obtain ⟨p, q, hA0, hV, rfl, hfz, hnd⟩ := hW
  have hA : DataW.TrodAll enc Try.prog W 0 (fun _ => true) true Try.f9.params.toList args.toList ds p := hA0
  rw [Try.params9] at hA hval
  obtain ⟨v0, vs0, d0, ds0, p0, q0, hargs, rfl, rfl, h0, r0⟩ := trodAll_cons hA
  obtain ⟨v1, vs1, d1, ds1, p1, q1, rfl, rfl, rfl, h1, r1⟩ := trodAll_cons r0
  obtain ⟨rfl, rfl, rfl⟩ := trodAll_nil r1
  obtain rfl : args = #[v0, v1] := by cases args; simp_all
  obtain ⟨rfl, rfl⟩ := trodVars_none hV
  obtain ⟨cs0, rfl, _⟩ := okWide_struct Try.underlying25 (hval 0 25 v0 rfl rfl)
  have k0 := h0
  have lt0 : ∀ x ∈ p0, x.block < W.heap.size := by obtain ⟨m, hm⟩ := k0; exact DataW.trod_lt m _ _ _ hm
  obtain ⟨m0, hm0⟩ := h0
  obtain ⟨A0, c0, E, A1, c1, G, b2, b3, b4, hc0, l0, g0, l1, g1, hsG⟩ := opens_coll hm0
  obtain rfl : cs0 = #[.slice A0 E.length c0, .slice A1 G.length c1, .int .i64 b2, .int .i64 b3, .int .i64 b4] := Array.toList_inj.1 hc0
  obtain ⟨a1, len1, cap1, rfl⟩ := okWide_slice Try.underlying26 (hval 1 26 v1 rfl rfl)
  have k1 := h1
  have lt1 : ∀ x ∈ p1, x.block < W.heap.size := by obtain ⟨m, hm⟩ := k1; exact DataW.trod_lt m _ _ _ hm
  obtain ⟨m1, hm1⟩ := h1
  obtain ⟨A2, c2, L, hc1, l2, g2, hsN⟩ := opens_names hm1
  have hc1 : [Value.slice a1 len1 cap1] = [.slice A2 L.length c2] := hc1
  simp only [List.cons.injEq, Value.slice.injEq, and_true] at hc1
  obtain ⟨rfl, rfl, rfl⟩ := hc1
  clear hA0 hval0 hsz0
  obtain ⟨k, hk⟩ := elements_law E G b2 b3 b4 L hsG hsN
  refine (unicodetextlaw47_GroupsElements.calls k A0 c0 E A1 c1 G b2 b3 b4 a1 cap1 L true W g0 l0 g1 l1 g2 l2 hk).mono fun e W' ⟨he, bel⟩ => ?_
  subst he
  exact ⟨_, rfl, _, _, _, [], _, [], hW', trodAll_mk1 (shut_bool Try.underlying4 _), (trodAll_cons_mk (Below.trod laidOut (by kernel_rfl) (of_decide_eq_true (by kernel_rfl)) k0 bel lt0) (trodAll_cons_mk (Below.trod laidOut (by kernel_rfl) (of_decide_eq_true (by kernel_rfl)) k1 bel lt1) trodAll_mk0)), rfl, bel.frame _, fun h => by cases h⟩
theorem over : Rows.groupsElementsRow.holds Try.pinned (OpenSpec.ofChange Rows.groupsElementsSpec) :=
  OpenClaim.holds_of_wide 9 Try.f9 rfl rfl rfl rfl rfl rfl rfl ⟨rfl, rfl, rfl, rfl, rfl⟩ rfl rfl rfl rfl rfl (by kernel_rfl) Try.func9 (by kernel_rfl)
    (of_decide_eq_true (by kernel_rfl)) (by unfold Func.isWrapper; first | (rw [if_pos (by decide +kernel)]; kernel_rfl) | (rw [if_neg (by decide +kernel)]; exact ⟨rfl, rfl⟩))
    (fun os started H enc _ => lifted os started H enc)
theorem proved : Rows.GroupsElementsSaid := over
#print axioms proved
end Go.Proofs.Ytfcpebjjcijgcaa.groupsElements
namespace Go.Proofs.Ytfcpebjjcijgcaa
/-- The row, under a short name, for the claim. -/
theorem groupsElements_holds : Rows.GroupsElementsSaid := groupsElements.proved
end Go.Proofs.Ytfcpebjjcijgcaa
