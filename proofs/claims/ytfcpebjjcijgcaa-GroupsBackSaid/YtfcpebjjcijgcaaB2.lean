/- Contracts of Go functions, printed by a program of mine over the kit's printer or proved by hand, and plain laws: what the groups' laws lean on. -/
import Derived.BigQuiet
import Derived.BigRegion
import Derived.Deep.RegionHeld3
import Derived.Outline
import Derived.Test.YtfcpebjjcijgcaaB0
import Derived.Test.YtfcpebjjcijgcaaB1
-- unicodetext/groups.Apply: by hand
namespace Go.Proofs.Ytfcpebjjcijgcaa.G
open Go.RowKit Go.Proofs.YtfcpebjjcijgcaaW.PrintWords Go.Proofs.YtfcpebjjcijgcaaW.PrintLast Go.Proofs.YtfcpebjjcijgcaaW.PrintMore
attribute [local go_sem] max2_int min2_int max_two min_two max_three min_three max_four min_four   -- for this text's walks alone
set_option linter.unusedVariables false
set_option linter.unusedSimpArgs false
-- BY HAND: function 18 (groups_Apply)
/-- An entry whose weights have moved. -/
def moveE (old fresh : List S36) (e : S49) : S49 := ⟨e.f0, e.f1.map fun x => ⟨moveP old fresh x.f0, x.f1, x.f2, x.f3⟩⟩
/-- Entries of a size that the walk bears. -/
def eSmall (E : List S49) : Bool := decide (E.length ≤ 1000000) && E.all fun e => decide (e.f0.length ≤ 1000000) && decide (e.f1.length ≤ 1000000)
theorem eSmall_len {E : List S49} (h : eSmall E = true) : E.length ≤ 1000000 ∧ ∀ e, e ∈ E → e.f0.length ≤ 1000000 ∧ e.f1.length ≤ 1000000 := by
  simpa [eSmall] using h
theorem put5 {w : World} {g t : Nat} {a b c d e a' b' c' d' e' : Value} (h : w.heap[g]? = some (.cells #[a, b, c, d, e] t (0, 0))) : (((((w.setCell ⟨g, 0, none⟩ a').setCell ⟨g, 1, none⟩ b').setCell ⟨g, 2, none⟩ c').setCell ⟨g, 3, none⟩ d').setCell ⟨g, 4, none⟩ e').heap[g]? = some (.cells #[a', b', c', d', e'] t (0, 0)) :=
  blk_put (blk_put (blk_put (blk_put (blk_put h 0 _ rfl) 1 _ rfl) 2 _ rfl) 3 _ rfl) 4 _ rfl
theorem S_put5 {α : Type} {k : Kd α} {ty base g t : Nat} {cs : Array Value} {w : World} {v a' b' c' d' e' : Value} {xs : List α} (h : Kd.S k ty w base (fun _ => True) v xs) (hb : w.heap[g]? = some (.cells cs t (0, 0))) (ht : ∀ q, q ∈ ty :: k.E → q ≠ t) : Kd.S k ty (((((w.setCell ⟨g, 0, none⟩ a').setCell ⟨g, 1, none⟩ b').setCell ⟨g, 2, none⟩ c').setCell ⟨g, 3, none⟩ d').setCell ⟨g, 4, none⟩ e') base (fun _ => True) v xs :=
  Kd.S_mono (Kd.S_far (p := ⟨g, 4, none⟩) (Kd.S_far (p := ⟨g, 3, none⟩) (Kd.S_far (p := ⟨g, 2, none⟩) (Kd.S_far (p := ⟨g, 1, none⟩) (Kd.S_far (p := ⟨g, 0, none⟩) (Kd.S_types h hb ht) (fun _ hk => hk.2) _) (fun _ hk => hk.2) _) (fun _ hk => hk.2) _) (fun _ hk => hk.2) _) (fun _ hk => hk.2) _) (fun _ _ => trivial)
theorem R_put5 {α : Type} {k : Kd α} {ty base g t : Nat} {cs : Array Value} {w : World} {v a' b' c' d' e' : Value} {xs : List α} (h : Kd.R k ty w base (fun _ => True) v xs) (hb : w.heap[g]? = some (.cells cs t (0, 0))) (ht : ∀ q, q ∈ ty :: k.E → q ≠ t) : Kd.R k ty (((((w.setCell ⟨g, 0, none⟩ a').setCell ⟨g, 1, none⟩ b').setCell ⟨g, 2, none⟩ c').setCell ⟨g, 3, none⟩ d').setCell ⟨g, 4, none⟩ e') base (fun _ => True) v xs :=
  Kd.R_mono (Kd.R_far (p := ⟨g, 4, none⟩) (Kd.R_far (p := ⟨g, 3, none⟩) (Kd.R_far (p := ⟨g, 2, none⟩) (Kd.R_far (p := ⟨g, 1, none⟩) (Kd.R_far (p := ⟨g, 0, none⟩) (Kd.R_types h hb ht) (fun _ hk => hk.2) _) (fun _ hk => hk.2) _) (fun _ hk => hk.2) _) (fun _ hk => hk.2) _) (fun _ hk => hk.2) _) (fun _ _ => trivial)
theorem below_put5 {w W : World} {g : Nat} {a' b' c' d' e' : Value} (h : Below w.heap.size w W) (hg : w.heap.size ≤ g) : Below w.heap.size w (((((W.setCell ⟨g, 0, none⟩ a').setCell ⟨g, 1, none⟩ b').setCell ⟨g, 2, none⟩ c').setCell ⟨g, 3, none⟩ d').setCell ⟨g, 4, none⟩ e') :=
  below_set (below_set (below_set (below_set (below_set h hg) hg) hg) hg) hg
def mvEl (old fresh : List S36) (x : S51) : S51 := ⟨moveP old fresh x.f0, x.f1, x.f2, x.f3⟩
theorem set_step {α : Type} (f : α → α) (l : List α) (y : Nat) (a : α) (h : l[y]? = some a) : ((l.take y).map f ++ l.drop y).set y (f a) = (l.take (y + 1)).map f ++ l.drop (y + 1) := by
  obtain ⟨hl, e⟩ := List.getElem?_eq_some_iff.1 h
  rw [List.set_append_right _ _ (by simp; omega), show y - ((l.take y).map f).length = 0 by simp; omega, List.drop_eq_getElem_cons hl, List.set_cons_zero, List.take_succ_eq_append_getElem hl, e]
  simp
theorem get_step {α : Type} (f : α → α) (l : List α) (y : Nat) (h : y < l.length) : ((l.take y).map f ++ l.drop y)[y]? = l[y]? := by
  rw [List.getElem?_append_right (by simp; omega), List.getElem?_drop]
  simp [Nat.min_eq_left (Nat.le_of_lt h)]
theorem MoverAt.kept {W w1 : World} {gO gK gM : Nat} {A0 : Option Addr} {c0 : Nat} {old fresh : List S36} (h : MoverAt W gO gK gM A0 c0 old fresh) (hO : w1.heap[gO]? = W.heap[gO]?) (hK : w1.heap[gK]? = W.heap[gK]?) (hM : w1.heap[gM]? = W.heap[gM]?) (hC : Kd.C k36 w1 A0 old.length old) : MoverAt w1 gO gK gM A0 c0 old fresh :=
  ⟨hO.trans h.o, hK.trans h.k, h.m.move hM, hC⟩
def groups_Apply.T13 : Bool × List (List Nat × List Nat) := (true, [([], []), ([0], [0]), ([], []), ([], []), ([], []), ([4], [4]), ([], []), ([5, 6], [5, 6]), ([7], [7]), ([8], [8]), ([3, 9], [3, 9]), ([1, 2, 0, 1, 2, 3, 4, 5, 6, 7, 8, 9, 10], [1, 2]), ([11, 0, 1, 2, 3, 4, 5, 6, 7, 8, 9, 10], [11]), ([12, 10, 10, 0, 1, 2, 3, 4, 5, 6, 7, 8, 9, 10], [10, 12])])
def groups_Apply.B13 : List Nat := [0, 1, 0, 0, 0, 16, 0, 112, 240, 496, 1016, 2047, 4095, 8191]
theorem groups_Apply.tab13 : rtab .any (opsOf Try.f18 13) = groups_Apply.T13 := by kernel_rfl
theorem groups_Apply.bits13 : waitsOk groups_Apply.T13.2 groups_Apply.B13 = true := by kernel_rfl
def groups_Apply.f (k : Nat) (l0_0 : List (S49)) (l0_1 : List (S36)) (a0_2 : Int) (a0_3 : Int) (a0_4 : Int) (l1 : List ByteArray) : Option ((List (S49)) × (List (S36)) × Int × Int × Int × Int) := (groups_Order.f k l0_0 l0_1 a0_2 a0_3 a0_4 l1).bind fun b => if b.2 = 0 then (if fits l0_1 = true ∧ fits b.1 = true ∧ eSmall l0_0 = true then some (l0_0.map (moveE l0_1 b.1), b.1, a0_2, a0_3, a0_4, 0) else none) else some ([], [], 0, 0, 0, b.2)
set_option maxHeartbeats 4000000 in
set_option maxRecDepth 100000 in
theorem groups_Apply.calls (k : Nat) (A0_0 : Option Addr) (c0_0 : Nat) (l0_0 : List (S49)) (A0_1 : Option Addr) (c0_1 : Nat) (l0_1 : List (S36)) (a0_2 : Int) (a0_3 : Int) (a0_4 : Int) (A1 : Option Addr) (c1 : Nat) (l1 : List ByteArray) (r1 : List (S49)) (r2 : List (S36)) (r3 : Int) (r4 : Int) (r5 : Int) (r6 : Int) (w : World) (hr0_0 : Kd.C k49 w A0_0 l0_0.length l0_0) (hc0_0 : l0_0.length ≤ c0_0) (hr0_1 : Kd.C k36 w A0_1 l0_1.length l0_1) (hc0_1 : l0_1.length ≤ c0_1) (hr1 : Kd.C Kd.string w A1 l1.length l1) (hc1 : l1.length ≤ c1) (h : groups_Apply.f k l0_0 l0_1 a0_2 a0_3 a0_4 l1 = some (r1, r2, r3, r4, r5, r6)) :
    Calls Try.prog 18 #[.agg #[.slice A0_0 l0_0.length c0_0, .slice A0_1 l0_1.length c0_1, .int .i64 a0_2, .int .i64 a0_3, .int .i64 a0_4], .slice A1 l1.length c1] w fun e w' => ∃ v0_ v1_ : Value, e = .returned (.tuple #[.agg #[v0_, v1_, .int .i64 r3, .int .i64 r4, .int .i64 r5], .int .i64 r6]) ∧ Kd.S k49 49 w' w.heap.size (fun _ => True) v0_ r1 ∧ Kd.R k36 36 w' w.heap.size (fun _ => True) v1_ r2 ∧ Below w.heap.size w w' := by
  unfold groups_Apply.f at h
  obtain ⟨⟨R, eo⟩, hO, h⟩ := Option.bind_eq_some_iff.mp h
  have HO := Aside0.mk hO
  have H := Aside0.mk h
  have HR0 := Aside0.mk hr0_0
  have HC0 := Aside0.mk hc0_0
  have HR1 := Aside0.mk hr0_1
  have HC1 := Aside0.mk hc0_1
  have HRN := Aside0.mk hr1
  have HCN := Aside0.mk hc1
  clear hO h hr0_0 hc0_0 hr0_1 hc0_1 hr1 hc1
  go_enter Try.func18, Try.ntmps18
  go_wp2_with fail
  have hb0 : Below w.heap.size w ((w.alloc (.cells #[.slice A0_0 l0_0.length c0_0, .slice A0_1 l0_1.length c0_1, .int .i64 a0_2, .int .i64 a0_3, .int .i64 a0_4] 25)).alloc (.cells #[.slice none 0 0, .slice none 0 0, .int .i64 0, .int .i64 0, .int .i64 0] 25)) := below_alloc (below_alloc (Below.refl _ _) _) _
  have hk0 := blk_alloc (blk_new w (.cells #[.slice A0_0 l0_0.length c0_0, .slice A0_1 l0_1.length c0_1, .int .i64 a0_2, .int .i64 a0_3, .int .i64 a0_4] 25)) (.cells #[.slice none 0 0, .slice none 0 0, .int .i64 0, .int .i64 0, .int .i64 0] 25)
  have hk1 := blk_new (w.alloc (.cells #[.slice A0_0 l0_0.length c0_0, .slice A0_1 l0_1.length c0_1, .int .i64 a0_2, .int .i64 a0_3, .int .i64 a0_4] 25)) (.cells #[.slice none 0 0, .slice none 0 0, .int .i64 0, .int .i64 0, .int .i64 0] 25)
  rw [show (w.alloc (.cells #[.slice A0_0 l0_0.length c0_0, .slice A0_1 l0_1.length c0_1, .int .i64 a0_2, .int .i64 a0_3, .int .i64 a0_4] 25)).heap.size = w.heap.size + 1 by simp] at hk1
  generalize ((w.alloc (.cells #[.slice A0_0 l0_0.length c0_0, .slice A0_1 l0_1.length c0_1, .int .i64 a0_2, .int .i64 a0_3, .int .i64 a0_4] 25)).alloc (.cells #[.slice none 0 0, .slice none 0 0, .int .i64 0, .int .i64 0, .int .i64 0] 25)) = w0 at hb0 hk0 hk1 ⊢
  refine (groups_Order.calls k _ _ l0_0 _ _ l0_1 a0_2 a0_3 a0_4 _ _ l1 R eo w0 (Kd.C_below HR0.out hb0) HC0.out (Kd.C_below HR1.out hb0) HC1.out (Kd.C_below HRN.out hb0) HCN.out HO.out).mono ?_
  rintro e w1 ⟨v0, rfl, hR, hb1⟩
  obtain ⟨A, c, rfl, hlc, hC⟩ := Kd.R_reads hR
  have HB1 := Aside0.mk (below_step hb0 hb1)
  have HK1 := Aside0.mk (blk_below hk0 hb1)
  have HT1 := Aside0.mk (blk_below hk1 hb1)
  have HRR1 := Aside0.mk (Kd.R_lower hR hb0.size)
  clear hb0 hk0 hk1 hR hlc hC hb1
  by_cases he : eo = 0
  · subst he
    obtain ⟨hf0, hf1, hes, rfl, rfl, rfl, rfl, rfl, rfl⟩ : fits l0_1 = true ∧ fits R = true ∧ eSmall l0_0 = true ∧ l0_0.map (moveE l0_1 R) = r1 ∧ R = r2 ∧ a0_2 = r3 ∧ a0_3 = r4 ∧ a0_4 = r5 ∧ 0 = r6 := by
      have h := H.out
      rw [if_pos rfl] at h
      split at h
      · rename_i hc
        simp only [Option.some.injEq, Prod.mk.injEq] at h
        obtain ⟨h1, h2, h3, h4, h5, h6⟩ := h
        exact ⟨hc.1, hc.2.1, hc.2.2, h1, h2, h3, h4, h5, h6⟩
      · cases h
    have HF0 := Aside0.mk hf0
    have HF1 := Aside0.mk hf1
    have HES := Aside0.mk (eSmall_len hes)
    clear H hf0 hf1 hes
    have hz1 : w1.cell? ⟨w.heap.size, 1, none⟩ = some (.slice A0_1 l0_1.length c0_1) := (blk_cell HK1.out 1).trans rfl
    go_wp2_with fail
    clear hz1
    refine (mover_calls A0_1 c0_1 l0_1 A c R w1 (Kd.C_below HR1.out HB1.out) (Kd.R_reads' HRR1.out).2.2 HF1.out).mono ?_
    rintro e w2 ⟨gO, gK, gM, rfl, hmv, hgO, hgK, hgM, hb2⟩
    have HMV := Aside0.mk hmv
    have HB2 := Aside0.mk (below_step HB1.out hb2)
    have HK2 := Aside0.mk (blk_below HK1.out hb2)
    have HT2 := Aside0.mk (blk_below HT1.out hb2)
    have HRR2 := Aside0.mk (Kd.R_below HRR1.out hb2)
    have hz0 : (w2.alloc (.cells #[.slice none 0 0, .slice A R.length c, .int .i64 a0_2, .int .i64 a0_3, .int .i64 a0_4] 25)).cell? ⟨w.heap.size, 0, none⟩ = some (.slice A0_0 l0_0.length c0_0) := (blk_cell (blk_alloc HK2.out _) 0).trans rfl
    have hz2 : w2.cell? ⟨w.heap.size, 2, none⟩ = some (.int .i64 a0_2) := (blk_cell HK2.out 2).trans rfl
    have hz3 : w2.cell? ⟨w.heap.size, 3, none⟩ = some (.int .i64 a0_3) := (blk_cell HK2.out 3).trans rfl
    have hz4 : w2.cell? ⟨w.heap.size, 4, none⟩ = some (.int .i64 a0_4) := (blk_cell HK2.out 4).trans rfl
    clear hmv hb2 HB1 HK1 HT1 HRR1
    go_wp2
    clear hz0 hz2 hz3 hz4
    have hb3 : Below w2.heap.size w2 (w2.alloc (.cells #[.slice none 0 0, .slice A R.length c, .int .i64 a0_2, .int .i64 a0_3, .int .i64 a0_4] 25)) := below_alloc (Below.refl _ _) _
    have HB3 := Aside0.mk (below_step HB2.out hb3)
    have HK3 := Aside0.mk (blk_below HK2.out hb3)
    have HT3 := Aside0.mk (blk_below HT2.out hb3)
    have HRR3 := Aside0.mk (Kd.R_below HRR2.out hb3)
    have HMV3 := Aside0.mk (HMV.out.below hb3)
    have HX3 := Aside0.mk (blk_new w2 (.cells #[.slice none 0 0, .slice A R.length c, .int .i64 a0_2, .int .i64 a0_3, .int .i64 a0_4] 25))
    have hgx : w.heap.size ≤ w2.heap.size := HB2.out.size
    have hlO : gO < w2.heap.size ∧ gK < w2.heap.size ∧ gM < w2.heap.size ∧ w.heap.size + 1 < w2.heap.size := ⟨blk_lt HMV.out.o, blk_lt HMV.out.k, HMV.out.m.lt, blk_lt HT2.out⟩
    generalize w2.heap.size = gx at HX3 hgx hlO ⊢
    generalize w2.alloc (.cells #[.slice none 0 0, .slice A R.length c, .int .i64 a0_2, .int .i64 a0_3, .int .i64 a0_4] 25) = w3 at HB3 HK3 HT3 HRR3 HMV3 HX3 ⊢
    have HLO := Aside0.mk hlO
    clear hb3 HB2 HK2 HT2 HRR2 HMV hlO
    go_loopg [39] l0_0.length (fun g v39 w' => ∃ (x : Nat) (u : Value), v39 = .int .i64 x ∧ Aside0 (g = l0_0.length - x ∧ x ≤ l0_0.length) ∧ Aside0 (w'.heap[gx]? = some (.cells #[u, .slice A R.length c, .int .i64 a0_2, .int .i64 a0_3, .int .i64 a0_4] 25 (0, 0))) ∧ Aside0 (Kd.S k49 49 w' w.heap.size (fun _ => True) u ((l0_0.take x).map (moveE l0_1 R))) ∧ Aside0 (∀ k, u.ownBlock = some k → gx < k) ∧ Aside0 (Kd.R k36 36 w' w.heap.size (fun _ => True) (.slice A R.length c) R) ∧ Aside0 (MoverAt w' gO gK gM A0_1 c0_1 l0_1 R) ∧ Aside0 (w'.heap[w.heap.size]? = some (.cells #[.slice A0_0 l0_0.length c0_0, .slice A0_1 l0_1.length c0_1, .int .i64 a0_2, .int .i64 a0_3, .int .i64 a0_4] 25 (0, 0))) ∧ Aside0 (w'.heap[w.heap.size + 1]? = some (.cells #[.slice none 0 0, .slice none 0 0, .int .i64 0, .int .i64 0, .int .i64 0] 25 (0, 0))) ∧ Aside0 (Below w.heap.size w w'))
    case atStart => exact ⟨0, .slice none 0 0, rfl, ⟨by simp, by omega⟩, HX3, ⟨Kd.S_nil _ _ _ _ _⟩, ⟨fun k h => by simp [Value.ownBlock] at h⟩, HRR3, HMV3, HK3, HT3, HB3⟩
    clear HX3 HRR3 HMV3 HK3 HT3 HB3
    case round =>
      obtain ⟨x, u, rfl, HG, HX, HS, HU, HRR, HMV, HK, HT, HB⟩ := hrel
      by_cases hlt : x < l0_0.length
      · have hltz : (x : Int) < (l0_0.length : Int) := by omega
        have p0 : 0 ≤ (x : Int) := by omega
        obtain ⟨ad, B0, d0, B1, d1, e, hx0, hx1, hl0, hc0, hl1, hc1⟩ := at_T49 HR0.out (x : Int) p0 hltz
        cases e
        replace hx0 := pw_cell_below HB.out hx0
        replace hx1 := pw_cell_below HB.out hx1
        obtain ⟨ex, hex⟩ : ∃ ex, rd_T49 l0_0 (x : Int) = ex := ⟨_, rfl⟩
        rw [hex] at hx0 hx1 hl0 hc0 hl1 hc1
        rw [Int.toNat_natCast] at hx0 hx1
        go_wp2
        have HEX := Aside0.mk hex
        have hb4 : Below wr.heap.size wr (wr.alloc (.cells #[.slice B0 ex.f0.length d0, .slice B1 ex.f1.length d1] 49)) := below_alloc (Below.refl _ _) _
        have HB4 := Aside0.mk hb4
        have HK4 := Aside0.mk (blk_new wr (.cells #[.slice B0 ex.f0.length d0, .slice B1 ex.f1.length d1] 49))
        have hgy : wr.heap.size ≤ wr.heap.size := Nat.le_refl _
        generalize hgq : wr.heap.size = gy at HK4 ⊢
        generalize wr.alloc (.cells #[.slice B0 ex.f0.length d0, .slice B1 ex.f1.length d1] 49) = w4 at HB4 hb4 HK4 ⊢
        have hN : gy ≤ w4.heap.size := by rw [← hgq]; exact hb4.size
        have HS4 : Aside0 (Kd.S k49 49 w4 w.heap.size (fun k => True ∧ k < gy) u ((l0_0.take x).map (moveE l0_1 R))) := ⟨by rw [← hgq]; exact Kd.S_old HS.out hb4⟩
        have HOWN : Aside0 (∀ k, u.ownBlock = some k → k < gy) := ⟨by rw [← hgq]; exact Kd.S_lt HS.out⟩
        have HRR4 := Aside0.mk (Kd.R_below HRR.out hb4)
        have HMV4 := Aside0.mk (HMV.out.below hb4)
        have HX4 := Aside0.mk (blk_below HX.out hb4)
        have HKK4 := Aside0.mk (blk_below HK.out hb4)
        have HTT4 := Aside0.mk (blk_below HT.out hb4)
        have HBB4 := Aside0.mk (below_step HB.out hb4)
        have hes := HES.out.2 ex (by rw [← hex, rdT49 hlt]; exact List.getElem_mem hlt)
        have HE1 := fun (W : World) (hb : Below w4.heap.size w4 W) => slices_Clone_int_int.calls B0 d0 ex.f0 ex.f0 W (Kd.C_below (Kd.C_below (Kd.C_below hc0 HB.out) HB4.out) hb) hl0 (by unfold slices_Clone_int_int.f; rw [if_pos (by omega)])
        have HE2 := fun (W : World) (hb : Below w4.heap.size w4 W) => api_Element_32.calls B1 d1 ex.f1 ex.f1 W (Kd.C_below (Kd.C_below (Kd.C_below hc1 HB.out) HB4.out) hb) hl1 (by unfold api_Element_32.f; rw [if_pos (by omega)])
        have hS : ∀ W : World, Below w4.heap.size w4 W → (W.cell? ⟨gy, 0, none⟩ = some (.slice B0 ex.f0.length d0) ∧ W.cell? ⟨gy, 1, none⟩ = some (.slice B1 ex.f1.length d1) ∧ Below w4.heap.size w4 W) := fun W hb => by
          have hk := blk_below HK4.out hb
          exact ⟨(blk_cell hk 0).trans rfl, (blk_cell hk 1).trans rfl, hb⟩
        have HLT := Aside0.mk hlt
        clear hx0 hx1 hb4 hgy hlt hltz hex HS HRR HMV HX HK HT
        go_upto_region 10 with (fail)
        go_cut [12] (fun v12 wc => ∃ (gq : Nat) (A5 : Option Addr) (c5 : Nat) (A6 : Option Addr) (c6 : Nat), v12 = .pointer (some ⟨gq, 0, none⟩) ∧ Aside0 (wc.heap[gq]? = some (.cells #[.slice A5 ex.f0.length c5, .slice A6 ex.f1.length c6] 49 (0, 0))) ∧ Aside0 (w4.heap.size ≤ gq) ∧ Aside0 (Kd.R (Kd.int .i64) 3 wc w4.heap.size (fun _ => True) (.slice A5 ex.f0.length c5) ex.f0) ∧ Aside0 (Kd.R k51 51 wc w4.heap.size (fun _ => True) (.slice A6 ex.f1.length c6) ex.f1) ∧ Aside0 (Below w4.heap.size w4 wc))
        case first =>
          go_region_held3 (fun w' => w'.cell? ⟨gy, 0, none⟩ = some (.slice B0 ex.f0.length d0) ∧ w'.cell? ⟨gy, 1, none⟩ = some (.slice B1 ex.f1.length d1) ∧ Below w4.heap.size w4 w')
            (first
              | exact hS _ (below_drew (Below.refl _ _))
              | exact hS _ hbm
              | exact hS _ hbn
              | exact hS _ (below_alloc (below_drew (Below.refl _ _)) _)
              | exact hS _ (below_alloc hbn _)
              | exact hS _ (below_alloc hbm _)
              | (refine hS _ ?_; repeat (first | exact hbm | exact hbn | exact Below.refl _ _ | apply below_drew | apply below_alloc | refine below_set ?_ (by omega))))
            (first
              | (go_at_call 31; refine (HE1 _ (below_drew (Below.refl _ _))).mono ?_; rintro e w5 ⟨v5, rfl, hr5, hb5⟩; obtain ⟨A5, c5, e5⟩ := Kd.R_slice hr5; subst e5; have hbn := below_step (below_drew (Below.refl w4.heap.size w4)) hb5)
              | (go_at_call 31; refine (HE1 _ (below_alloc (below_drew (Below.refl _ _)) _)).mono ?_; rintro e w5 ⟨v5, rfl, hr5, hb5⟩; obtain ⟨A5, c5, e5⟩ := Kd.R_slice hr5; subst e5; have hbn := below_step (below_alloc (below_drew (Below.refl w4.heap.size w4)) _) hb5; have hkq := blk_below (blk_new w4.drew (.cells #[.slice none 0 0, .slice none 0 0] 49)) hb5)
              | (go_at_call 32; refine (HE2 _ hbn).mono ?_; rintro e w6 ⟨v6, rfl, hr6, hb6⟩; obtain ⟨A6, c6, e6⟩ := Kd.R_slice hr6; subst e6; have hbm := below_step hbn hb6; have hkr := blk_below hkq hb6; have hs5 := hbn.size; have hs6 := hbm.size; have hq0 : w6.cell? ⟨w4.heap.size, 0, none⟩ = some (.slice none 0 0) := (blk_cell hkr 0).trans rfl; have hq1 : w6.cell? ⟨w4.heap.size, 1, none⟩ = some (.slice none 0 0) := (blk_cell hkr 1).trans rfl; have hq2 : w6.frozen? ⟨w4.heap.size, 0, none⟩ = false := blk_frozen hkr 0; have hq3 : w6.frozen? ⟨w4.heap.size, 1, none⟩ = false := blk_frozen hkr 1)
              | (go_at_call 32; refine (HE2 _ hbn).mono ?_; rintro e w6 ⟨v6, rfl, hr6, hb6⟩; obtain ⟨A6, c6, e6⟩ := Kd.R_slice hr6; subst e6; have hbm := below_step hbn hb6; have hs5 := hbn.size; have hs6 := hbm.size)
              | (go_at_call 32; refine (HE2 _ (below_alloc hbn _)).mono ?_; rintro e w6 ⟨v6, rfl, hr6, hb6⟩; obtain ⟨A6, c6, e6⟩ := Kd.R_slice hr6; subst e6; have hbm := below_step (below_alloc hbn _) hb6; have hkr := blk_below (blk_new w5 (.cells #[.slice none 0 0, .slice none 0 0] 49)) hb6; have hs5 := hbn.size; have hs6 := hbm.size; have hq0 : w6.cell? ⟨w5.heap.size, 0, none⟩ = some (.slice none 0 0) := (blk_cell hkr 0).trans rfl; have hq1 : w6.cell? ⟨w5.heap.size, 1, none⟩ = some (.slice none 0 0) := (blk_cell hkr 1).trans rfl; have hq2 := blk_frozen hkr 0; have hq3 := blk_frozen hkr 1))
          · go_wp2
            go_meet
            case rel => exact ⟨w6.heap.size, A5, c5, A6, c6, rfl, ⟨blk_new w6 _⟩, ⟨hs6⟩, ⟨Kd.R_below (Kd.R_below hr5 hb6) (below_alloc (Below.refl _ _) _)⟩, ⟨Kd.R_below (Kd.R_lower hr6 hs5) (below_alloc (Below.refl _ _) _)⟩, ⟨below_alloc hbm _⟩⟩
          · go_wp2
            go_meet
            case rel => exact ⟨w5.heap.size, A5, c5, A6, c6, rfl, ⟨blk_set (blk_set hkr 0 _) 1 _⟩, ⟨hs5⟩, ⟨Kd.R_set (Kd.R_set (Kd.R_below (Kd.R_below hr5 (below_alloc (Below.refl _ _) _)) hb6) hkr (by decide) 0 _) (blk_set hkr 0 _) (by decide) 1 _⟩, ⟨Kd.R_set (Kd.R_set (Kd.R_lower hr6 (Nat.le_trans hs5 (below_alloc (Below.refl w5.heap.size w5) _).size)) hkr (by decide) 0 _) (blk_set hkr 0 _) (by decide) 1 _⟩, ⟨below_set (below_set hbm hs5) hs5⟩⟩
          · go_wp2
            go_meet
            case rel => exact ⟨w4.heap.size, A5, c5, A6, c6, rfl, ⟨blk_set (blk_set hkr 0 _) 1 _⟩, ⟨Nat.le_refl _⟩, ⟨Kd.R_set (Kd.R_set (Kd.R_below (Kd.R_lower hr5 (below_alloc (below_drew (Below.refl w4.heap.size w4)) _).size) hb6) hkr (by decide) 0 _) (blk_set hkr 0 _) (by decide) 1 _⟩, ⟨Kd.R_set (Kd.R_set (Kd.R_lower hr6 hs5) hkr (by decide) 0 _) (blk_set hkr 0 _) (by decide) 1 _⟩, ⟨below_set (below_set hbm (Nat.le_refl _)) (Nat.le_refl _)⟩⟩
        case rest =>
          obtain ⟨gq, A5, c5, A6, c6, rfl, HKQ, HGQ, HR5, HR6, HB5⟩ := hcut
          clear HE1 HE2 hS HB HB4 HK4 hc0 hc1 hl0 hl1
          have HESX := Aside0.mk hes
          clear hes
          have hq1 : wc.cell? ⟨gq, 1, none⟩ = some (.slice A6 ex.f1.length c6) := (blk_cell HKQ.out 1).trans rfl
          go_wp2
          clear hq1
          go_loopg [53] ex.f1.length (fun g v53 w' => ∃ y : Nat, v53 = .int .i64 y ∧ Aside0 (g = ex.f1.length - y ∧ y ≤ ex.f1.length) ∧ Aside0 (w'.heap[gq]? = some (.cells #[.slice A5 ex.f0.length c5, .slice A6 ex.f1.length c6] 49 (0, 0))) ∧ Aside0 (Kd.R (Kd.int .i64) 3 w' w4.heap.size (fun _ => True) (.slice A5 ex.f0.length c5) ex.f0) ∧ Aside0 (Kd.R k51 51 w' w4.heap.size (fun _ => True) (.slice A6 ex.f1.length c6) ((ex.f1.take y).map (mvEl l0_1 R) ++ ex.f1.drop y)) ∧ Aside0 (Below w4.heap.size w4 w'))
          case atStart => exact ⟨0, rfl, ⟨by simp, by omega⟩, HKQ, HR5, ⟨by simpa using HR6.out⟩, HB5⟩
          clear HKQ HR5 HR6 HB5
          case round =>
            obtain ⟨y, rfl, HY, HKQ, HR5, HR6, HB5⟩ := hrel
            by_cases hyl : y < ex.f1.length
            · have hltz : (y : Int) < (ex.f1.length : Int) := by omega
              have p0 : 0 ≤ (y : Int) := by omega
              have hcl : (ex.f1.take y).map (mvEl l0_1 R) ++ ex.f1.drop y = (ex.f1.take y).map (mvEl l0_1 R) ++ ex.f1.drop y ∧ ((ex.f1.take y).map (mvEl l0_1 R) ++ ex.f1.drop y).length = ex.f1.length := ⟨rfl, by simp; omega⟩
              obtain ⟨gr, cr, ev, hbg⟩ := Kd.R_at HR6.out (by rw [hcl.2]; omega)
              injection ev with ev1 ev2 ev3
              subst ev1
              clear ev2 ev3
              obtain ⟨xe, hxe⟩ : ∃ xe, ex.f1[y]? = some xe := ⟨_, List.getElem?_eq_getElem hyl⟩
              have HXE := Aside0.mk hxe
              have HGT : Aside0 (((ex.f1.take y).map (mvEl l0_1 R) ++ ex.f1.drop y)[y]? = some xe) := ⟨(get_step _ _ _ hyl).trans hxe⟩
              obtain ⟨hcs, hfz⟩ := Kd.R_cells (d := k51) (enc := fun x => [.int .i64 x.f0, .int .i64 x.f1, .int .i64 x.f2, .bool x.f3]) (k := 4) rfl (fun _ _ _ h => k51_open h) HR6.out HGT.out
              have hy0 : wr.cell? ⟨gr, y * 4, none⟩ = some (.int .i64 xe.f0) := hcs 0 _ rfl
              have hy0d : wr.drew.cell? ⟨gr, y * 4, none⟩ = some (.int .i64 xe.f0) := hy0
              have hfr : wr.frozen? ⟨gr, y * 4, none⟩ = false := hfz (y * 4)
              have HCT := fun (W : World) (hb : Below wr.heap.size wr W) => mover1_calls W gO gK gM A0_1 c0_1 l0_1 R HF0.out xe.f0 ((HMV4.out.below HB5.out).below hb)
              have HFR : ∀ W : World, Below wr.heap.size wr W → W.cell? ⟨gr, y * 4, none⟩ = some (.int .i64 xe.f0) ∧ W.frozen? ⟨gr, y * 4, none⟩ = false := fun W hb => ⟨pw_cell_below hb hy0, (hb.frozen (World.block_lt_of_cell? _ _ hy0)).trans hfr⟩
              have hS : ∀ W : World, W.heap[gq]? = wr.heap[gq]? → (W.cell? ⟨gq, 1, none⟩ = some (.slice (some ⟨gr, 0, none⟩) ex.f1.length c6)) := fun W hb => by
                have hk := hb.trans HKQ.out
                exact (blk_cell hk 1).trans rfl
              clear hcs hfz hxe hcl hy0 hfr
              have hgl : gq < wr.heap.size := blk_lt HKQ.out
              have hne : gq ≠ gr := fun e => Kd.R_ne HR6.out HKQ.out (by decide) (by rw [e]; rfl)
              go_wp2
              refine start_ (n := 14) (S := fun w' => w'.cell? ⟨gq, 1, none⟩ = some (.slice (some ⟨gr, 0, none⟩) ex.f1.length c6) ∧ w'.cell? ⟨gr, y * 4, none⟩ = some (.int .i64 xe.f0)) (ds := [13]) #[false, false, false, false, false, false, false, false, false, false, false, false, false, false] (by kernel_rfl) rfl rfl ⟨hS _ rfl, hy0d⟩ (fun hHeld => ?_); refine with_tabW groups_Apply.tab13 groups_Apply.bits13 (fun HT_ HW_ => ?_)
              refine pure_ (i := 0) (N := some 56) (v := ?_) (a' := ?_) #[true, false, false, false, false, false, false, false, false, false, false, false, false, false] rfl rfl (any_of HT_.out (by kernel_rfl)) (fun _ _ _ h => h) (Or.inl ⟨by rfl, ?_⟩) ?_ ?_
              rotate_left
              · intro w'
                go_simp
                with_reducible rfl
              rotate_left
              · simp only [Act.put, List.setIfInBounds_toArray, List.set_cons_zero, List.set_cons_succ, i64_w, i32_w]
                rfl
              refine pure_ (i := 2) (N := some 58) (v := ?_) (a' := ?_) #[true, false, true, false, false, false, false, false, false, false, false, false, false, false] rfl rfl (any_of HT_.out (by kernel_rfl)) (fun _ _ _ h => h) (Or.inl ⟨by rfl, ?_⟩) ?_ ?_
              rotate_left
              · intro w'
                go_simp
                with_reducible rfl
              rotate_left
              · simp only [Act.put, List.setIfInBounds_toArray, List.set_cons_zero, List.set_cons_succ, i64_w, i32_w]
                rfl
              refine pure_ (i := 3) (N := some 59) (v := ?_) (a' := ?_) #[true, false, true, true, false, false, false, false, false, false, false, false, false, false] rfl rfl (any_of HT_.out (by kernel_rfl)) (fun _ _ _ h => h) (Or.inl ⟨by rfl, ?_⟩) ?_ ?_
              rotate_left
              · intro w'
                go_simp
                with_reducible rfl
              rotate_left
              · simp only [Act.put, List.setIfInBounds_toArray, List.set_cons_zero, List.set_cons_succ, i64_w, i32_w]
                rfl
              refine pure_ (i := 4) (N := some 60) (v := ?_) (a' := ?_) #[true, false, true, true, true, false, false, false, false, false, false, false, false, false] rfl rfl (any_of HT_.out (by kernel_rfl)) (fun _ _ _ h => h) (Or.inl ⟨by rfl, ?_⟩) ?_ ?_
              rotate_left
              · intro w'
                go_simp
                with_reducible rfl
              rotate_left
              · simp only [Act.put, List.setIfInBounds_toArray, List.set_cons_zero, List.set_cons_succ, i64_w, i32_w]
                rfl
              refine pure_ (i := 6) (N := some 62) (v := ?_) (a' := ?_) #[true, false, true, true, true, false, true, false, false, false, false, false, false, false] rfl rfl (any_of HT_.out (by kernel_rfl)) (fun _ _ _ h => h) (Or.inl ⟨by rfl, ?_⟩) ?_ ?_
              rotate_left
              · intro w'
                go_simp
                with_reducible rfl
              rotate_left
              · simp only [Act.put, List.setIfInBounds_toArray, List.set_cons_zero, List.set_cons_succ, i64_w, i32_w]
                rfl
              refine take_ (i := 1) (N := some 57) (v := ?_) (a' := ?_) #[true, true, true, true, true, false, true, false, false, false, false, false, false, false] rfl rfl (take_ofW HT_.out HW_.out (by kernel_rfl)) (fun _ _ _ h => h) (Or.inl ⟨by rfl, ?_⟩) hHeld ?_ ?_
              rotate_left
              · rintro w' ⟨s0, s1⟩
                go_simp
                with_reducible rfl
              rotate_left
              · simp only [Act.put, List.setIfInBounds_toArray, List.set_cons_zero, List.set_cons_succ, i64_w, i32_w]
                rfl
              refine take_ (i := 5) (N := some 61) (v := ?_) (a' := ?_) #[true, true, true, true, true, true, true, false, false, false, false, false, false, false] rfl rfl (take_ofW HT_.out HW_.out (by kernel_rfl)) (fun _ _ _ h => h) (Or.inl ⟨by rfl, ?_⟩) hHeld ?_ ?_
              rotate_left
              · rintro w' ⟨s0, s1⟩
                go_simp
                with_reducible rfl
              rotate_left
              · simp only [Act.put, List.setIfInBounds_toArray, List.set_cons_zero, List.set_cons_succ, i64_w, i32_w]
                rfl
              refine pure_ (i := 7) (N := some 63) (v := ?_) (a' := ?_) #[true, true, true, true, true, true, true, true, false, false, false, false, false, false] rfl rfl (any_of HT_.out (by kernel_rfl)) (fun _ _ _ h => h) (Or.inl ⟨by rfl, ?_⟩) ?_ ?_
              rotate_left
              · intro w'
                go_simp
                with_reducible rfl
              rotate_left
              · simp only [Act.put, List.setIfInBounds_toArray, List.set_cons_zero, List.set_cons_succ, i64_w, i32_w]
                rfl
              refine pure_ (i := 8) (N := some 64) (v := ?_) (a' := ?_) #[true, true, true, true, true, true, true, true, true, false, false, false, false, false] rfl rfl (any_of HT_.out (by kernel_rfl)) (fun _ _ _ h => h) (Or.inl ⟨by rfl, ?_⟩) ?_ ?_
              rotate_left
              · intro w'
                go_simp
                with_reducible rfl
              rotate_left
              · simp only [Act.put, List.setIfInBounds_toArray, List.set_cons_zero, List.set_cons_succ, i64_w, i32_w]
                rfl
              refine take_ (i := 9) (N := some 65) (v := ?_) (a' := ?_) #[true, true, true, true, true, true, true, true, true, true, false, false, false, false] rfl rfl (take_ofW HT_.out HW_.out (by kernel_rfl)) (fun _ _ _ h => h) (Or.inl ⟨by rfl, ?_⟩) hHeld ?_ ?_
              rotate_left
              · rintro w' ⟨s0, s1⟩
                go_simp
                with_reducible rfl
              rotate_left
              · simp only [Act.put, List.setIfInBounds_toArray, List.set_cons_zero, List.set_cons_succ, i64_w, i32_w]
                rfl
              refine one_ (i := 10) (N := some 66) #[true, true, true, true, true, true, true, true, true, true, true, false, false, false] rfl rfl (one_of HT_.out (by kernel_rfl)) (by decide) (fun K hK => ?_)
              go_simp
              go_at_call 42
              refine (HCT _ (below_drew (Below.refl _ _))).mono ?_
              rintro e w7 ⟨rfl, hb7⟩
              obtain ⟨hz0, hz1⟩ := HFR _ (below_step (below_drew (Below.refl _ _)) hb7)
              go_wp2_with fail
              refine hK.out _ _ ⟨hS _ (hb7.block gq hgl), hz0⟩ (fun hHeld => ?_)
              clear hK K
              refine pure_ (i := 11) (N := some 67) (v := ?_) (a' := ?_) #[true, true, true, true, true, true, true, true, true, true, true, true, false, false] rfl rfl (any_of HT_.out (by kernel_rfl)) (fun _ _ _ h => h) (Or.inl ⟨by rfl, ?_⟩) ?_ ?_
              rotate_left
              · intro w'
                go_simp
                with_reducible rfl
              rotate_left
              · simp only [Act.put, List.setIfInBounds_toArray, List.set_cons_zero, List.set_cons_succ, i64_w, i32_w]
                rfl
              refine pure_ (i := 12) (N := some 68) (v := ?_) (a' := ?_) #[true, true, true, true, true, true, true, true, true, true, true, true, true, false] rfl rfl (any_of HT_.out (by kernel_rfl)) (fun _ _ _ h => h) (Or.inl ⟨by rfl, ?_⟩) ?_ ?_
              rotate_left
              · intro w'
                go_simp
                with_reducible rfl
              rotate_left
              · simp only [Act.put, List.setIfInBounds_toArray, List.set_cons_zero, List.set_cons_succ, i64_w, i32_w]
                rfl
              refine last_ (i := 13) (N := none) #[true, true, true, true, true, true, true, true, true, true, true, true, true, true] rfl rfl (one_of HT_.out (by kernel_rfl)) (by decide) (fun K hK => ?_)
              refine skip_ (w1 := ?_) (by rfl) rfl ?_ ?_
              rotate_left
              · go_simp
                rfl
              refine hK.out _ _ ?_
              clear hK K
              refine done_ (done_of HT_.out (by kernel_rfl)) ?_
              have hcl : (List.map (mvEl l0_1 R) (List.take y ex.f1) ++ List.drop y ex.f1).length = ex.f1.length := by simp; omega
              have hseg := Kd.R_seg (d := k51) (i := (y : Int)) (c := [.int .i64 xe.f0, .int .i64 xe.f1, .int .i64 xe.f2, .bool xe.f3]) (seg := [.int .i64 (moveP l0_1 R xe.f0)]) (j := 0) (x' := mvEl l0_1 R xe) (okp := fun k => k ≠ gr) (Kd.R_below HR6.out (below_step (below_drew (Below.refl _ _)) hb7)) p0 hltz rfl (fun j u hu => by rw [Int.toNat_natCast]; exact pw_cell_below (below_step (below_drew (Below.refl _ _)) hb7) ((Kd.R_cells (d := k51) (enc := fun x => [.int .i64 x.f0, .int .i64 x.f1, .int .i64 x.f2, .bool x.f3]) (k := 4) rfl (fun _ _ _ h => k51_open h) HR6.out HGT.out).1 j u hu)) (by show 0 + 1 ≤ 4; omega) (k51_mkM _ _ _ (mvEl l0_1 R xe)) (fun k hk => ⟨trivial, hk⟩)
              rw [Int.toNat_natCast, set_step (mvEl l0_1 R) ex.f1 y xe HXE.out] at hseg
              obtain ⟨hr6, hg6⟩ := hseg
              have hr6' : Kd.R k51 51 (w7.setCell ⟨gr, y * 4, none⟩ (.int .i64 (moveP l0_1 R xe.f0))) w4.heap.size (fun _ => True) (.slice (some ⟨gr, 0, none⟩) ex.f1.length c6) ((ex.f1.take (y + 1)).map (mvEl l0_1 R) ++ ex.f1.drop (y + 1)) := hr6
              have hbw : Below w4.heap.size w4 (w7.setCell ⟨gr, y * 4, none⟩ (.int .i64 (moveP l0_1 R xe.f0))) := below_set (below_step HB5.out (below_step (below_drew (Below.refl _ _)) hb7)) hbg
              have hkq : (w7.setCell ⟨gr, y * 4, none⟩ (.int .i64 (moveP l0_1 R xe.f0))).heap[gq]? = some (.cells #[.slice A5 ex.f0.length c5, .slice (some ⟨gr, 0, none⟩) ex.f1.length c6] 49 (0, 0)) := blk_far ((hb7.block gq hgl).trans HKQ.out) hne _
              have hr5 : Kd.R (Kd.int .i64) 3 (w7.setCell ⟨gr, y * 4, none⟩ (.int .i64 (moveP l0_1 R xe.f0))) w4.heap.size (fun _ => True) (.slice A5 ex.f0.length c5) ex.f0 := by
                have ht := Kd.R_typed HR6.out gr rfl
                obtain ⟨cells, ht⟩ := ht
                exact Kd.R_set (Kd.R_below HR5.out (below_step (below_drew (Below.refl _ _)) hb7)) ((hb7.block gr (blk_lt ht)).trans ht) (by decide) _ _
              have HR6N := Aside0.mk hr6'
              have HBN := Aside0.mk hbw
              have HKQN := Aside0.mk hkq
              have HR5N := Aside0.mk hr5
              clear hr6 hg6 hr6' hbw hkq hr5 hz0 hz1 hcl HCT HFR hS hy0d
              generalize w7.setCell ⟨gr, y * 4, none⟩ (.int .i64 (moveP l0_1 R xe.f0)) = w8 at HR6N HBN HKQN HR5N ⊢
              go_wp2
              have hyb : ex.f1.length ≤ 1000000 := HESX.out.2
              go_roundg (ex.f1.length - (y + 1))
              case measure => have := HY.out; omega
              case rel => have hwr := wrap_up p0 (show (y : Int) < 9223372036854775807 by omega); exact ⟨y + 1, by rw [hwr]; rfl, ⟨rfl, Nat.succ_le_of_lt hyl⟩, HKQN, HR5N, HR6N, HBN⟩
            · have hye : y = ex.f1.length := by have := HY.out; omega
              have HR6F : Aside0 (Kd.R k51 51 wr w4.heap.size (fun _ => True) (.slice A6 ex.f1.length c6) (ex.f1.map (mvEl l0_1 R))) := ⟨by have h := HR6.out; rw [hye, List.take_length, List.drop_length, List.append_nil] at h; exact h⟩
              clear hye HR6
              have hx0 : wr.cell? ⟨gx, 0, none⟩ = some u := (blk_cell (blk_below HX4.out HB5.out) 0).trans rfl
              have hq0 : wr.cell? ⟨gq, 0, none⟩ = some (.slice A5 ex.f0.length c5) := (blk_cell HKQ.out 0).trans rfl
              have hq1 : wr.cell? ⟨gq, 1, none⟩ = some (.slice A6 ex.f1.length c6) := (blk_cell HKQ.out 1).trans rfl
              have hx0f : wr.frozen? ⟨gx, 0, none⟩ = false := blk_frozen (blk_below HX4.out HB5.out) 0
              have HSW := Aside0.mk (Kd.S_below HS4.out HB5.out)
              have HBW := Aside0.mk (below_step HBB4.out HB5.out)
              have HN := Aside0.mk hN
              have hlen : ((l0_0.take x).map (moveE l0_1 R)).length ≤ 1000000 := by have := HES.out.1; simp; omega
              have HR5' := Aside0.mk (Kd.R_lower (Kd.R_mono (ok' := fun k => gy ≤ k) (Kd.R_bound HR5.out) (fun k hk => Nat.le_trans HN.out hk.2.1)) HBB4.out.size)
              have HR6' := Aside0.mk (Kd.R_lower (Kd.R_mono (ok' := fun k => gy ≤ k) (Kd.R_bound HR6F.out) (fun k hk => Nat.le_trans HN.out hk.2.1)) HBB4.out.size)
              have HLEN := Aside0.mk hlen
              have HBLK : Aside0 (∀ g, g < wr.heap.size → g ≤ gx → some g ≠ u.ownBlock) := ⟨fun g _ hgx' e => by have := HU.out g e.symm; omega⟩
              clear hlen hN
              go_wp2_with (first
                | ((with_reducible refine gate_builtin (b := .append) (xs := #[.tmp 71, .tmp 73]) rfl ?_)
                   at_builtin
                   refine Kd.S_append k49 (w0 := w) w.heap.size rfl (.tmp 71) (.tmp 73) 22 49 (.agg #[(.slice none 0 0), (.slice none 0 0)]) 48 rfl Try.underlying22 info49 rfl (by decide) (by omega) u ((l0_0.take x).map (moveE l0_1 R)) (moveE l0_1 R ex) [.slice A5 ex.f0.length c5, .slice A6 ex.f1.length c6] (fun _ => True) (fun k => gy ≤ k) rfl rfl (k49_mkM _ _ _ (moveE l0_1 R ex) HR5'.out HR6'.out) (fun k hk => ⟨trivial, fun e => by have := HOWN.out k e.symm; omega⟩) (fun _ _ => trivial) (Kd.S_mono HSW.out (fun k hk => ⟨trivial, by have := hk.2; omega⟩)) HBW.out HBW.out.size (by have := HLEN.out; omega) ?_
                   intro v1 w7 ho hb hg hat
                   have hx7 : w7.heap[gx]? = some (.cells #[u, .slice A R.length c, .int .i64 a0_2, .int .i64 a0_3, .int .i64 a0_4] 25 (0, 0)) := (hg.block gx (blk_lt (blk_below HX4.out HB5.out)) (HBLK.out gx (blk_lt (blk_below HX4.out HB5.out)) (Nat.le_refl _))).trans (blk_below HX4.out HB5.out)
                   have hc7 : w7.cell? ⟨gx, 0, none⟩ = some u := (blk_cell hx7 0).trans rfl
                   have hf7 : w7.frozen? ⟨gx, 0, none⟩ = false := blk_frozen hx7 0
                   have hxs : (l0_0.take x).map (moveE l0_1 R) ++ [moveE l0_1 R ex] = (l0_0.take (x + 1)).map (moveE l0_1 R) := by rw [List.take_succ_eq_append_getElem HLT.out, List.map_append, ← HEX.out, rdT49 HLT.out]; rfl
                   rw [hxs] at ho
                   obtain ⟨L1, hL1⟩ : ∃ L1, (l0_0.take (x + 1)).map (moveE l0_1 R) = L1 := ⟨_, rfl⟩
                   rw [hL1] at ho
                   have HL1 := Aside0.mk hL1
                   clear hxs hL1
                   obtain ⟨Ao, co, eo⟩ := Kd.S_slice ho
                   subst eo
                   have HX7 := Aside0.mk hx7
                   have HO7 := Aside0.mk ho
                   have HB7 := Aside0.mk hb
                   have HG7 := Aside0.mk hg
                   have HAT := Aside0.mk hat
                   clear hx7 ho hb hg hat))
              have hxl := HLT.out
              have hxm := HES.out.1
              have hgl : gx < wr.heap.size := blk_lt (blk_below HX4.out HB5.out)
              have hlo := HLO.out
              have hOld : ∀ g, g < gx → (w7.setCell ⟨gx, 0, none⟩ (.slice Ao L1.length co)).heap[g]? = wr.heap[g]? := fun g hg => (Below.heap_setCell w7 _ _ g (by show g ≠ gx; omega)).trans (HG7.out.block g (by omega) (HBLK.out g (by omega) (by omega)))
              go_roundg (l0_0.length - (x + 1))
              case measure => have := HG.out; omega
              case rel =>
                have hwr := wrap_up (show 0 ≤ (x : Int) by omega) (show (x : Int) < 9223372036854775807 by omega)
                exact ⟨x + 1, .slice Ao L1.length co, by rw [hwr]; rfl, ⟨rfl, Nat.succ_le_of_lt hxl⟩, ⟨blk_put HX7.out 0 _ rfl⟩, ⟨by rw [HL1.out]; exact Kd.S_set HO7.out HX7.out (by decide) 0 _⟩, ⟨fun k hk => by
                  rcases HAT.out with h | ⟨b, h, hb⟩
                  · exact HU.out k (h ▸ hk)
                  · rw [h] at hk
                    injection hk with hk
                    omega⟩, ⟨Kd.R_set (Kd.R_over' (Kd.R_below HRR4.out HB5.out) (Kd.S_typed HSW.out) (by decide) HG7.out) HX7.out (by decide) 0 _⟩, ⟨MoverAt.kept (HMV4.out.below HB5.out) (hOld gO hlo.1) (hOld gK hlo.2.1) (hOld gM hlo.2.2.1) (Kd.C_below HR1.out (below_set HB7.out hgx))⟩, ⟨(hOld _ (by omega)).trans (blk_below HKK4.out HB5.out)⟩, ⟨(hOld _ hlo.2.2.2).trans (blk_below HTT4.out HB5.out)⟩, ⟨below_set HB7.out hgx⟩⟩
      · have hxe : x = l0_0.length := by have := HG.out; omega
        have HSF : Aside0 (Kd.S k49 49 wr w.heap.size (fun _ => True) u (l0_0.map (moveE l0_1 R))) := ⟨by have h := HS.out; rw [hxe, List.take_length] at h; exact h⟩
        obtain ⟨L1, hL1⟩ : ∃ L1, l0_0.map (moveE l0_1 R) = L1 := ⟨_, rfl⟩
        rw [hL1] at HSF
        have HL1 := Aside0.mk hL1
        clear hxe hL1 HS
        obtain ⟨Ao, co, eo⟩ := Kd.S_slice HSF.out
        subst eo
        have hx0 : wr.cell? ⟨gx, 0, none⟩ = some (.slice Ao L1.length co) := (blk_cell HX.out 0).trans rfl
        have hx1 : wr.cell? ⟨gx, 1, none⟩ = some (.slice A R.length c) := (blk_cell HX.out 1).trans rfl
        have hx2 : wr.cell? ⟨gx, 2, none⟩ = some (.int .i64 a0_2) := (blk_cell HX.out 2).trans rfl
        have hx3 : wr.cell? ⟨gx, 3, none⟩ = some (.int .i64 a0_3) := (blk_cell HX.out 3).trans rfl
        have hx4 : wr.cell? ⟨gx, 4, none⟩ = some (.int .i64 a0_4) := (blk_cell HX.out 4).trans rfl
        have hz0 : wr.cell? ⟨w.heap.size + 1, 0, none⟩ = some (.slice none 0 0) := (blk_cell HT.out 0).trans rfl
        have hz1 : wr.cell? ⟨w.heap.size + 1, 1, none⟩ = some (.slice none 0 0) := (blk_cell HT.out 1).trans rfl
        have hz2 : wr.cell? ⟨w.heap.size + 1, 2, none⟩ = some (.int .i64 0) := (blk_cell HT.out 2).trans rfl
        have hz3 : wr.cell? ⟨w.heap.size + 1, 3, none⟩ = some (.int .i64 0) := (blk_cell HT.out 3).trans rfl
        have hz4 : wr.cell? ⟨w.heap.size + 1, 4, none⟩ = some (.int .i64 0) := (blk_cell HT.out 4).trans rfl
        have hf0 := blk_frozen HT.out 0
        have hf1 := blk_frozen HT.out 1
        have hf2 := blk_frozen HT.out 2
        have hf3 := blk_frozen HT.out 3
        have hf4 := blk_frozen HT.out 4
        go_wp2
        refine bodyPost_ret (results_ct rfl _ _ (w.heap.size + 1) 25 #[.slice Ao L1.length co, .slice A R.length c, .int .i64 a0_2, .int .i64 a0_3, .int .i64 a0_4] (0, 0) _ rfl (put5 HT.out) Try.underlying25 rfl (by kernel_rfl)) rfl ?_
        exact ⟨_, _, rfl, by rw [HL1.out]; exact S_put5 HSF.out HT.out (by decide), R_put5 HRR.out HT.out (by decide), below_put5 HB.out (by omega)⟩
  · obtain ⟨rfl, rfl, rfl, rfl, rfl, rfl⟩ : [] = r1 ∧ [] = r2 ∧ 0 = r3 ∧ 0 = r4 ∧ 0 = r5 ∧ eo = r6 := by
      have h := H.out
      rw [if_neg he] at h
      simp only [Option.some.injEq, Prod.mk.injEq] at h
      obtain ⟨h1, h2, h3, h4, h5, h6⟩ := h
      exact ⟨h1, h2, h3, h4, h5, h6⟩
    have he2 : (eo != 0) = true := bne_iff_ne.2 he
    have hz0 : w1.cell? ⟨w.heap.size + 1, 0, none⟩ = some (.slice none 0 0) := (blk_cell HT1.out 0).trans rfl
    have hz1 : w1.cell? ⟨w.heap.size + 1, 1, none⟩ = some (.slice none 0 0) := (blk_cell HT1.out 1).trans rfl
    have hz2 : w1.cell? ⟨w.heap.size + 1, 2, none⟩ = some (.int .i64 0) := (blk_cell HT1.out 2).trans rfl
    have hz3 : w1.cell? ⟨w.heap.size + 1, 3, none⟩ = some (.int .i64 0) := (blk_cell HT1.out 3).trans rfl
    have hz4 : w1.cell? ⟨w.heap.size + 1, 4, none⟩ = some (.int .i64 0) := (blk_cell HT1.out 4).trans rfl
    have hf0 := blk_frozen HT1.out 0
    have hf1 := blk_frozen HT1.out 1
    have hf2 := blk_frozen HT1.out 2
    have hf3 := blk_frozen HT1.out 3
    have hf4 := blk_frozen HT1.out 4
    clear H he
    go_wp2
    refine bodyPost_ret (results_ct rfl _ _ (w.heap.size + 1) 25 #[.slice none 0 0, .slice none 0 0, .int .i64 0, .int .i64 0, .int .i64 0] (0, 0) _ rfl (put5 HT1.out) Try.underlying25 rfl (by kernel_rfl)) rfl ?_
    exact ⟨_, _, rfl, Kd.S_nil _ _ _ _ _, Kd.R_nil _ _ _ _ _, below_put5 HB1.out (by omega)⟩
end Go.Proofs.Ytfcpebjjcijgcaa.G
-- unicodetext/unicodetextref47.sameInts: printed by gprint.py
namespace Go.Proofs.Ytfcpebjjcijgcaa.G
open Go.RowKit Go.Proofs.YtfcpebjjcijgcaaW.PrintWords Go.Proofs.YtfcpebjjcijgcaaW.PrintLast Go.Proofs.YtfcpebjjcijgcaaW.PrintMore
attribute [local go_sem] max2_int min2_int max_two min_two max_three min_three max_four min_four   -- for this text's walks alone
set_option linter.unusedVariables false
set_option linter.unusedSimpArgs false
/-! ### unicodetextref47_sameInts: function 33 -/
def unicodetextref47_sameInts.l0 : Nat → List Int → List Int → Int → Option (Bool)
  | 0, _, _, _ => none
  | k + 1, x0, x1, x5 => if x5 < (x0.length : Int) then (if 0 ≤ x5 then (if x5 < (x1.length : Int) then (if (rd x0 x5) = (rd x1 x5) then (unicodetextref47_sameInts.l0 k x0 x1 (wrap64 (x5 + 1))) else (some false)) else (none)) else (none)) else (some true)
def unicodetextref47_sameInts.f (k : Nat) (l0 : List Int) (l1 : List Int) : Option (Bool) := if (l0.length : Int) = (l1.length : Int) then (unicodetextref47_sameInts.l0 k l0 l1 0) else (some false)
set_option maxHeartbeats 8000000 in
set_option maxRecDepth 100000 in
theorem unicodetextref47_sameInts.calls (k : Nat) (A0 : Option Addr) (c0 : Nat) (l0 : List Int) (A1 : Option Addr) (c1 : Nat) (l1 : List Int) (r : Bool) (w : World) (hr0 : Kd.C (Kd.int .i64) w A0 l0.length l0) (hc0 : l0.length ≤ c0) (hr1 : Kd.C (Kd.int .i64) w A1 l1.length l1) (hc1 : l1.length ≤ c1) (h : unicodetextref47_sameInts.f k l0 l1 = some r) :
    Calls Try.prog 33 #[.slice A0 l0.length c0, .slice A1 l1.length c1] w fun e w' => e = .returned (.bool r) ∧ Drawn0 w w' := by
  have HR0 := Aside0.mk hr0
  have HC0 := Aside0.mk hc0
  clear hr0 hc0
  have HR1 := Aside0.mk hr1
  have HC1 := Aside0.mk hc1
  clear hr1 hc1
  have H : (if (l0.length : Int) = (l1.length : Int) then (unicodetextref47_sameInts.l0 k l0 l1 0) else (some false)) = some r := h
  clear h
  by_cases c3 : (l0.length : Int) = (l1.length : Int)
  · rw [if_pos c3] at H
    have c3b0 : ((l0.length : Int) == (l1.length : Int)) = true := beq_iff_eq.mpr c3
    have c3b1 : ((l0.length : Int) != (l1.length : Int)) = false := bne_eq_false_iff_eq.mpr c3
    have c3b2 : (l0.length == l1.length) = true := by first | simpa using c3 | (simp at c3 ⊢; omega)
    clear c3
    have H' := Aside0.mk H
    clear H
    go_enter Try.func33, Try.ntmps33
    go_wp2
    repeat (go_quiet (fail); try go_wp2)
    go_loopg [5] k (fun kq v5 w' => ∃ (x5_1 : Int), v5 = .int .i64 x5_1 ∧ Aside0 (unicodetextref47_sameInts.l0 kq l0 l1 x5_1 = some r) ∧ Aside0 (kq ≤ k) ∧ Drawn0 w w')
    case atStart => exact ⟨(0), (by first | rfl | (simp; done) | (simp [*]; done)), H', ⟨Nat.le_refl _⟩, by repeat (first | exact Drawn0.refl _ | apply Drawn0.step)⟩
    case round =>
      clear H'
      try clear c1
      try clear p2
      try clear c3
      try clear c3b0
      try clear c3b1
      try clear c3b2
      obtain ⟨x5_1, rfl, HA, HK1, ⟨m1, rfl⟩⟩ := hrel
      cases gk with
      | zero => exact absurd HA.out (by simp [unicodetextref47_sameInts.l0])
      | succ k1 =>
        have H := HA.out
        clear HA
        simp only [unicodetextref47_sameInts.l0] at H
        by_cases c4 : x5_1 < (l0.length : Int)
        · rw [if_pos c4] at H
          have c4b0 : decide (x5_1 < (l0.length : Int)) = true := decide_eq_true c4
          clear c4
          by_cases c5 : 0 ≤ x5_1
          · rw [if_pos c5] at H
            have c5b0 : decide (0 ≤ x5_1) = true := decide_eq_true c5
            clear c5
            by_cases c6 : x5_1 < (l1.length : Int)
            · rw [if_pos c6] at H
              have c6b0 : decide (x5_1 < (l1.length : Int)) = true := decide_eq_true c6
              clear c6
              by_cases c7 : (rd l0 x5_1) = (rd l1 x5_1)
              · rw [if_pos c7] at H
                have c7b0 : ((rd l0 x5_1) == (rd l1 x5_1)) = true := beq_iff_eq.mpr c7
                have c7b1 : ((rd l0 x5_1) != (rd l1 x5_1)) = false := bne_eq_false_iff_eq.mpr c7
                clear c7
                have H' := Aside0.mk H
                clear H
                have p101 : 0 ≤ (x5_1 : Int) := of_decide_eq_true (by first | (with_reducible assumption) | assumption)
                have q101 : x5_1 < (l0.length : Int) := of_decide_eq_true (by first | (with_reducible assumption) | assumption)
                obtain ⟨ad101, e101, hx101_0⟩ := Kd.at_int HR0.out x5_1 p101 q101
                cases e101
                replace p101 := eq_true p101
                replace q101 := eq_true q101
                have p102 : 0 ≤ (x5_1 : Int) := of_decide_eq_true (by first | (with_reducible assumption) | assumption)
                have q102 : x5_1 < (l1.length : Int) := of_decide_eq_true (by first | (with_reducible assumption) | assumption)
                obtain ⟨ad102, e102, hx102_0⟩ := Kd.at_int HR1.out x5_1 p102 q102
                cases e102
                replace p102 := eq_true p102
                replace q102 := eq_true q102
                go_wp2
                repeat (go_quiet (fail); try go_wp2)
                go_roundg k1
                case measure => have := HK1.out; omega
                case rel => exact ⟨(wrap64 (x5_1 + 1)), (by first | rfl | (simp; done) | (simp [*]; done)), H', ⟨by have := HK1.out; omega⟩, by repeat (first | exact Drawn0.refl _ | apply Drawn0.step)⟩
              · rw [if_neg c7] at H
                have c7b0 : ((rd l0 x5_1) == (rd l1 x5_1)) = false := beq_eq_false_iff_ne.mpr c7
                have c7b1 : ((rd l0 x5_1) != (rd l1 x5_1)) = true := bne_iff_ne.mpr c7
                obtain rfl := Option.some.inj H
                have p101 : 0 ≤ (x5_1 : Int) := of_decide_eq_true (by first | (with_reducible assumption) | assumption)
                have q101 : x5_1 < (l0.length : Int) := of_decide_eq_true (by first | (with_reducible assumption) | assumption)
                obtain ⟨ad101, e101, hx101_0⟩ := Kd.at_int HR0.out x5_1 p101 q101
                cases e101
                replace p101 := eq_true p101
                replace q101 := eq_true q101
                have p102 : 0 ≤ (x5_1 : Int) := of_decide_eq_true (by first | (with_reducible assumption) | assumption)
                have q102 : x5_1 < (l1.length : Int) := of_decide_eq_true (by first | (with_reducible assumption) | assumption)
                obtain ⟨ad102, e102, hx102_0⟩ := Kd.at_int HR1.out x5_1 p102 q102
                cases e102
                replace p102 := eq_true p102
                replace q102 := eq_true q102
                go_wp2
                repeat (go_quiet (fail); try go_wp2)
                go_ret
                exact ⟨by first | rfl | (simp; done) | (simp [*]; done), by repeat (first | exact Drawn0.refl _ | apply Drawn0.step)⟩
            · rw [if_neg c6] at H
              exact absurd H (by simp)
          · rw [if_neg c5] at H
            exact absurd H (by simp)
        · rw [if_neg c4] at H
          have c4b0 : decide (x5_1 < (l0.length : Int)) = false := decide_eq_false c4
          clear c4
          obtain rfl := Option.some.inj H
          go_wp2
          repeat (go_quiet (fail); try go_wp2)
          go_ret
          exact ⟨by first | rfl | (simp; done) | (simp [*]; done), by repeat (first | exact Drawn0.refl _ | apply Drawn0.step)⟩
  · rw [if_neg c3] at H
    have c3b0 : ((l0.length : Int) == (l1.length : Int)) = false := beq_eq_false_iff_ne.mpr c3
    have c3b1 : ((l0.length : Int) != (l1.length : Int)) = true := bne_iff_ne.mpr c3
    have c3b2 : (l0.length == l1.length) = false := by first | simpa using c3 | (simp at c3 ⊢; omega)
    obtain rfl := Option.some.inj H
    go_enter Try.func33, Try.ntmps33
    go_wp2
    repeat (go_quiet (fail); try go_wp2)
    go_ret
    exact ⟨by first | rfl | (simp; done) | (simp [*]; done), by repeat (first | exact Drawn0.refl _ | apply Drawn0.step)⟩
end Go.Proofs.Ytfcpebjjcijgcaa.G
-- '==' of structs: printed by gprint.py
namespace Go.Proofs.Ytfcpebjjcijgcaa.G
open Go.RowKit Go.Proofs.YtfcpebjjcijgcaaW.PrintWords Go.Proofs.YtfcpebjjcijgcaaW.PrintLast Go.Proofs.YtfcpebjjcijgcaaW.PrintMore
attribute [local go_sem] max2_int min2_int max_two min_two max_three min_three max_four min_four   -- for this text's walks alone
set_option linter.unusedVariables false
set_option linter.unusedSimpArgs false
theorem eqA51 (d : Nat) (w : World) (x0 y0 : Int) (x1 y1 : Int) (x2 y2 : Int) (x3 y3 : Bool) :
    (Op.equalIn (d + 2) 51 (.agg #[.int .i64 x0, .int .i64 x1, .int .i64 x2, .bool x3]) (.agg #[.int .i64 y0, .int .i64 y1, .int .i64 y2, .bool y3])).run Try.prog w = .ok (x0 == y0 && (x1 == y1 && (x2 == y2 && (x3 == y3)))) w := by
  refine eqA_of Try.underlying51 (by kernel_rfl) ?_
  refine eqf_cons (by rfl) (by go_simp; rfl) (by go_simp; rfl) (by go_simp) ?_
  refine eqf_cons (by rfl) (by go_simp; rfl) (by go_simp; rfl) (by go_simp) ?_
  refine eqf_cons (by rfl) (by go_simp; rfl) (by go_simp; rfl) (by go_simp) ?_
  exact eqf_last (by rfl) (by go_simp; rfl) (by go_simp; rfl) (by go_simp)
end Go.Proofs.Ytfcpebjjcijgcaa.G
-- unicodetext/unicodetextref43.Same: printed by gprint.py
namespace Go.Proofs.Ytfcpebjjcijgcaa.G
open Go.RowKit Go.Proofs.YtfcpebjjcijgcaaW.PrintWords Go.Proofs.YtfcpebjjcijgcaaW.PrintLast Go.Proofs.YtfcpebjjcijgcaaW.PrintMore
attribute [local go_sem] max2_int min2_int max_two min_two max_three min_three max_four min_four   -- for this text's walks alone
set_option linter.unusedVariables false
set_option linter.unusedSimpArgs false
attribute [local go_sem high] eqA51
/-! ### unicodetextref43_Same: function 34 -/
def unicodetextref43_Same.l0 : Nat → List (S51) → List (S51) → Int → Option (Bool)
  | 0, _, _, _ => none
  | k + 1, x0, x1, x5 => if x5 < (x0.length : Int) then (if 0 ≤ x5 then (if x5 < (x1.length : Int) then (if (!(((rd_T51 x0 x5).f0) == ((rd_T51 x1 x5).f0)) || (!(((rd_T51 x0 x5).f1) == ((rd_T51 x1 x5).f1)) || (!(((rd_T51 x0 x5).f2) == ((rd_T51 x1 x5).f2)) || (!(((rd_T51 x0 x5).f3) == ((rd_T51 x1 x5).f3)))))) = true then (some false) else (unicodetextref43_Same.l0 k x0 x1 (wrap64 (x5 + 1)))) else (none)) else (none)) else (some true)
def unicodetextref43_Same.f (k : Nat) (l0 : List (S51)) (l1 : List (S51)) : Option (Bool) := if (l0.length : Int) = (l1.length : Int) then (unicodetextref43_Same.l0 k l0 l1 0) else (some false)
set_option maxHeartbeats 8000000 in
set_option maxRecDepth 100000 in
theorem unicodetextref43_Same.calls (k : Nat) (A0 : Option Addr) (c0 : Nat) (l0 : List (S51)) (A1 : Option Addr) (c1 : Nat) (l1 : List (S51)) (r : Bool) (w : World) (hr0 : Kd.C k51 w A0 l0.length l0) (hc0 : l0.length ≤ c0) (hr1 : Kd.C k51 w A1 l1.length l1) (hc1 : l1.length ≤ c1) (h : unicodetextref43_Same.f k l0 l1 = some r) :
    Calls Try.prog 34 #[.slice A0 l0.length c0, .slice A1 l1.length c1] w fun e w' => e = .returned (.bool r) ∧ Drawn0 w w' := by
  have hu51 := Try.underlying51
  have HR0 := Aside0.mk hr0
  have HC0 := Aside0.mk hc0
  clear hr0 hc0
  have HR1 := Aside0.mk hr1
  have HC1 := Aside0.mk hc1
  clear hr1 hc1
  have H : (if (l0.length : Int) = (l1.length : Int) then (unicodetextref43_Same.l0 k l0 l1 0) else (some false)) = some r := h
  clear h
  by_cases c3 : (l0.length : Int) = (l1.length : Int)
  · rw [if_pos c3] at H
    have c3b0 : ((l0.length : Int) == (l1.length : Int)) = true := beq_iff_eq.mpr c3
    have c3b1 : ((l0.length : Int) != (l1.length : Int)) = false := bne_eq_false_iff_eq.mpr c3
    have c3b2 : (l0.length == l1.length) = true := by first | simpa using c3 | (simp at c3 ⊢; omega)
    clear c3
    have H' := Aside0.mk H
    clear H
    go_enter Try.func34, Try.ntmps34
    go_wp2
    repeat (go_quiet (fail); try go_wp2)
    go_loopg [5] k (fun kq v5 w' => ∃ (x5_1 : Int), v5 = .int .i64 x5_1 ∧ Aside0 (unicodetextref43_Same.l0 kq l0 l1 x5_1 = some r) ∧ Aside0 (kq ≤ k) ∧ Drawn0 w w')
    case atStart => exact ⟨(0), (by first | rfl | (simp; done) | (simp [*]; done)), H', ⟨Nat.le_refl _⟩, by repeat (first | exact Drawn0.refl _ | apply Drawn0.step)⟩
    case round =>
      clear H'
      try clear c1
      try clear p2
      try clear c3
      try clear c3b0
      try clear c3b1
      try clear c3b2
      obtain ⟨x5_1, rfl, HA, HK1, ⟨m1, rfl⟩⟩ := hrel
      cases gk with
      | zero => exact absurd HA.out (by simp [unicodetextref43_Same.l0])
      | succ k1 =>
        have H := HA.out
        clear HA
        simp only [unicodetextref43_Same.l0] at H
        by_cases c4 : x5_1 < (l0.length : Int)
        · rw [if_pos c4] at H
          have c4b0 : decide (x5_1 < (l0.length : Int)) = true := decide_eq_true c4
          clear c4
          by_cases c5 : 0 ≤ x5_1
          · rw [if_pos c5] at H
            have c5b0 : decide (0 ≤ x5_1) = true := decide_eq_true c5
            clear c5
            by_cases c6 : x5_1 < (l1.length : Int)
            · rw [if_pos c6] at H
              have c6b0 : decide (x5_1 < (l1.length : Int)) = true := decide_eq_true c6
              clear c6
              by_cases c7 : (!(((rd_T51 l0 x5_1).f0) == ((rd_T51 l1 x5_1).f0)) || (!(((rd_T51 l0 x5_1).f1) == ((rd_T51 l1 x5_1).f1)) || (!(((rd_T51 l0 x5_1).f2) == ((rd_T51 l1 x5_1).f2)) || (!(((rd_T51 l0 x5_1).f3) == ((rd_T51 l1 x5_1).f3)))))) = true
              · rw [if_pos c7] at H
                have c7b0 : (!(((rd_T51 l0 x5_1).f0) == ((rd_T51 l1 x5_1).f0)) || (!(((rd_T51 l0 x5_1).f1) == ((rd_T51 l1 x5_1).f1)) || (!(((rd_T51 l0 x5_1).f2) == ((rd_T51 l1 x5_1).f2)) || (!(((rd_T51 l0 x5_1).f3) == ((rd_T51 l1 x5_1).f3)))))) = true := c7
                clear c7
                obtain rfl := Option.some.inj H
                have p101 : 0 ≤ (x5_1 : Int) := of_decide_eq_true (by first | (with_reducible assumption) | assumption)
                have q101 : x5_1 < (l0.length : Int) := of_decide_eq_true (by first | (with_reducible assumption) | assumption)
                obtain ⟨ad101, e101, hx101_0, hx101_1, hx101_2, hx101_3⟩ := at_T51 HR0.out x5_1 p101 q101
                cases e101
                replace p101 := eq_true p101
                replace q101 := eq_true q101
                have p102 : 0 ≤ (x5_1 : Int) := of_decide_eq_true (by first | (with_reducible assumption) | assumption)
                have q102 : x5_1 < (l1.length : Int) := of_decide_eq_true (by first | (with_reducible assumption) | assumption)
                obtain ⟨ad102, e102, hx102_0, hx102_1, hx102_2, hx102_3⟩ := at_T51 HR1.out x5_1 p102 q102
                cases e102
                replace p102 := eq_true p102
                replace q102 := eq_true q102
                go_wp2
                repeat (go_quiet (fail); try go_wp2)
                go_ret
                exact ⟨by first | rfl | (simp; done) | (simp [*]; done), by repeat (first | exact Drawn0.refl _ | apply Drawn0.step)⟩
              · rw [if_neg c7] at H
                have c7b0 : (!(((rd_T51 l0 x5_1).f0) == ((rd_T51 l1 x5_1).f0)) || (!(((rd_T51 l0 x5_1).f1) == ((rd_T51 l1 x5_1).f1)) || (!(((rd_T51 l0 x5_1).f2) == ((rd_T51 l1 x5_1).f2)) || (!(((rd_T51 l0 x5_1).f3) == ((rd_T51 l1 x5_1).f3)))))) = false := by simpa using c7
                clear c7
                have H' := Aside0.mk H
                clear H
                have p101 : 0 ≤ (x5_1 : Int) := of_decide_eq_true (by first | (with_reducible assumption) | assumption)
                have q101 : x5_1 < (l0.length : Int) := of_decide_eq_true (by first | (with_reducible assumption) | assumption)
                obtain ⟨ad101, e101, hx101_0, hx101_1, hx101_2, hx101_3⟩ := at_T51 HR0.out x5_1 p101 q101
                cases e101
                replace p101 := eq_true p101
                replace q101 := eq_true q101
                have p102 : 0 ≤ (x5_1 : Int) := of_decide_eq_true (by first | (with_reducible assumption) | assumption)
                have q102 : x5_1 < (l1.length : Int) := of_decide_eq_true (by first | (with_reducible assumption) | assumption)
                obtain ⟨ad102, e102, hx102_0, hx102_1, hx102_2, hx102_3⟩ := at_T51 HR1.out x5_1 p102 q102
                cases e102
                replace p102 := eq_true p102
                replace q102 := eq_true q102
                go_wp2
                repeat (go_quiet (fail); try go_wp2)
                go_roundg k1
                case measure => have := HK1.out; omega
                case rel => exact ⟨(wrap64 (x5_1 + 1)), (by first | rfl | (simp; done) | (simp [*]; done)), H', ⟨by have := HK1.out; omega⟩, by repeat (first | exact Drawn0.refl _ | apply Drawn0.step)⟩
            · rw [if_neg c6] at H
              exact absurd H (by simp)
          · rw [if_neg c5] at H
            exact absurd H (by simp)
        · rw [if_neg c4] at H
          have c4b0 : decide (x5_1 < (l0.length : Int)) = false := decide_eq_false c4
          clear c4
          obtain rfl := Option.some.inj H
          go_wp2
          repeat (go_quiet (fail); try go_wp2)
          go_ret
          exact ⟨by first | rfl | (simp; done) | (simp [*]; done), by repeat (first | exact Drawn0.refl _ | apply Drawn0.step)⟩
  · rw [if_neg c3] at H
    have c3b0 : ((l0.length : Int) == (l1.length : Int)) = false := beq_eq_false_iff_ne.mpr c3
    have c3b1 : ((l0.length : Int) != (l1.length : Int)) = true := bne_iff_ne.mpr c3
    have c3b2 : (l0.length == l1.length) = false := by first | simpa using c3 | (simp at c3 ⊢; omega)
    obtain rfl := Option.some.inj H
    go_enter Try.func34, Try.ntmps34
    go_wp2
    repeat (go_quiet (fail); try go_wp2)
    go_ret
    exact ⟨by first | rfl | (simp; done) | (simp [*]; done), by repeat (first | exact Drawn0.refl _ | apply Drawn0.step)⟩
end Go.Proofs.Ytfcpebjjcijgcaa.G
-- unicodetext/unicodetextref47.Same: printed by gprint.py
namespace Go.Proofs.Ytfcpebjjcijgcaa.G
open Go.RowKit Go.Proofs.YtfcpebjjcijgcaaW.PrintWords Go.Proofs.YtfcpebjjcijgcaaW.PrintLast Go.Proofs.YtfcpebjjcijgcaaW.PrintMore
attribute [local go_sem] max2_int min2_int max_two min_two max_three min_three max_four min_four   -- for this text's walks alone
set_option linter.unusedVariables false
set_option linter.unusedSimpArgs false
/-! ### unicodetextref47_Same: function 20 -/
mutual
def unicodetextref47_Same.j0 : Nat → Bool → List (S49) → List (S36) → Int → Int → Int → List (S49) → List (S36) → Int → Int → Int → Option (Bool)
  | 0, _, _, _, _, _, _, _, _, _, _, _ => none
  | k + 1, x41, x102000, x102001, x102002, x102003, x102004, x103000, x103001, x103002, x103003, x103004 => if x41 = true then (none) else (unicodetextref47_Same.l0 k 0 x102000 x102001 x102002 x102003 x102004 x103000 x103001 x103002 x103003 x103004)
def unicodetextref47_Same.l0 : Nat → Int → List (S49) → List (S36) → Int → Int → Int → List (S49) → List (S36) → Int → Int → Int → Option (Bool)
  | 0, _, _, _, _, _, _, _, _, _, _, _ => none
  | k + 1, x5, x102000, x102001, x102002, x102003, x102004, x103000, x103001, x103002, x103003, x103004 => if x5 < (x102000.length : Int) then (if 0 ≤ x5 then (if x5 < (x103000.length : Int) then ((unicodetextref47_sameInts.f k ((rd_T49 x102000 x5).f0) ((rd_T49 x103000 x5).f0)).bind fun t106 => (if t106 = true then ((unicodetextref43_Same.f k ((rd_T49 x102000 x5).f1) ((rd_T49 x103000 x5).f1)).bind fun t109 => (if t109 = true then (unicodetextref47_Same.l0 k (wrap64 (x5 + 1)) x102000 x102001 x102002 x102003 x102004 x103000 x103001 x103002 x103003 x103004) else (none))) else (none))) else (none)) else (none)) else (some true)
end
def unicodetextref47_Same.f (k : Nat) (l0_0 : List (S49)) (l0_1 : List (S36)) (a0_2 : Int) (a0_3 : Int) (a0_4 : Int) (l1_0 : List (S49)) (l1_1 : List (S36)) (a1_2 : Int) (a1_3 : Int) (a1_4 : Int) : Option (Bool) := (unicodetextref47_SameGroups.f k l0_1 l1_1).bind fun t103 => (if t103 = true then (if a0_2 = a1_2 then (if a0_3 = a1_3 then (if a0_4 = a1_4 then (unicodetextref47_Same.j0 k ((l0_0.length : Int) != (l1_0.length : Int)) l0_0 l0_1 a0_2 a0_3 a0_4 l1_0 l1_1 a1_2 a1_3 a1_4) else (none)) else (none)) else (none)) else (none))
def unicodetextref47_Same.T6 : Bool × List (List Nat × List Nat) := (true, [([], []), ([0], [0]), ([], []), ([1, 2], [1, 2]), ([3], [3]), ([4], [4]), ([], []), ([6], [6]), ([], []), ([7, 8], [7, 8]), ([9], [9]), ([10], [10]), ([5, 11], [5, 11]), ([12], [12]), ([13, 12], [13]), ([14], [14]), ([15, 14], [14, 15]), ([14], [14]), ([16, 17, 14], [14, 16, 17]), ([18, 14], [14, 18]), ([19, 14], [14, 19]), ([14], [14]), ([21, 14], [14, 21]), ([14], [14]), ([22, 23, 14], [14, 22, 23]), ([24, 14], [14, 24]), ([25, 14], [14, 25]), ([20, 26, 14, 14], [14, 20, 26]), ([27, 14], [14, 27]), ([14, 28], [14, 28])])
def unicodetextref47_Same.B6 : List Nat := [0, 1, 0, 7, 15, 31, 0, 64, 0, 448, 960, 1984, 4095, 8191, 16383, 32767, 65535, 32767, 262143, 524287, 1048575, 32767, 2129919, 32767, 14712831, 31490047, 65044479, 134217727, 268435455, 536870911]
theorem unicodetextref47_Same.tab6 : rtab .any (opsOf Try.f20 6) = unicodetextref47_Same.T6 := by kernel_rfl
theorem unicodetextref47_Same.bits6 : waitsOk unicodetextref47_Same.T6.2 unicodetextref47_Same.B6 = true := by kernel_rfl
set_option maxHeartbeats 8000000 in
set_option maxRecDepth 100000 in
theorem unicodetextref47_Same.calls (k : Nat) (A0_0 : Option Addr) (c0_0 : Nat) (l0_0 : List (S49)) (A0_1 : Option Addr) (c0_1 : Nat) (l0_1 : List (S36)) (a0_2 : Int) (a0_3 : Int) (a0_4 : Int) (A1_0 : Option Addr) (c1_0 : Nat) (l1_0 : List (S49)) (A1_1 : Option Addr) (c1_1 : Nat) (l1_1 : List (S36)) (a1_2 : Int) (a1_3 : Int) (a1_4 : Int) (r : Bool) (w : World) (hr0_0 : Kd.C k49 w A0_0 l0_0.length l0_0) (hc0_0 : l0_0.length ≤ c0_0) (hr0_1 : Kd.C k36 w A0_1 l0_1.length l0_1) (hc0_1 : l0_1.length ≤ c0_1) (hr1_0 : Kd.C k49 w A1_0 l1_0.length l1_0) (hc1_0 : l1_0.length ≤ c1_0) (hr1_1 : Kd.C k36 w A1_1 l1_1.length l1_1) (hc1_1 : l1_1.length ≤ c1_1) (h : unicodetextref47_Same.f k l0_0 l0_1 a0_2 a0_3 a0_4 l1_0 l1_1 a1_2 a1_3 a1_4 = some r) :
  Calls Try.prog 20 #[.agg #[.slice A0_0 l0_0.length c0_0, .slice A0_1 l0_1.length c0_1, .int .i64 a0_2, .int .i64 a0_3, .int .i64 a0_4], .agg #[.slice A1_0 l1_0.length c1_0, .slice A1_1 l1_1.length c1_1, .int .i64 a1_2, .int .i64 a1_3, .int .i64 a1_4]] w fun e w' => e = .returned (.bool r) ∧ Below w.heap.size w w' := by
 have hu25 := Try.underlying25
 have HR0_0 := Aside0.mk hr0_0
 have HC0_0 := Aside0.mk hc0_0
 clear hr0_0 hc0_0
 have HR0_1 := Aside0.mk hr0_1
 have HC0_1 := Aside0.mk hc0_1
 clear hr0_1 hc0_1
 have HR1_0 := Aside0.mk hr1_0
 have HC1_0 := Aside0.mk hc1_0
 clear hr1_0 hc1_0
 have HR1_1 := Aside0.mk hr1_1
 have HC1_1 := Aside0.mk hc1_1
 clear hr1_1 hc1_1
 have HB := Aside0.mk (Below.refl w.heap.size w)
 have H : ((unicodetextref47_SameGroups.f k l0_1 l1_1).bind fun t103 => (if t103 = true then (if a0_2 = a1_2 then (if a0_3 = a1_3 then (if a0_4 = a1_4 then (unicodetextref47_Same.j0 k ((l0_0.length : Int) != (l1_0.length : Int)) l0_0 l0_1 a0_2 a0_3 a0_4 l1_0 l1_1 a1_2 a1_3 a1_4) else (none)) else (none)) else (none)) else (none))) = some r := h
 clear h
 have HC3 := Aside0.mk H
 clear H
 go_enter Try.func20, Try.ntmps20
 go_upto_region 1 with (first | ((with_reducible refine gate_dst (N := 2) rfl ?_); (try (refine gate_guard (by rfl) ?_; dsimp only)); refine box_event ?hg (N := 2) ?hd (cs := #[.slice A0_0 l0_0.length c0_0, .slice A0_1 l0_1.length c0_1, .int .i64 a0_2, .int .i64 a0_3, .int .i64 a0_4]) (t := 25) ?hr ?_; (case hd => rfl); (case hg => rfl); (case hr => first | (go_simp; done) | (go_simp; rfl)); intro gb101 hg w4 hbox hb; have n0_ := Aside0.mk (below_step (by repeat (first | (with_reducible first | exact HB.out | apply below_alloc | apply pw_below_drewN | apply below_drew1) | exact HB.out)) hb); have n1_ := Aside0.mk (hbox); have n2_ := Aside0.mk ((by rw [hg]; exact (below_size (by repeat (first | (with_reducible first | exact HB.out | apply below_alloc | apply pw_below_drewN | apply below_drew1) | exact HB.out))) : w.heap.size ≤ gb101)); have n3_ := Aside0.mk ((by rw [hg]; exact (below_size (by repeat (first | (with_reducible first | exact HB.out | apply below_alloc | apply pw_below_drewN | apply below_drew1) | exact HB.out))) : w.heap.size ≤ gb101)); clear HB; have HB := n0_; have BK101 := n1_; have GW101 := n2_; have GE101 := n3_; clear n0_ n1_ n2_ n3_; clear hb hbox hg) | ((with_reducible refine gate_dst (N := 3) rfl ?_); (try (refine gate_guard (by rfl) ?_; dsimp only)); refine box_event ?hg (N := 3) ?hd (cs := #[.slice A1_0 l1_0.length c1_0, .slice A1_1 l1_1.length c1_1, .int .i64 a1_2, .int .i64 a1_3, .int .i64 a1_4]) (t := 25) ?hr ?_; (case hd => rfl); (case hg => rfl); (case hr => first | (go_simp; done) | (go_simp; rfl)); intro gb102 hg w5 hbox hb; have n0_ := Aside0.mk (blk_below (g := gb101) (o := .cells #[.slice A0_0 l0_0.length c0_0, .slice A0_1 l0_1.length c0_1, .int .i64 a0_2, .int .i64 a0_3, .int .i64 a0_4] 25 (0, 0)) (by (with_reducible repeat (first | refine blk_drewN ?_ _ | refine blk_drew ?_ | refine blk_alloc ?_ _)); exact BK101.out) hb); have n1_ := Aside0.mk (below_step (by repeat (first | (with_reducible first | exact HB.out | apply below_alloc | apply pw_below_drewN | apply below_drew1 | refine below_set ?_ GE101.out) | exact HB.out)) hb); have n2_ := Aside0.mk (hbox); have n3_ := Aside0.mk ((by rw [hg]; exact (below_size (by repeat (first | (with_reducible first | exact HB.out | apply below_alloc | apply pw_below_drewN | apply below_drew1 | refine below_set ?_ GE101.out) | exact HB.out))) : w.heap.size ≤ gb102)); have n4_ := Aside0.mk ((by rw [hg]; exact (below_size (by repeat (first | (with_reducible first | exact HB.out | apply below_alloc | apply pw_below_drewN | apply below_drew1 | refine below_set ?_ GE101.out) | exact HB.out))) : w.heap.size ≤ gb102)); have n5_ := Aside0.mk ((by rw [hg]; exact Nat.ne_of_lt (blk_lt (g := gb101) (o := .cells #[.slice A0_0 l0_0.length c0_0, .slice A0_1 l0_1.length c0_1, .int .i64 a0_2, .int .i64 a0_3, .int .i64 a0_4] 25 (0, 0)) (by (with_reducible repeat (first | refine blk_drewN ?_ _ | refine blk_drew ?_ | refine blk_alloc ?_ _)); exact BK101.out)) : gb101 ≠ gb102)); have n6_ := Aside0.mk ((by rw [hg]; exact Nat.ne_of_gt (blk_lt (g := gb101) (o := .cells #[.slice A0_0 l0_0.length c0_0, .slice A0_1 l0_1.length c0_1, .int .i64 a0_2, .int .i64 a0_3, .int .i64 a0_4] 25 (0, 0)) (by (with_reducible repeat (first | refine blk_drewN ?_ _ | refine blk_drew ?_ | refine blk_alloc ?_ _)); exact BK101.out)) : gb102 ≠ gb101)); clear BK101; clear HB; have BK101 := n0_; have HB := n1_; have BK102 := n2_; have GW102 := n3_; have GE102 := n4_; have NB101_102 := n5_; have NB102_101 := n6_; clear n0_ n1_ n2_ n3_ n4_ n5_ n6_; clear hb hbox hg))
 (try simp only [Act.put, List.setIfInBounds_toArray, List.set_cons_zero, List.set_cons_succ])
 go_cut [41] (fun v41 wc => ∃ (kq : Nat) (x41_2 : Bool), v41 = .bool x41_2 ∧ Aside0 (unicodetextref47_Same.j0 kq x41_2 l0_0 l0_1 a0_2 a0_3 a0_4 l1_0 l1_1 a1_2 a1_3 a1_4 = some r) ∧ Aside0 (kq ≤ k) ∧ Aside0 (wc.heap[gb101]? = some (.cells #[(.slice A0_0 l0_0.length c0_0), (.slice A0_1 l0_1.length c0_1), .int .i64 a0_2, .int .i64 a0_3, .int .i64 a0_4] 25 (0, 0))) ∧ Aside0 (wc.heap[gb102]? = some (.cells #[(.slice A1_0 l1_0.length c1_0), (.slice A1_1 l1_1.length c1_1), .int .i64 a1_2, .int .i64 a1_3, .int .i64 a1_4] 25 (0, 0))) ∧ Aside0 (Below w.heap.size w wc))
 case first =>
  have H := HC3.out
  clear HC3
  replace H := Option.bind_eq_some_iff.mp H
  obtain ⟨t103, A60, H⟩ := H
  replace H : (if t103 = true then (if a0_2 = a1_2 then (if a0_3 = a1_3 then (if a0_4 = a1_4 then (unicodetextref47_Same.j0 k ((l0_0.length : Int) != (l1_0.length : Int)) l0_0 l0_1 a0_2 a0_3 a0_4 l1_0 l1_1 a1_2 a1_3 a1_4) else (none)) else (none)) else (none)) else (none)) = some r := H
  have A6 := Aside0.mk A60
  clear A60
  by_cases c7 : t103 = true
  ·subst c7
   have H1 : (if a0_2 = a1_2 then (if a0_3 = a1_3 then (if a0_4 = a1_4 then (unicodetextref47_Same.j0 k ((l0_0.length : Int) != (l1_0.length : Int)) l0_0 l0_1 a0_2 a0_3 a0_4 l1_0 l1_1 a1_2 a1_3 a1_4) else (none)) else (none)) else (none)) = some r := by rw [if_pos rfl] at H; exact H
   clear H
   have H := H1
   clear H1
   by_cases c8 : a0_2 = a1_2
   ·rw [if_pos c8] at H
    have c8b0 : (a0_2 == a1_2) = true := beq_iff_eq.mpr c8
    have c8b1 : (a0_2 != a1_2) = false := bne_eq_false_iff_eq.mpr c8
    clear c8
    (first | rw [c8b0] | (simp only [i64_w, i32_w]; rw [c8b0]) | skip)
    by_cases c9 : a0_3 = a1_3
    ·rw [if_pos c9] at H
     have c9b0 : (a0_3 == a1_3) = true := beq_iff_eq.mpr c9
     have c9b1 : (a0_3 != a1_3) = false := bne_eq_false_iff_eq.mpr c9
     clear c9
     by_cases c10 : a0_4 = a1_4
     ·rw [if_pos c10] at H
      have c10b0 : (a0_4 == a1_4) = true := beq_iff_eq.mpr c10
      have c10b1 : (a0_4 != a1_4) = false := bne_eq_false_iff_eq.mpr c10
      clear c10
      have H' := Aside0.mk H
      clear H
      have hnb11 := NB101_102.out
      have hnc11 := NB102_101.out
      have hcz12_0 : w5.cell? ⟨gb101, 0, none⟩ = some (.slice A0_0 l0_0.length c0_0) := (blk_cell BK101.out 0).trans rfl
      have hcz12_1 : w5.cell? ⟨gb101, 1, none⟩ = some (.slice A0_1 l0_1.length c0_1) := (blk_cell BK101.out 1).trans rfl
      have hcz12_2 : w5.cell? ⟨gb101, 2, none⟩ = some (.int .i64 a0_2) := (blk_cell BK101.out 2).trans rfl
      have hcz12_3 : w5.cell? ⟨gb101, 3, none⟩ = some (.int .i64 a0_3) := (blk_cell BK101.out 3).trans rfl
      have hcz12_4 : w5.cell? ⟨gb101, 4, none⟩ = some (.int .i64 a0_4) := (blk_cell BK101.out 4).trans rfl
      have hfz12_0 := blk_frozen BK101.out 0
      have hfz12_1 := blk_frozen BK101.out 1
      have hfz12_2 := blk_frozen BK101.out 2
      have hfz12_3 := blk_frozen BK101.out 3
      have hfz12_4 := blk_frozen BK101.out 4
      have hcz13_0 : w5.cell? ⟨gb102, 0, none⟩ = some (.slice A1_0 l1_0.length c1_0) := (blk_cell BK102.out 0).trans rfl
      have hcz13_1 : w5.cell? ⟨gb102, 1, none⟩ = some (.slice A1_1 l1_1.length c1_1) := (blk_cell BK102.out 1).trans rfl
      have hcz13_2 : w5.cell? ⟨gb102, 2, none⟩ = some (.int .i64 a1_2) := (blk_cell BK102.out 2).trans rfl
      have hcz13_3 : w5.cell? ⟨gb102, 3, none⟩ = some (.int .i64 a1_3) := (blk_cell BK102.out 3).trans rfl
      have hcz13_4 : w5.cell? ⟨gb102, 4, none⟩ = some (.int .i64 a1_4) := (blk_cell BK102.out 4).trans rfl
      have hfz13_0 := blk_frozen BK102.out 0
      have hfz13_1 := blk_frozen BK102.out 1
      have hfz13_2 := blk_frozen BK102.out 2
      have hfz13_3 := blk_frozen BK102.out 3
      have hfz13_4 := blk_frozen BK102.out 4
      go_wp2_with (first | ((with_reducible refine gate_callee (f := 14) rfl ?_); refine goesL_ (some 10) rfl rfl Try.func14 (by kernel_rfl) rfl #[.slice A0_1 l0_1.length c0_1, .slice A1_1 l1_1.length c1_1] rfl (by (try simp only [List.map_toArray, List.map_cons, List.map_nil]); first | done | rfl | (simp only [List.length_drop, List.length_take]; rfl)) ?_; (with_reducible refine (unicodetextref47_SameGroups.calls k _ _ l0_1 _ _ l1_1 true _ ?side1 ?side2 ?side3 ?side4 A6.out).mono ?_); (case side1 => repeat (first | exact (Kd.C_below HR0_1.out HB.out) | (with_reducible refine Kd.C_alloc ?_ _) | (with_reducible refine Kd.C_drewN ?_ _) | (with_reducible refine Kd.C_drew ?_))); (case side2 => exact HC0_1.out); (case side3 => repeat (first | exact (Kd.C_below HR1_1.out HB.out) | (with_reducible refine Kd.C_alloc ?_ _) | (with_reducible refine Kd.C_drewN ?_ _) | (with_reducible refine Kd.C_drew ?_))); (case side4 => exact HC1_1.out); rintro e w' ⟨rfl, ⟨nd, rfl⟩⟩; refine ⟨_, rfl, ?_⟩))
      go_meet
      case rel => exact ⟨_, (((l0_0.length : Int) != (l1_0.length : Int))), (by first | rfl | (simp; done) | (simp [*]; done)), H', ⟨by first | omega | exact Nat.le_refl _⟩, ⟨by (with_reducible repeat (first | refine blk_drewN ?_ _ | refine blk_drew ?_ | refine blk_alloc ?_ _)); exact BK101.out⟩, ⟨by (with_reducible repeat (first | refine blk_drewN ?_ _ | refine blk_drew ?_ | refine blk_alloc ?_ _)); exact BK102.out⟩, ⟨by repeat (first | (with_reducible first | exact HB.out | apply below_alloc | apply pw_below_drewN | apply below_drew1 | refine below_set ?_ GE101.out | refine below_set ?_ GE102.out) | exact HB.out)⟩⟩
     ·rw [if_neg c10] at H
      exact absurd H (by simp)
    ·rw [if_neg c9] at H
     exact absurd H (by simp)
   ·rw [if_neg c8] at H
    exact absurd H (by simp)
  ·rw [if_neg c7] at H
   exact absurd H (by simp)
 case rest =>
  clear HC3
  try clear c1
  try clear c2
  try clear p2
  try clear c7
  try clear c8
  try clear c8b0
  try clear c8b1
  try clear c9
  try clear c9b0
  try clear c9b1
  try clear c10
  try clear c10b0
  try clear c10b1
  try clear c11
  try clear c14
  try clear c17
  try clear c20
  try clear c23
  try clear hcz12_0
  try clear hcz12_1
  try clear hcz12_2
  try clear hcz12_3
  try clear hcz12_4
  try clear hcz13_0
  try clear hcz13_1
  try clear hcz13_2
  try clear hcz13_3
  try clear hcz13_4
  try clear hcz15_0
  try clear hcz15_1
  try clear hcz15_2
  try clear hcz15_3
  try clear hcz15_4
  try clear hcz16_0
  try clear hcz16_1
  try clear hcz16_2
  try clear hcz16_3
  try clear hcz16_4
  try clear hcz18_0
  try clear hcz18_1
  try clear hcz18_2
  try clear hcz18_3
  try clear hcz18_4
  try clear hcz19_0
  try clear hcz19_1
  try clear hcz19_2
  try clear hcz19_3
  try clear hcz19_4
  try clear hcz21_0
  try clear hcz21_1
  try clear hcz21_2
  try clear hcz21_3
  try clear hcz21_4
  try clear hcz22_0
  try clear hcz22_1
  try clear hcz22_2
  try clear hcz22_3
  try clear hcz22_4
  try clear hcz24_0
  try clear hcz24_1
  try clear hcz24_2
  try clear hcz24_3
  try clear hcz24_4
  try clear hcz25_0
  try clear hcz25_1
  try clear hcz25_2
  try clear hcz25_3
  try clear hcz25_4
  try clear hfz12_0
  try clear hfz12_1
  try clear hfz12_2
  try clear hfz12_3
  try clear hfz12_4
  try clear hfz13_0
  try clear hfz13_1
  try clear hfz13_2
  try clear hfz13_3
  try clear hfz13_4
  try clear hfz15_0
  try clear hfz15_1
  try clear hfz15_2
  try clear hfz15_3
  try clear hfz15_4
  try clear hfz16_0
  try clear hfz16_1
  try clear hfz16_2
  try clear hfz16_3
  try clear hfz16_4
  try clear hfz18_0
  try clear hfz18_1
  try clear hfz18_2
  try clear hfz18_3
  try clear hfz18_4
  try clear hfz19_0
  try clear hfz19_1
  try clear hfz19_2
  try clear hfz19_3
  try clear hfz19_4
  try clear hfz21_0
  try clear hfz21_1
  try clear hfz21_2
  try clear hfz21_3
  try clear hfz21_4
  try clear hfz22_0
  try clear hfz22_1
  try clear hfz22_2
  try clear hfz22_3
  try clear hfz22_4
  try clear hfz24_0
  try clear hfz24_1
  try clear hfz24_2
  try clear hfz24_3
  try clear hfz24_4
  try clear hfz25_0
  try clear hfz25_1
  try clear hfz25_2
  try clear hfz25_3
  try clear hfz25_4
  obtain ⟨kq, x41_2, rfl, HA, HJ2, BK101, BK102, HB⟩ := hcut
  cases kq with
  | zero => exact absurd HA.out (by simp [unicodetextref47_Same.j0])
  | succ kj2 =>
   have H := HA.out
   clear HA
   simp only [unicodetextref47_Same.j0] at H
   by_cases c26 : x41_2 = true
   ·rw [if_pos c26] at H
    exact absurd H (by simp)
   ·replace c26 := Bool.eq_false_iff.mpr c26
    subst c26
    have H1 : (unicodetextref47_Same.l0 kj2 0 l0_0 l0_1 a0_2 a0_3 a0_4 l1_0 l1_1 a1_2 a1_3 a1_4) = some r := by rw [if_neg (show ¬ (false = true) by decide)] at H; exact H
    clear H
    have H := H1
    clear H1
    have H' := Aside0.mk H
    clear H
    go_wp2
    go_loopg [5] kj2 (fun kq v5 w' => ∃ (x5_2 : Int), v5 = .int .i64 x5_2 ∧ Aside0 (unicodetextref47_Same.l0 kq x5_2 l0_0 l0_1 a0_2 a0_3 a0_4 l1_0 l1_1 a1_2 a1_3 a1_4 = some r) ∧ Aside0 (kq ≤ kj2) ∧ Aside0 (w'.heap[gb101]? = some (.cells #[(.slice A0_0 l0_0.length c0_0), (.slice A0_1 l0_1.length c0_1), .int .i64 a0_2, .int .i64 a0_3, .int .i64 a0_4] 25 (0, 0))) ∧ Aside0 (w'.heap[gb102]? = some (.cells #[(.slice A1_0 l1_0.length c1_0), (.slice A1_1 l1_1.length c1_1), .int .i64 a1_2, .int .i64 a1_3, .int .i64 a1_4] 25 (0, 0))) ∧ Aside0 (Below w.heap.size w w'))
    case atStart => exact ⟨(0), (by first | rfl | (simp; done) | (simp [*]; done)), H', ⟨Nat.le_refl _⟩, ⟨by (with_reducible repeat (first | refine blk_drewN ?_ _ | refine blk_drew ?_ | refine blk_alloc ?_ _)); exact BK101.out⟩, ⟨by (with_reducible repeat (first | refine blk_drewN ?_ _ | refine blk_drew ?_ | refine blk_alloc ?_ _)); exact BK102.out⟩, ⟨by repeat (first | (with_reducible first | exact HB.out | apply below_alloc | apply pw_below_drewN | apply below_drew1 | refine below_set ?_ GE101.out | refine below_set ?_ GE102.out) | exact HB.out)⟩⟩
    case round =>
     clear H'
     try clear c1
     try clear c2
     try clear p2
     try clear c7
     try clear c8
     try clear c8b0
     try clear c8b1
     try clear c9
     try clear c9b0
     try clear c9b1
     try clear c10
     try clear c10b0
     try clear c10b1
     try clear c11
     try clear c14
     try clear c17
     try clear c20
     try clear c23
     try clear c26
     try clear hcz12_0
     try clear hcz12_1
     try clear hcz12_2
     try clear hcz12_3
     try clear hcz12_4
     try clear hcz13_0
     try clear hcz13_1
     try clear hcz13_2
     try clear hcz13_3
     try clear hcz13_4
     try clear hcz15_0
     try clear hcz15_1
     try clear hcz15_2
     try clear hcz15_3
     try clear hcz15_4
     try clear hcz16_0
     try clear hcz16_1
     try clear hcz16_2
     try clear hcz16_3
     try clear hcz16_4
     try clear hcz18_0
     try clear hcz18_1
     try clear hcz18_2
     try clear hcz18_3
     try clear hcz18_4
     try clear hcz19_0
     try clear hcz19_1
     try clear hcz19_2
     try clear hcz19_3
     try clear hcz19_4
     try clear hcz21_0
     try clear hcz21_1
     try clear hcz21_2
     try clear hcz21_3
     try clear hcz21_4
     try clear hcz22_0
     try clear hcz22_1
     try clear hcz22_2
     try clear hcz22_3
     try clear hcz22_4
     try clear hcz24_0
     try clear hcz24_1
     try clear hcz24_2
     try clear hcz24_3
     try clear hcz24_4
     try clear hcz25_0
     try clear hcz25_1
     try clear hcz25_2
     try clear hcz25_3
     try clear hcz25_4
     try clear hfz12_0
     try clear hfz12_1
     try clear hfz12_2
     try clear hfz12_3
     try clear hfz12_4
     try clear hfz13_0
     try clear hfz13_1
     try clear hfz13_2
     try clear hfz13_3
     try clear hfz13_4
     try clear hfz15_0
     try clear hfz15_1
     try clear hfz15_2
     try clear hfz15_3
     try clear hfz15_4
     try clear hfz16_0
     try clear hfz16_1
     try clear hfz16_2
     try clear hfz16_3
     try clear hfz16_4
     try clear hfz18_0
     try clear hfz18_1
     try clear hfz18_2
     try clear hfz18_3
     try clear hfz18_4
     try clear hfz19_0
     try clear hfz19_1
     try clear hfz19_2
     try clear hfz19_3
     try clear hfz19_4
     try clear hfz21_0
     try clear hfz21_1
     try clear hfz21_2
     try clear hfz21_3
     try clear hfz21_4
     try clear hfz22_0
     try clear hfz22_1
     try clear hfz22_2
     try clear hfz22_3
     try clear hfz22_4
     try clear hfz24_0
     try clear hfz24_1
     try clear hfz24_2
     try clear hfz24_3
     try clear hfz24_4
     try clear hfz25_0
     try clear hfz25_1
     try clear hfz25_2
     try clear hfz25_3
     try clear hfz25_4
     try clear p2
     obtain ⟨x5_2, rfl, HA, HK2, BK101, BK102, HB⟩ := hrel
     cases gk with
     | zero => exact absurd HA.out (by simp [unicodetextref47_Same.l0])
     | succ k2 =>
      have H := HA.out
      clear HA
      simp only [unicodetextref47_Same.l0] at H
      by_cases c27 : x5_2 < (l0_0.length : Int)
      ·rw [if_pos c27] at H
       have c27b0 : decide (x5_2 < (l0_0.length : Int)) = true := decide_eq_true c27
       clear c27
       by_cases c28 : 0 ≤ x5_2
       ·rw [if_pos c28] at H
        have c28b0 : decide (0 ≤ x5_2) = true := decide_eq_true c28
        clear c28
        by_cases c29 : x5_2 < (l1_0.length : Int)
        ·rw [if_pos c29] at H
         have c29b0 : decide (x5_2 < (l1_0.length : Int)) = true := decide_eq_true c29
         clear c29
         replace H := Option.bind_eq_some_iff.mp H
         obtain ⟨t106, A300, H⟩ := H
         replace H : (if t106 = true then ((unicodetextref43_Same.f k2 ((rd_T49 l0_0 x5_2).f1) ((rd_T49 l1_0 x5_2).f1)).bind fun t109 => (if t109 = true then (unicodetextref47_Same.l0 k2 (wrap64 (x5_2 + 1)) l0_0 l0_1 a0_2 a0_3 a0_4 l1_0 l1_1 a1_2 a1_3 a1_4) else (none))) else (none)) = some r := H
         have A30 := Aside0.mk A300
         clear A300
         by_cases c31 : t106 = true
         ·subst c31
          have H1 : ((unicodetextref43_Same.f k2 ((rd_T49 l0_0 x5_2).f1) ((rd_T49 l1_0 x5_2).f1)).bind fun t109 => (if t109 = true then (unicodetextref47_Same.l0 k2 (wrap64 (x5_2 + 1)) l0_0 l0_1 a0_2 a0_3 a0_4 l1_0 l1_1 a1_2 a1_3 a1_4) else (none))) = some r := by rw [if_pos rfl] at H; exact H
          clear H
          have H := H1
          clear H1
          replace H := Option.bind_eq_some_iff.mp H
          obtain ⟨t109, A320, H⟩ := H
          replace H : (if t109 = true then (unicodetextref47_Same.l0 k2 (wrap64 (x5_2 + 1)) l0_0 l0_1 a0_2 a0_3 a0_4 l1_0 l1_1 a1_2 a1_3 a1_4) else (none)) = some r := H
          have A32 := Aside0.mk A320
          clear A320
          by_cases c33 : t109 = true
          ·subst c33
           have H1 : (unicodetextref47_Same.l0 k2 (wrap64 (x5_2 + 1)) l0_0 l0_1 a0_2 a0_3 a0_4 l1_0 l1_1 a1_2 a1_3 a1_4) = some r := by rw [if_pos rfl] at H; exact H
           clear H
           have H := H1
           clear H1
           have H' := Aside0.mk H
           clear H
           have hnb34 := NB101_102.out
           have hnc34 := NB102_101.out
           have hcz35_0 : wr.cell? ⟨gb101, 0, none⟩ = some (.slice A0_0 l0_0.length c0_0) := (blk_cell BK101.out 0).trans rfl
           have hcz35_1 : wr.cell? ⟨gb101, 1, none⟩ = some (.slice A0_1 l0_1.length c0_1) := (blk_cell BK101.out 1).trans rfl
           have hcz35_2 : wr.cell? ⟨gb101, 2, none⟩ = some (.int .i64 a0_2) := (blk_cell BK101.out 2).trans rfl
           have hcz35_3 : wr.cell? ⟨gb101, 3, none⟩ = some (.int .i64 a0_3) := (blk_cell BK101.out 3).trans rfl
           have hcz35_4 : wr.cell? ⟨gb101, 4, none⟩ = some (.int .i64 a0_4) := (blk_cell BK101.out 4).trans rfl
           have hfz35_0 := blk_frozen BK101.out 0
           have hfz35_1 := blk_frozen BK101.out 1
           have hfz35_2 := blk_frozen BK101.out 2
           have hfz35_3 := blk_frozen BK101.out 3
           have hfz35_4 := blk_frozen BK101.out 4
           try go_wp2
           have n0_ := Aside0.mk (blk_drew BK101.out)
           have n1_ := Aside0.mk (blk_drew BK102.out)
           have n2_ := Aside0.mk (below_drew1 HB.out)
           clear BK101
           clear BK102
           clear HB
           have BK101 := n0_
           have BK102 := n1_
           have HB := n2_
           clear n0_ n1_ n2_
           have p104 : 0 ≤ (x5_2 : Int) := of_decide_eq_true (by first | (with_reducible assumption) | assumption)
           have q104 : x5_2 < (l0_0.length : Int) := of_decide_eq_true (by first | (with_reducible assumption) | assumption)
           obtain ⟨ad104, A104_0, c104_0, A104_1, c104_1, e104, hx104_0, hx104_1, hl104_0, hi104_0, hl104_1, hi104_1⟩ := at_T49 HR0_0.out x5_2 p104 q104
           have hw104_1 := hx104_1
           have hw104_0 := hx104_0
           cases e104
           replace hx104_0 := (HB.out.cell (World.block_lt_of_cell? w _ hx104_0)).trans hx104_0
           replace hx104_1 := (HB.out.cell (World.block_lt_of_cell? w _ hx104_1)).trans hx104_1
           have HR104_0 := Aside0.mk hi104_0
           have HC104_0 := Aside0.mk hl104_0
           clear hi104_0 hl104_0
           have HR104_1 := Aside0.mk hi104_1
           have HC104_1 := Aside0.mk hl104_1
           clear hi104_1 hl104_1
           replace p104 := eq_true p104
           replace q104 := eq_true q104
           have p105 : 0 ≤ (x5_2 : Int) := of_decide_eq_true (by first | (with_reducible assumption) | assumption)
           have q105 : x5_2 < (l1_0.length : Int) := of_decide_eq_true (by first | (with_reducible assumption) | assumption)
           obtain ⟨ad105, A105_0, c105_0, A105_1, c105_1, e105, hx105_0, hx105_1, hl105_0, hi105_0, hl105_1, hi105_1⟩ := at_T49 HR1_0.out x5_2 p105 q105
           have hw105_1 := hx105_1
           have hw105_0 := hx105_0
           cases e105
           replace hx105_0 := (HB.out.cell (World.block_lt_of_cell? w _ hx105_0)).trans hx105_0
           replace hx105_1 := (HB.out.cell (World.block_lt_of_cell? w _ hx105_1)).trans hx105_1
           have HR105_0 := Aside0.mk hi105_0
           have HC105_0 := Aside0.mk hl105_0
           clear hi105_0 hl105_0
           have HR105_1 := Aside0.mk hi105_1
           have HC105_1 := Aside0.mk hl105_1
           clear hi105_1 hl105_1
           replace p105 := eq_true p105
           replace q105 := eq_true q105
           have p107 : 0 ≤ (x5_2 : Int) := of_decide_eq_true (by first | (with_reducible assumption) | assumption)
           have q107 : x5_2 < (l0_0.length : Int) := of_decide_eq_true (by first | (with_reducible assumption) | assumption)
           obtain ⟨ad107, A107_0, c107_0, A107_1, c107_1, e107, hx107_0, hx107_1, hl107_0, hi107_0, hl107_1, hi107_1⟩ := at_T49 HR0_0.out x5_2 p107 q107
           have hw107_1 := hx107_1
           have hw107_0 := hx107_0
           obtain rfl : ad104 = ad107 := (by injection e107)
           replace hx107_0 := (HB.out.cell (World.block_lt_of_cell? w _ hx107_0)).trans hx107_0
           replace hx107_1 := (HB.out.cell (World.block_lt_of_cell? w _ hx107_1)).trans hx107_1
           have HR107_0 := Aside0.mk hi107_0
           have HC107_0 := Aside0.mk hl107_0
           clear hi107_0 hl107_0
           have HR107_1 := Aside0.mk hi107_1
           have HC107_1 := Aside0.mk hl107_1
           clear hi107_1 hl107_1
           replace p107 := eq_true p107
           replace q107 := eq_true q107
           have ea_ := Option.some.inj (hx104_0.symm.trans hx107_0)
           injection ea_ with ea_ en_ ec_
           subst ea_
           subst ec_
           clear en_
           have ea_ := Option.some.inj (hx104_1.symm.trans hx107_1)
           injection ea_ with ea_ en_ ec_
           subst ea_
           subst ec_
           clear en_
           have p108 : 0 ≤ (x5_2 : Int) := of_decide_eq_true (by first | (with_reducible assumption) | assumption)
           have q108 : x5_2 < (l1_0.length : Int) := of_decide_eq_true (by first | (with_reducible assumption) | assumption)
           obtain ⟨ad108, A108_0, c108_0, A108_1, c108_1, e108, hx108_0, hx108_1, hl108_0, hi108_0, hl108_1, hi108_1⟩ := at_T49 HR1_0.out x5_2 p108 q108
           have hw108_1 := hx108_1
           have hw108_0 := hx108_0
           obtain rfl : ad105 = ad108 := (by injection e108)
           replace hx108_0 := (HB.out.cell (World.block_lt_of_cell? w _ hx108_0)).trans hx108_0
           replace hx108_1 := (HB.out.cell (World.block_lt_of_cell? w _ hx108_1)).trans hx108_1
           have HR108_0 := Aside0.mk hi108_0
           have HC108_0 := Aside0.mk hl108_0
           clear hi108_0 hl108_0
           have HR108_1 := Aside0.mk hi108_1
           have HC108_1 := Aside0.mk hl108_1
           clear hi108_1 hl108_1
           replace p108 := eq_true p108
           replace q108 := eq_true q108
           have ea_ := Option.some.inj (hx105_0.symm.trans hx108_0)
           injection ea_ with ea_ en_ ec_
           subst ea_
           subst ec_
           clear en_
           have ea_ := Option.some.inj (hx105_1.symm.trans hx108_1)
           injection ea_ with ea_ en_ ec_
           subst ea_
           subst ec_
           clear en_
           refine start_ (n := 30) (S := fun w' => w'.cell? ⟨gb101, 0, none⟩ = some (.slice (some ad104) l0_0.length c0_0) ∧ w'.cell? ⟨gb101, 1, none⟩ = some (.slice A0_1 l0_1.length c0_1) ∧ w'.cell? ⟨gb101, 2, none⟩ = some (.int .i64 a0_2) ∧ w'.cell? ⟨gb101, 3, none⟩ = some (.int .i64 a0_3) ∧ w'.cell? ⟨gb101, 4, none⟩ = some (.int .i64 a0_4) ∧ w'.cell? ⟨gb102, 0, none⟩ = some (.slice (some ad105) l1_0.length c1_0) ∧ w'.cell? ⟨gb102, 1, none⟩ = some (.slice A1_1 l1_1.length c1_1) ∧ w'.cell? ⟨gb102, 2, none⟩ = some (.int .i64 a1_2) ∧ w'.cell? ⟨gb102, 3, none⟩ = some (.int .i64 a1_3) ∧ w'.cell? ⟨gb102, 4, none⟩ = some (.int .i64 a1_4) ∧ w'.cell? (ad104.add ((x5_2).toNat * 2)) = some (.slice A104_0 ((rd_T49 l0_0 x5_2).f0).length c104_0) ∧ w'.cell? ⟨(ad104.add ((x5_2).toNat * 2)).block, (ad104.add ((x5_2).toNat * 2)).off + 1, none⟩ = some (.slice A104_1 ((rd_T49 l0_0 x5_2).f1).length c104_1) ∧ w'.cell? (ad105.add ((x5_2).toNat * 2)) = some (.slice A105_0 ((rd_T49 l1_0 x5_2).f0).length c105_0) ∧ w'.cell? ⟨(ad105.add ((x5_2).toNat * 2)).block, (ad105.add ((x5_2).toNat * 2)).off + 1, none⟩ = some (.slice A105_1 ((rd_T49 l1_0 x5_2).f1).length c105_1) ∧ w'.cell? (ad104.add ((x5_2).toNat * 2)) = some (.slice A104_0 ((rd_T49 l0_0 x5_2).f0).length c104_0) ∧ w'.cell? ⟨(ad104.add ((x5_2).toNat * 2)).block, (ad104.add ((x5_2).toNat * 2)).off + 1, none⟩ = some (.slice A104_1 ((rd_T49 l0_0 x5_2).f1).length c104_1) ∧ w'.cell? (ad105.add ((x5_2).toNat * 2)) = some (.slice A105_0 ((rd_T49 l1_0 x5_2).f0).length c105_0) ∧ w'.cell? ⟨(ad105.add ((x5_2).toNat * 2)).block, (ad105.add ((x5_2).toNat * 2)).off + 1, none⟩ = some (.slice A105_1 ((rd_T49 l1_0 x5_2).f1).length c105_1)) (ds := []) #[false, false, false, false, false, false, false, false, false, false, false, false, false, false, false, false, false, false, false, false, false, false, false, false, false, false, false, false, false, false] (by kernel_rfl) rfl rfl ⟨(blk_cell BK101.out 0).trans rfl, (blk_cell BK101.out 1).trans rfl, (blk_cell BK101.out 2).trans rfl, (blk_cell BK101.out 3).trans rfl, (blk_cell BK101.out 4).trans rfl, (blk_cell BK102.out 0).trans rfl, (blk_cell BK102.out 1).trans rfl, (blk_cell BK102.out 2).trans rfl, (blk_cell BK102.out 3).trans rfl, (blk_cell BK102.out 4).trans rfl, ((HB.out.cell (World.block_lt_of_cell? w _ hw104_0)).trans hw104_0), ((HB.out.cell (World.block_lt_of_cell? w _ hw104_1)).trans hw104_1), ((HB.out.cell (World.block_lt_of_cell? w _ hw105_0)).trans hw105_0), ((HB.out.cell (World.block_lt_of_cell? w _ hw105_1)).trans hw105_1), ((HB.out.cell (World.block_lt_of_cell? w _ hw107_0)).trans hw107_0), ((HB.out.cell (World.block_lt_of_cell? w _ hw107_1)).trans hw107_1), ((HB.out.cell (World.block_lt_of_cell? w _ hw108_0)).trans hw108_0), ((HB.out.cell (World.block_lt_of_cell? w _ hw108_1)).trans hw108_1)⟩ (fun hHeld => ?_); refine with_tabW unicodetextref47_Same.tab6 unicodetextref47_Same.bits6 (fun HT_ HW_ => ?_)
           generalize wr.drew = w36 at BK101 BK102 HB HR104_0 HR104_1 HR105_0 HR105_1 HR107_0 HR107_1 HR108_0 HR108_1 hx104_0 hx104_1 hx105_0 hx105_1 hx107_0 hx107_1 hx108_0 hx108_1 hHeld ⊢
           refine pure_ (i := 0) (N := some 49) (v := ?_) (a' := ?_) #[true, false, false, false, false, false, false, false, false, false, false, false, false, false, false, false, false, false, false, false, false, false, false, false, false, false, false, false, false, false] rfl rfl (any_of HT_.out (by kernel_rfl)) (fun _ _ _ h => h) (Or.inl ⟨by rfl, ?_⟩) ?_ ?_
           rotate_left
           ·intro w'
            go_simp
            with_reducible rfl
           rotate_left
           ·simp only [Act.put, List.setIfInBounds_toArray, List.set_cons_zero, List.set_cons_succ, i64_w, i32_w]
            rfl
           refine pure_ (i := 2) (N := some 51) (v := ?_) (a' := ?_) #[true, false, true, false, false, false, false, false, false, false, false, false, false, false, false, false, false, false, false, false, false, false, false, false, false, false, false, false, false, false] rfl rfl (any_of HT_.out (by kernel_rfl)) (fun _ _ _ h => h) (Or.inl ⟨by rfl, ?_⟩) ?_ ?_
           rotate_left
           ·intro w'
            go_simp
            with_reducible rfl
           rotate_left
           ·simp only [Act.put, List.setIfInBounds_toArray, List.set_cons_zero, List.set_cons_succ, i64_w, i32_w]
            rfl
           refine pure_ (i := 6) (N := some 55) (v := ?_) (a' := ?_) #[true, false, true, false, false, false, true, false, false, false, false, false, false, false, false, false, false, false, false, false, false, false, false, false, false, false, false, false, false, false] rfl rfl (any_of HT_.out (by kernel_rfl)) (fun _ _ _ h => h) (Or.inl ⟨by rfl, ?_⟩) ?_ ?_
           rotate_left
           ·intro w'
            go_simp
            with_reducible rfl
           rotate_left
           ·simp only [Act.put, List.setIfInBounds_toArray, List.set_cons_zero, List.set_cons_succ, i64_w, i32_w]
            rfl
           refine pure_ (i := 8) (N := some 57) (v := ?_) (a' := ?_) #[true, false, true, false, false, false, true, false, true, false, false, false, false, false, false, false, false, false, false, false, false, false, false, false, false, false, false, false, false, false] rfl rfl (any_of HT_.out (by kernel_rfl)) (fun _ _ _ h => h) (Or.inl ⟨by rfl, ?_⟩) ?_ ?_
           rotate_left
           ·intro w'
            go_simp
            with_reducible rfl
           rotate_left
           ·simp only [Act.put, List.setIfInBounds_toArray, List.set_cons_zero, List.set_cons_succ, i64_w, i32_w]
            rfl
           refine take_ (i := 1) (N := some 50) (v := ?_) (a' := ?_) #[true, true, true, false, false, false, true, false, true, false, false, false, false, false, false, false, false, false, false, false, false, false, false, false, false, false, false, false, false, false] rfl rfl (take_ofW HT_.out HW_.out (by kernel_rfl)) (fun _ _ _ h => h) (Or.inl ⟨by rfl, ?_⟩) hHeld ?_ ?_
           rotate_left
           ·rintro w' ⟨s0, s1, s2, s3, s4, s5, s6, s7, s8, s9, s10, s11, s12, s13, s14, s15, s16, s17⟩
            go_simp
            with_reducible rfl
           rotate_left
           ·simp only [Act.put, List.setIfInBounds_toArray, List.set_cons_zero, List.set_cons_succ, i64_w, i32_w]
            rfl
           refine pure_ (i := 3) (N := some 52) (v := ?_) (a' := ?_) #[true, true, true, true, false, false, true, false, true, false, false, false, false, false, false, false, false, false, false, false, false, false, false, false, false, false, false, false, false, false] rfl rfl (any_of HT_.out (by kernel_rfl)) (fun _ _ _ h => h) (Or.inl ⟨by rfl, ?_⟩) ?_ ?_
           rotate_left
           ·intro w'
            go_simp
            with_reducible rfl
           rotate_left
           ·simp only [Act.put, List.setIfInBounds_toArray, List.set_cons_zero, List.set_cons_succ, i64_w, i32_w]
            rfl
           refine pure_ (i := 4) (N := some 53) (v := ?_) (a' := ?_) #[true, true, true, true, true, false, true, false, true, false, false, false, false, false, false, false, false, false, false, false, false, false, false, false, false, false, false, false, false, false] rfl rfl (any_of HT_.out (by kernel_rfl)) (fun _ _ _ h => h) (Or.inl ⟨by rfl, ?_⟩) ?_ ?_
           rotate_left
           ·intro w'
            go_simp
            with_reducible rfl
           rotate_left
           ·simp only [Act.put, List.setIfInBounds_toArray, List.set_cons_zero, List.set_cons_succ, i64_w, i32_w]
            rfl
           refine take_ (i := 5) (N := some 54) (v := ?_) (a' := ?_) #[true, true, true, true, true, true, true, false, true, false, false, false, false, false, false, false, false, false, false, false, false, false, false, false, false, false, false, false, false, false] rfl rfl (take_ofW HT_.out HW_.out (by kernel_rfl)) (fun _ _ _ h => h) (Or.inl ⟨by rfl, ?_⟩) hHeld ?_ ?_
           rotate_left
           ·rintro w' ⟨s0, s1, s2, s3, s4, s5, s6, s7, s8, s9, s10, s11, s12, s13, s14, s15, s16, s17⟩
            go_simp
            with_reducible rfl
           rotate_left
           ·simp only [Act.put, List.setIfInBounds_toArray, List.set_cons_zero, List.set_cons_succ, i64_w, i32_w]
            rfl
           refine take_ (i := 7) (N := some 56) (v := ?_) (a' := ?_) #[true, true, true, true, true, true, true, true, true, false, false, false, false, false, false, false, false, false, false, false, false, false, false, false, false, false, false, false, false, false] rfl rfl (take_ofW HT_.out HW_.out (by kernel_rfl)) (fun _ _ _ h => h) (Or.inl ⟨by rfl, ?_⟩) hHeld ?_ ?_
           rotate_left
           ·rintro w' ⟨s0, s1, s2, s3, s4, s5, s6, s7, s8, s9, s10, s11, s12, s13, s14, s15, s16, s17⟩
            go_simp
            with_reducible rfl
           rotate_left
           ·simp only [Act.put, List.setIfInBounds_toArray, List.set_cons_zero, List.set_cons_succ, i64_w, i32_w]
            rfl
           refine pure_ (i := 9) (N := some 58) (v := ?_) (a' := ?_) #[true, true, true, true, true, true, true, true, true, true, false, false, false, false, false, false, false, false, false, false, false, false, false, false, false, false, false, false, false, false] rfl rfl (any_of HT_.out (by kernel_rfl)) (fun _ _ _ h => h) (Or.inl ⟨by rfl, ?_⟩) ?_ ?_
           rotate_left
           ·intro w'
            go_simp
            with_reducible rfl
           rotate_left
           ·simp only [Act.put, List.setIfInBounds_toArray, List.set_cons_zero, List.set_cons_succ, i64_w, i32_w]
            rfl
           refine pure_ (i := 10) (N := some 59) (v := ?_) (a' := ?_) #[true, true, true, true, true, true, true, true, true, true, true, false, false, false, false, false, false, false, false, false, false, false, false, false, false, false, false, false, false, false] rfl rfl (any_of HT_.out (by kernel_rfl)) (fun _ _ _ h => h) (Or.inl ⟨by rfl, ?_⟩) ?_ ?_
           rotate_left
           ·intro w'
            go_simp
            with_reducible rfl
           rotate_left
           ·simp only [Act.put, List.setIfInBounds_toArray, List.set_cons_zero, List.set_cons_succ, i64_w, i32_w]
            rfl
           refine take_ (i := 11) (N := some 60) (v := ?_) (a' := ?_) #[true, true, true, true, true, true, true, true, true, true, true, true, false, false, false, false, false, false, false, false, false, false, false, false, false, false, false, false, false, false] rfl rfl (take_ofW HT_.out HW_.out (by kernel_rfl)) (fun _ _ _ h => h) (Or.inl ⟨by rfl, ?_⟩) hHeld ?_ ?_
           rotate_left
           ·rintro w' ⟨s0, s1, s2, s3, s4, s5, s6, s7, s8, s9, s10, s11, s12, s13, s14, s15, s16, s17⟩
            go_simp
            with_reducible rfl
           rotate_left
           ·simp only [Act.put, List.setIfInBounds_toArray, List.set_cons_zero, List.set_cons_succ, i64_w, i32_w]
            rfl
           refine one_ (i := 12) (N := some 61) #[true, true, true, true, true, true, true, true, true, true, true, true, true, false, false, false, false, false, false, false, false, false, false, false, false, false, false, false, false, false] rfl rfl (one_of HT_.out (by kernel_rfl)) (by decide) (fun K hK => ?_)
           refine goes_ Try.func33 (by kernel_rfl) rfl #[.slice A104_0 ((rd_T49 l0_0 x5_2).f0).length c104_0, .slice A105_0 ((rd_T49 l1_0 x5_2).f0).length c105_0] (by rfl) rfl rfl (by (try simp only [List.map_toArray, List.map_cons, List.map_nil]); first | done | rfl | (simp only [List.length_drop, List.length_take]; rfl)) ?_
           with_reducible refine (unicodetextref47_sameInts.calls k2 _ _ ((rd_T49 l0_0 x5_2).f0) _ _ ((rd_T49 l1_0 x5_2).f0) true _ ?side1 ?side2 ?side3 ?side4 A30.out).mono ?_
           (case side1 => repeat (first | exact (Kd.C_below HR104_0.out HB.out) | (with_reducible refine Kd.C_alloc ?_ _) | (with_reducible refine Kd.C_drewN ?_ _) | (with_reducible refine Kd.C_drew ?_)))
           (case side2 => exact HC104_0.out)
           (case side3 => repeat (first | exact (Kd.C_below HR105_0.out HB.out) | (with_reducible refine Kd.C_alloc ?_ _) | (with_reducible refine Kd.C_drewN ?_ _) | (with_reducible refine Kd.C_drew ?_)))
           (case side4 => exact HC105_0.out)
           rintro e w' ⟨rfl, ⟨nd, rfl⟩⟩
           refine ⟨_, rfl, ?_⟩
           refine hK.out _ _ ⟨(blk_cell BK101.out 0).trans rfl, (blk_cell BK101.out 1).trans rfl, (blk_cell BK101.out 2).trans rfl, (blk_cell BK101.out 3).trans rfl, (blk_cell BK101.out 4).trans rfl, (blk_cell BK102.out 0).trans rfl, (blk_cell BK102.out 1).trans rfl, (blk_cell BK102.out 2).trans rfl, (blk_cell BK102.out 3).trans rfl, (blk_cell BK102.out 4).trans rfl, ((HB.out.cell (World.block_lt_of_cell? w _ hw104_0)).trans hw104_0), ((HB.out.cell (World.block_lt_of_cell? w _ hw104_1)).trans hw104_1), ((HB.out.cell (World.block_lt_of_cell? w _ hw105_0)).trans hw105_0), ((HB.out.cell (World.block_lt_of_cell? w _ hw105_1)).trans hw105_1), ((HB.out.cell (World.block_lt_of_cell? w _ hw107_0)).trans hw107_0), ((HB.out.cell (World.block_lt_of_cell? w _ hw107_1)).trans hw107_1), ((HB.out.cell (World.block_lt_of_cell? w _ hw108_0)).trans hw108_0), ((HB.out.cell (World.block_lt_of_cell? w _ hw108_1)).trans hw108_1)⟩ (fun hHeld => ?_)
           clear hK K
           refine norm_ (a' := ?_) ?_ ?_
           rotate_left
           ·show Act.put _ (some 61) _ = _
            simp only [Act.put, List.setIfInBounds_toArray, List.set_cons_zero, List.set_cons_succ, i64_w, i32_w]
            rfl
           refine pure_ (i := 13) (N := some 62) (v := ?_) (a' := ?_) #[true, true, true, true, true, true, true, true, true, true, true, true, true, true, false, false, false, false, false, false, false, false, false, false, false, false, false, false, false, false] rfl rfl (any_of HT_.out (by kernel_rfl)) (fun _ _ _ h => h) (Or.inl ⟨by rfl, ?_⟩) ?_ ?_
           rotate_left
           ·intro w'
            go_simp
            with_reducible rfl
           rotate_left
           ·simp only [Act.put, List.setIfInBounds_toArray, List.set_cons_zero, List.set_cons_succ, i64_w, i32_w]
            rfl
           refine pure_ (i := 14) (N := some 63) (v := ?_) (a' := ?_) #[true, true, true, true, true, true, true, true, true, true, true, true, true, true, true, false, false, false, false, false, false, false, false, false, false, false, false, false, false, false] rfl rfl (any_of HT_.out (by kernel_rfl)) (fun _ _ _ h => h) (Or.inl ⟨by rfl, ?_⟩) ?_ ?_
           rotate_left
           ·intro w'
            go_simp
            with_reducible rfl
           rotate_left
           ·simp only [Act.put, List.setIfInBounds_toArray, List.set_cons_zero, List.set_cons_succ, i64_w, i32_w]
            rfl
           refine pure_ (i := 15) (N := some 64) (v := ?_) (a' := ?_) #[true, true, true, true, true, true, true, true, true, true, true, true, true, true, true, true, false, false, false, false, false, false, false, false, false, false, false, false, false, false] rfl rfl (any_of HT_.out (by kernel_rfl)) (fun _ _ _ h => h) (Or.inl ⟨by rfl, ?_⟩) ?_ ?_
           rotate_left
           ·intro w'
            go_simp
            with_reducible rfl
           rotate_left
           ·simp only [Act.put, List.setIfInBounds_toArray, List.set_cons_zero, List.set_cons_succ, i64_w, i32_w]
            rfl
           refine pure_ (i := 17) (N := some 66) (v := ?_) (a' := ?_) #[true, true, true, true, true, true, true, true, true, true, true, true, true, true, true, true, false, true, false, false, false, false, false, false, false, false, false, false, false, false] rfl rfl (any_of HT_.out (by kernel_rfl)) (fun _ _ _ h => h) (Or.inl ⟨by rfl, ?_⟩) ?_ ?_
           rotate_left
           ·intro w'
            go_simp
            with_reducible rfl
           rotate_left
           ·simp only [Act.put, List.setIfInBounds_toArray, List.set_cons_zero, List.set_cons_succ, i64_w, i32_w]
            rfl
           refine pure_ (i := 21) (N := some 70) (v := ?_) (a' := ?_) #[true, true, true, true, true, true, true, true, true, true, true, true, true, true, true, true, false, true, false, false, false, true, false, false, false, false, false, false, false, false] rfl rfl (any_of HT_.out (by kernel_rfl)) (fun _ _ _ h => h) (Or.inl ⟨by rfl, ?_⟩) ?_ ?_
           rotate_left
           ·intro w'
            go_simp
            with_reducible rfl
           rotate_left
           ·simp only [Act.put, List.setIfInBounds_toArray, List.set_cons_zero, List.set_cons_succ, i64_w, i32_w]
            rfl
           refine pure_ (i := 23) (N := some 72) (v := ?_) (a' := ?_) #[true, true, true, true, true, true, true, true, true, true, true, true, true, true, true, true, false, true, false, false, false, true, false, true, false, false, false, false, false, false] rfl rfl (any_of HT_.out (by kernel_rfl)) (fun _ _ _ h => h) (Or.inl ⟨by rfl, ?_⟩) ?_ ?_
           rotate_left
           ·intro w'
            go_simp
            with_reducible rfl
           rotate_left
           ·simp only [Act.put, List.setIfInBounds_toArray, List.set_cons_zero, List.set_cons_succ, i64_w, i32_w]
            rfl
           refine take_ (i := 16) (N := some 65) (v := ?_) (a' := ?_) #[true, true, true, true, true, true, true, true, true, true, true, true, true, true, true, true, true, true, false, false, false, true, false, true, false, false, false, false, false, false] rfl rfl (take_ofW HT_.out HW_.out (by kernel_rfl)) (fun _ _ _ h => h) (Or.inl ⟨by rfl, ?_⟩) hHeld ?_ ?_
           rotate_left
           ·rintro w' ⟨s0, s1, s2, s3, s4, s5, s6, s7, s8, s9, s10, s11, s12, s13, s14, s15, s16, s17⟩
            go_simp
            with_reducible rfl
           rotate_left
           ·simp only [Act.put, List.setIfInBounds_toArray, List.set_cons_zero, List.set_cons_succ, i64_w, i32_w]
            rfl
           refine pure_ (i := 18) (N := some 67) (v := ?_) (a' := ?_) #[true, true, true, true, true, true, true, true, true, true, true, true, true, true, true, true, true, true, true, false, false, true, false, true, false, false, false, false, false, false] rfl rfl (any_of HT_.out (by kernel_rfl)) (fun _ _ _ h => h) (Or.inl ⟨by rfl, ?_⟩) ?_ ?_
           rotate_left
           ·intro w'
            go_simp
            with_reducible rfl
           rotate_left
           ·simp only [Act.put, List.setIfInBounds_toArray, List.set_cons_zero, List.set_cons_succ, i64_w, i32_w]
            rfl
           refine pure_ (i := 19) (N := some 68) (v := ?_) (a' := ?_) #[true, true, true, true, true, true, true, true, true, true, true, true, true, true, true, true, true, true, true, true, false, true, false, true, false, false, false, false, false, false] rfl rfl (any_of HT_.out (by kernel_rfl)) (fun _ _ _ h => h) (Or.inl ⟨by rfl, ?_⟩) ?_ ?_
           rotate_left
           ·intro w'
            go_simp
            with_reducible rfl
           rotate_left
           ·simp only [Act.put, List.setIfInBounds_toArray, List.set_cons_zero, List.set_cons_succ, i64_w, i32_w]
            rfl
           refine take_ (i := 20) (N := some 69) (v := ?_) (a' := ?_) #[true, true, true, true, true, true, true, true, true, true, true, true, true, true, true, true, true, true, true, true, true, true, false, true, false, false, false, false, false, false] rfl rfl (take_ofW HT_.out HW_.out (by kernel_rfl)) (fun _ _ _ h => h) (Or.inl ⟨by rfl, ?_⟩) hHeld ?_ ?_
           rotate_left
           ·rintro w' ⟨s0, s1, s2, s3, s4, s5, s6, s7, s8, s9, s10, s11, s12, s13, s14, s15, s16, s17⟩
            go_simp
            with_reducible rfl
           rotate_left
           ·simp only [Act.put, List.setIfInBounds_toArray, List.set_cons_zero, List.set_cons_succ, i64_w, i32_w]
            rfl
           refine take_ (i := 22) (N := some 71) (v := ?_) (a' := ?_) #[true, true, true, true, true, true, true, true, true, true, true, true, true, true, true, true, true, true, true, true, true, true, true, true, false, false, false, false, false, false] rfl rfl (take_ofW HT_.out HW_.out (by kernel_rfl)) (fun _ _ _ h => h) (Or.inl ⟨by rfl, ?_⟩) hHeld ?_ ?_
           rotate_left
           ·rintro w' ⟨s0, s1, s2, s3, s4, s5, s6, s7, s8, s9, s10, s11, s12, s13, s14, s15, s16, s17⟩
            go_simp
            with_reducible rfl
           rotate_left
           ·simp only [Act.put, List.setIfInBounds_toArray, List.set_cons_zero, List.set_cons_succ, i64_w, i32_w]
            rfl
           refine pure_ (i := 24) (N := some 73) (v := ?_) (a' := ?_) #[true, true, true, true, true, true, true, true, true, true, true, true, true, true, true, true, true, true, true, true, true, true, true, true, true, false, false, false, false, false] rfl rfl (any_of HT_.out (by kernel_rfl)) (fun _ _ _ h => h) (Or.inl ⟨by rfl, ?_⟩) ?_ ?_
           rotate_left
           ·intro w'
            go_simp
            with_reducible rfl
           rotate_left
           ·simp only [Act.put, List.setIfInBounds_toArray, List.set_cons_zero, List.set_cons_succ, i64_w, i32_w]
            rfl
           refine pure_ (i := 25) (N := some 74) (v := ?_) (a' := ?_) #[true, true, true, true, true, true, true, true, true, true, true, true, true, true, true, true, true, true, true, true, true, true, true, true, true, true, false, false, false, false] rfl rfl (any_of HT_.out (by kernel_rfl)) (fun _ _ _ h => h) (Or.inl ⟨by rfl, ?_⟩) ?_ ?_
           rotate_left
           ·intro w'
            go_simp
            with_reducible rfl
           rotate_left
           ·simp only [Act.put, List.setIfInBounds_toArray, List.set_cons_zero, List.set_cons_succ, i64_w, i32_w]
            rfl
           refine take_ (i := 26) (N := some 75) (v := ?_) (a' := ?_) #[true, true, true, true, true, true, true, true, true, true, true, true, true, true, true, true, true, true, true, true, true, true, true, true, true, true, true, false, false, false] rfl rfl (take_ofW HT_.out HW_.out (by kernel_rfl)) (fun _ _ _ h => h) (Or.inl ⟨by rfl, ?_⟩) hHeld ?_ ?_
           rotate_left
           ·rintro w' ⟨s0, s1, s2, s3, s4, s5, s6, s7, s8, s9, s10, s11, s12, s13, s14, s15, s16, s17⟩
            go_simp
            with_reducible rfl
           rotate_left
           ·simp only [Act.put, List.setIfInBounds_toArray, List.set_cons_zero, List.set_cons_succ, i64_w, i32_w]
            rfl
           refine one_ (i := 27) (N := some 76) #[true, true, true, true, true, true, true, true, true, true, true, true, true, true, true, true, true, true, true, true, true, true, true, true, true, true, true, true, false, false] rfl rfl (one_of HT_.out (by kernel_rfl)) (by decide) (fun K hK => ?_)
           refine goes_ Try.func34 (by kernel_rfl) rfl #[.slice A104_1 ((rd_T49 l0_0 x5_2).f1).length c104_1, .slice A105_1 ((rd_T49 l1_0 x5_2).f1).length c105_1] (by rfl) rfl rfl (by (try simp only [List.map_toArray, List.map_cons, List.map_nil]); first | done | rfl | (simp only [List.length_drop, List.length_take]; rfl)) ?_
           with_reducible refine (unicodetextref43_Same.calls k2 _ _ ((rd_T49 l0_0 x5_2).f1) _ _ ((rd_T49 l1_0 x5_2).f1) true _ ?side1 ?side2 ?side3 ?side4 A32.out).mono ?_
           (case side1 => repeat (first | exact (Kd.C_below HR107_1.out (by repeat (first | (with_reducible first | exact HB.out | apply below_alloc | apply pw_below_drewN | apply below_drew1 | refine below_set ?_ GE101.out | refine below_set ?_ GE102.out) | exact HB.out))) | (with_reducible refine Kd.C_alloc ?_ _) | (with_reducible refine Kd.C_drewN ?_ _) | (with_reducible refine Kd.C_drew ?_)))
           (case side2 => exact HC107_1.out)
           (case side3 => repeat (first | exact (Kd.C_below HR108_1.out (by repeat (first | (with_reducible first | exact HB.out | apply below_alloc | apply pw_below_drewN | apply below_drew1 | refine below_set ?_ GE101.out | refine below_set ?_ GE102.out) | exact HB.out))) | (with_reducible refine Kd.C_alloc ?_ _) | (with_reducible refine Kd.C_drewN ?_ _) | (with_reducible refine Kd.C_drew ?_)))
           (case side4 => exact HC108_1.out)
           rintro e w' ⟨rfl, ⟨nd, rfl⟩⟩
           refine ⟨_, rfl, ?_⟩
           refine hK.out _ _ ⟨(blk_cell BK101.out 0).trans rfl, (blk_cell BK101.out 1).trans rfl, (blk_cell BK101.out 2).trans rfl, (blk_cell BK101.out 3).trans rfl, (blk_cell BK101.out 4).trans rfl, (blk_cell BK102.out 0).trans rfl, (blk_cell BK102.out 1).trans rfl, (blk_cell BK102.out 2).trans rfl, (blk_cell BK102.out 3).trans rfl, (blk_cell BK102.out 4).trans rfl, ((HB.out.cell (World.block_lt_of_cell? w _ hw104_0)).trans hw104_0), ((HB.out.cell (World.block_lt_of_cell? w _ hw104_1)).trans hw104_1), ((HB.out.cell (World.block_lt_of_cell? w _ hw105_0)).trans hw105_0), ((HB.out.cell (World.block_lt_of_cell? w _ hw105_1)).trans hw105_1), ((HB.out.cell (World.block_lt_of_cell? w _ hw107_0)).trans hw107_0), ((HB.out.cell (World.block_lt_of_cell? w _ hw107_1)).trans hw107_1), ((HB.out.cell (World.block_lt_of_cell? w _ hw108_0)).trans hw108_0), ((HB.out.cell (World.block_lt_of_cell? w _ hw108_1)).trans hw108_1)⟩ (fun hHeld => ?_)
           clear hK K
           refine norm_ (a' := ?_) ?_ ?_
           rotate_left
           ·show Act.put _ (some 76) _ = _
            simp only [Act.put, List.setIfInBounds_toArray, List.set_cons_zero, List.set_cons_succ, i64_w, i32_w]
            rfl
           refine pure_ (i := 28) (N := some 77) (v := ?_) (a' := ?_) #[true, true, true, true, true, true, true, true, true, true, true, true, true, true, true, true, true, true, true, true, true, true, true, true, true, true, true, true, true, false] rfl rfl (any_of HT_.out (by kernel_rfl)) (fun _ _ _ h => h) (Or.inl ⟨by rfl, ?_⟩) ?_ ?_
           rotate_left
           ·intro w'
            go_simp
            with_reducible rfl
           rotate_left
           ·simp only [Act.put, List.setIfInBounds_toArray, List.set_cons_zero, List.set_cons_succ, i64_w, i32_w]
            rfl
           refine pure_ (i := 29) (N := some 78) (v := ?_) (a' := ?_) #[true, true, true, true, true, true, true, true, true, true, true, true, true, true, true, true, true, true, true, true, true, true, true, true, true, true, true, true, true, true] rfl rfl (any_of HT_.out (by kernel_rfl)) (fun _ _ _ h => h) (Or.inl ⟨by rfl, ?_⟩) ?_ ?_
           rotate_left
           ·intro w'
            go_simp
            with_reducible rfl
           rotate_left
           ·simp only [Act.put, List.setIfInBounds_toArray, List.set_cons_zero, List.set_cons_succ, i64_w, i32_w]
            rfl
           refine done_ (done_of HT_.out (by kernel_rfl)) ?_
           try go_wp2
           go_roundg k2
           case measure => have := HJ2.out; have := HK2.out; omega
           case rel => exact ⟨(wrap64 (x5_2 + 1)), (by first | rfl | (simp; done) | (simp [*]; done)), H', ⟨by have := HJ2.out; have := HK2.out; omega⟩, ⟨by (with_reducible repeat (first | refine blk_drewN ?_ _ | refine blk_drew ?_ | refine blk_alloc ?_ _)); exact BK101.out⟩, ⟨by (with_reducible repeat (first | refine blk_drewN ?_ _ | refine blk_drew ?_ | refine blk_alloc ?_ _)); exact BK102.out⟩, ⟨by repeat (first | (with_reducible first | exact HB.out | apply below_alloc | apply pw_below_drewN | apply below_drew1 | refine below_set ?_ GE101.out | refine below_set ?_ GE102.out) | exact HB.out)⟩⟩
          ·rw [if_neg c33] at H
           exact absurd H (by simp)
         ·rw [if_neg c31] at H
          exact absurd H (by simp)
        ·rw [if_neg c29] at H
         exact absurd H (by simp)
       ·rw [if_neg c28] at H
        exact absurd H (by simp)
      ·rw [if_neg c27] at H
       have c27b0 : decide (x5_2 < (l0_0.length : Int)) = false := decide_eq_false c27
       clear c27
       obtain rfl := Option.some.inj H
       have hnb43 := NB101_102.out
       have hnc43 := NB102_101.out
       have hcz44_0 : wr.cell? ⟨gb101, 0, none⟩ = some (.slice A0_0 l0_0.length c0_0) := (blk_cell BK101.out 0).trans rfl
       have hcz44_1 : wr.cell? ⟨gb101, 1, none⟩ = some (.slice A0_1 l0_1.length c0_1) := (blk_cell BK101.out 1).trans rfl
       have hcz44_2 : wr.cell? ⟨gb101, 2, none⟩ = some (.int .i64 a0_2) := (blk_cell BK101.out 2).trans rfl
       have hcz44_3 : wr.cell? ⟨gb101, 3, none⟩ = some (.int .i64 a0_3) := (blk_cell BK101.out 3).trans rfl
       have hcz44_4 : wr.cell? ⟨gb101, 4, none⟩ = some (.int .i64 a0_4) := (blk_cell BK101.out 4).trans rfl
       have hfz44_0 := blk_frozen BK101.out 0
       have hfz44_1 := blk_frozen BK101.out 1
       have hfz44_2 := blk_frozen BK101.out 2
       have hfz44_3 := blk_frozen BK101.out 3
       have hfz44_4 := blk_frozen BK101.out 4
       go_wp2
       go_ret
       exact ⟨by first | rfl | (simp [errW_none, errW_some] <;> rfl) | (simp [*, errW_none, errW_some] <;> rfl), by repeat (first | (with_reducible first | exact HB.out | apply below_alloc | apply pw_below_drewN | apply below_drew1 | refine below_set ?_ GE101.out | refine below_set ?_ GE102.out) | exact HB.out)⟩
end Go.Proofs.Ytfcpebjjcijgcaa.G
-- unicodetext/unicodetextref47.Names: printed by gprint.py
namespace Go.Proofs.Ytfcpebjjcijgcaa.G
open Go.RowKit Go.Proofs.YtfcpebjjcijgcaaW.PrintWords Go.Proofs.YtfcpebjjcijgcaaW.PrintLast Go.Proofs.YtfcpebjjcijgcaaW.PrintMore
attribute [local go_sem] max2_int min2_int max_two min_two max_three min_three max_four min_four   -- for this text's walks alone
set_option linter.unusedVariables false
set_option linter.unusedSimpArgs false
/-! ### unicodetextref47_Names: function 21 -/
def unicodetextref47_Names.l0 : Nat → List (S36) → List ByteArray → Int → Option (List ByteArray)
  | 0, _, _, _ => none
  | k + 1, x0, x3, x4 => if x4 < (x0.length : Int) then (if 0 ≤ x4 then (if x3.length < 8796093022208 then (unicodetextref47_Names.l0 k x0 (x3 ++ [(rd_T36 x0 x4).f0]) (wrap64 (x4 + 1))) else (none)) else (none)) else (some x3)
def unicodetextref47_Names.f (k : Nat) (l0 : List (S36)) : Option (List ByteArray) := unicodetextref47_Names.l0 k l0 ([] : List ByteArray) 0
set_option maxHeartbeats 8000000 in
set_option maxRecDepth 100000 in
theorem unicodetextref47_Names.calls (k : Nat) (A0 : Option Addr) (c0 : Nat) (l0 : List (S36)) (r : List ByteArray) (w : World) (hr0 : Kd.C k36 w A0 l0.length l0) (hc0 : l0.length ≤ c0) (h : unicodetextref47_Names.f k l0 = some r) :
    Calls Try.prog 21 #[.slice A0 l0.length c0] w fun e w' => ∃ v0_ : Value, e = .returned (v0_) ∧ Kd.R Kd.string 9 w' w.heap.size (fun _ => True) v0_ r ∧ Below w.heap.size w w' := by
  have HR0 := Aside0.mk hr0
  have HC0 := Aside0.mk hc0
  clear hr0 hc0
  have HB := Aside0.mk (Below.refl w.heap.size w)
  have H : (unicodetextref47_Names.l0 k l0 ([] : List ByteArray) 0) = some r := h
  clear h
  have H' := Aside0.mk H
  clear H
  go_enter Try.func21, Try.ntmps21
  go_wp2
  go_loopg [3, 4] k (fun kq v3 v4 w' => ∃ (x3_1 : List ByteArray) (x4_1 : Int), v4 = .int .i64 x4_1 ∧ Aside0 (unicodetextref47_Names.l0 kq l0 x3_1 x4_1 = some r) ∧ Aside0 (kq ≤ k) ∧ Aside0 (Kd.R Kd.string 9 w' w.heap.size (fun _ => True) v3 x3_1) ∧ Aside0 (Below w.heap.size w w'))
  case atStart => exact ⟨(([] : List ByteArray)), (0), (by first | rfl | (simp; done) | (simp [*]; done)), H', ⟨Nat.le_refl _⟩, ⟨by first | exact Kd.R_nil _ _ _ _ _ | exact Kd.N_nil _ _ _ _ _ | exact Kd.V_nil _ _ _ _ _ | exact Kd.Q_nil _ _ _ _ _ | exact Kd.S_nil _ _ _ _ _⟩, ⟨by repeat (first | (with_reducible first | exact HB.out | apply below_alloc | apply pw_below_drewN | apply below_drew1) | exact HB.out)⟩⟩
  case round =>
    clear H'
    obtain ⟨x3_1, x4_1, rfl, HA, HK1, HO_3, HB⟩ := hrel
    cases gk with
    | zero => exact absurd HA.out (by simp [unicodetextref47_Names.l0])
    | succ k1 =>
      have H := HA.out
      clear HA
      simp only [unicodetextref47_Names.l0] at H
      by_cases c2 : x4_1 < (l0.length : Int)
      · rw [if_pos c2] at H
        have c2b0 : decide (x4_1 < (l0.length : Int)) = true := decide_eq_true c2
        clear c2
        by_cases c3 : 0 ≤ x4_1
        · rw [if_pos c3] at H
          have c3b0 : decide (0 ≤ x4_1) = true := decide_eq_true c3
          clear c3
          by_cases c4 : x3_1.length < 8796093022208
          · rw [if_pos c4] at H
            have LMc4 := Aside0.mk c4
            clear c4
            obtain ⟨y102, hy102⟩ : ∃ y_ : List ByteArray, y_ = (x3_1 ++ [(rd_T36 l0 x4_1).f0]) := ⟨_, rfl⟩
            replace H : (unicodetextref47_Names.l0 k1 l0 y102 (wrap64 (x4_1 + 1))) = some r := by first | (rw [hy102]; with_reducible exact H) | (have H2_ := (Option.bind_some _ _).symm.trans H; rw [hy102]; with_reducible exact H2_) | (have H2_ := (Option.bind_some _ _).symm.trans H; with_reducible exact H2_) | with_reducible exact H | (rw [hy102]; exact H) | exact H
            have Ny102 := Aside0.mk hy102
            clear hy102
            have H' := Aside0.mk H
            clear H
            have p101 : 0 ≤ (x4_1 : Int) := of_decide_eq_true (by first | (with_reducible assumption) | assumption)
            have q101 : x4_1 < (l0.length : Int) := of_decide_eq_true (by first | (with_reducible assumption) | assumption)
            obtain ⟨ad101, e101, hx101_0, hx101_1, hx101_2⟩ := at_T36 HR0.out x4_1 p101 q101
            cases e101
            replace hx101_0 := (HB.out.cell (World.block_lt_of_cell? w _ hx101_0)).trans hx101_0
            replace hx101_1 := (HB.out.cell (World.block_lt_of_cell? w _ hx101_1)).trans hx101_1
            replace hx101_2 := (HB.out.cell (World.block_lt_of_cell? w _ hx101_2)).trans hx101_2
            replace p101 := eq_true p101
            replace q101 := eq_true q101
            go_wp2_with (first | ((with_reducible refine gate_builtin (b := .append) (xs := #[.tmp 11, .tmp 17]) rfl ?_); at_builtin; refine Kd.R_append Kd.string (w0 := w) w.heap.size rfl (.tmp 11) (.tmp 17) 26 9 (.string ⟨#[]⟩) 16 rfl Try.underlying26 info9 rfl (by decide) (by omega) u3 x3_1 ((rd_T36 l0 x4_1).f0) [.string ((rd_T36 l0 x4_1).f0)] (fun _ => True) (fun _ => False) rfl rfl ?aP (fun _ hk => hk.elim) ?aF ?aO ?aB ?aS ?aL ?_; (case aP => exact rfl); (case aB => exact (by repeat (first | (with_reducible first | exact HB.out | apply below_alloc | apply pw_below_drewN | apply below_drew1) | exact HB.out))); (case aF => exact (fun _ _ => trivial)); (case aO => exact (by (with_reducible repeat (first | apply Kd.R_alloc | apply Kd.R_drewN | apply Kd.R_drew)); exact HO_3.out)); (case aS => exact (below_size (by repeat (first | (with_reducible first | exact HB.out | apply below_alloc | apply pw_below_drewN | apply below_drew1) | exact HB.out)))); (case aL => have := LMc4.out; omega); intro v103 w5 ho hb hg hat; rw [← Ny102.out] at ho; have n0_ := Aside0.mk (hb); have n1_ := Aside0.mk (ho); clear HB; clear HO_3; have HB := n0_; have HO104 := n1_; clear n0_ n1_; clear ho hb hg hat))
            go_roundg k1
            case measure => have := HK1.out; omega
            case rel => exact ⟨(y102), (wrap64 (x4_1 + 1)), (by first | rfl | (simp; done) | (simp [*]; done)), H', ⟨by have := HK1.out; omega⟩, ⟨by (with_reducible repeat (first | apply Kd.R_alloc | apply Kd.R_drewN | apply Kd.R_drew)); exact HO104.out⟩, ⟨by repeat (first | (with_reducible first | exact HB.out | apply below_alloc | apply pw_below_drewN | apply below_drew1) | exact HB.out)⟩⟩
          · rw [if_neg c4] at H
            exact absurd H (by simp)
        · rw [if_neg c3] at H
          exact absurd H (by simp)
      · rw [if_neg c2] at H
        have c2b0 : decide (x4_1 < (l0.length : Int)) = false := decide_eq_false c2
        clear c2
        obtain rfl := Option.some.inj H
        go_wp2
        go_ret
        exact ⟨_, by first | rfl | (simp [errW_none, errW_some] <;> rfl) | (simp [*, errW_none, errW_some] <;> rfl), by (with_reducible repeat (first | apply Kd.R_alloc | apply Kd.R_drewN | apply Kd.R_drew)); exact HO_3.out, by repeat (first | (with_reducible first | exact HB.out | apply below_alloc | apply pw_below_drewN | apply below_drew1) | exact HB.out)⟩
end Go.Proofs.Ytfcpebjjcijgcaa.G
