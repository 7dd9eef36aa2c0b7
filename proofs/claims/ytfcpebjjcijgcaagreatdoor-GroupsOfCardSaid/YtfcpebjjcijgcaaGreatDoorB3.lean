/- Contracts of Go functions, printed by a program of mine over the kit's printer or proved by hand, and plain laws: what the groups' laws lean on. -/
import Derived.BigRegion
import Derived.Deep.RegionHeld3
import Derived.DeepKeys4
import Derived.IntWalk
import Derived.Outline
import Derived.Shelf.SlSortCmp.InsertionK
import Derived.Sort.WalkA
import Derived.Test.YtfcpebjjcijgcaaGreatDoorB0
import Derived.Test.YtfcpebjjcijgcaaGreatDoorB1
import Derived.Test.YtfcpebjjcijgcaaGreatDoorB2
import Derived.WalkArith
import Derived.WalkSpells
-- by hand: lemmas
namespace Go.Proofs.YtfcpebjjcijgcaaGreatDoor.G
open Go.RowKit Go.Proofs.YtfcpebjjcijgcaaGreatDoorW.PrintWords Go.Proofs.YtfcpebjjcijgcaaGreatDoorW.PrintLast Go.Proofs.YtfcpebjjcijgcaaGreatDoorW.PrintMore
attribute [local go_sem] max2_int min2_int max_two min_two max_three min_three max_four min_four   -- for this text's walks alone
set_option linter.unusedVariables false
set_option linter.unusedSimpArgs false
/-! colltable.load: the table of a valid collation. -/
/-- What the table's map holds: at each entry's codes its elements. -/
def FMap (E : List S50) (w : World) (f : Lit → Option Value) : Prop := ∀ codes : List Int, match E.find? (fun e => decide (e.f0 = codes)) with
  | some e => ∃ (B : Option Addr) (d : Nat), f (sk (keyS codes)) = some (.slice B e.f1.length d) ∧ e.f1.length ≤ d ∧ Kd.C k41 w B e.f1.length e.f1
  | none => f (sk (keyS codes)) = none
theorem FMap.snoc {E : List S50} {w : World} {f : Lit → Option Value} (h : FMap E w f) (e : S50) (hn : ∀ x, x ∈ E → x.f0 ≠ e.f0) (B : Option Addr) (d : Nat) (hd : e.f1.length ≤ d) (hC : Kd.C k41 w B e.f1.length e.f1) : FMap (E ++ [e]) w (upd f (sk (keyS e.f0)) (.slice B e.f1.length d)) := by
  intro codes
  rw [List.find?_append]
  have hc := h codes
  by_cases he : e.f0 = codes
  · subst he
    have h0 : E.find? (fun x => decide (x.f0 = e.f0)) = none := List.find?_eq_none.2 fun x hx => by simpa using hn x hx
    rw [h0]
    have h1 : [e].find? (fun x => decide (x.f0 = e.f0)) = some e := by simp
    rw [h1]
    exact ⟨B, d, upd_same _ _ _, hd, hC⟩
  · have h1 : [e].find? (fun x => decide (x.f0 = codes)) = none := by simp [he]
    have hk : sk (keyS codes) ≠ sk (keyS e.f0) := fun e2 => he (keyS_inj (sk_inj.1 e2)).symm
    rw [h1]
    cases hf : E.find? (fun x => decide (x.f0 = codes)) with
    | none =>
      rw [hf] at hc
      show upd f _ _ _ = none
      rw [upd_other _ _ hk]
      exact hc
    | some x =>
      rw [hf] at hc
      obtain ⟨B2, d2, g1, g2⟩ := hc
      exact ⟨B2, d2, by rw [upd_other _ _ hk]; exact g1, g2⟩
theorem nodup_at {α : Type} {l : List α} (hd : l.Nodup) {i j : Nat} {a : α} (hi : l[i]? = some a) (hj : l[j]? = some a) : i = j := by
  obtain ⟨h1, e1⟩ := List.getElem?_eq_some_iff.1 hi
  obtain ⟨h2, e2⟩ := List.getElem?_eq_some_iff.1 hj
  exact (List.getElem_inj (h₀ := h1) (h₁ := h2) hd).1 (e1.trans e2.symm)
set_option maxHeartbeats 4000000 in
set_option maxRecDepth 100000 in
theorem tload_calls (k : Nat) (A0 : Option Addr) (c0 : Nat) (E : List S50) (A1 : Option Addr) (c1 : Nat) (G : List S43) (b2 b3 b4 : Int) (w : World) (hr0 : Kd.C k50 w A0 E.length E) (hc0 : E.length ≤ c0) (hr1 : Kd.C k43 w A1 G.length G) (hc1 : G.length ≤ c1) (hk : colltable_Check.f k E G b2 b3 b4 = some 0) (hp : Pow w) (hE : E.length ≤ 1000000 ∧ ∀ e, e ∈ E → e.f0.length ≤ 1000000 ∧ ∀ n, n ∈ e.f0 → inI n) (hnd : (E.map fun e => e.f0).Nodup) :
    Calls Tryz.prog 20 #[.agg #[.slice none 0 0, .slice none 0 0, .slice none 0 0], .agg #[.slice A0 E.length c0, .slice A1 G.length c1, .int .i64 b2, .int .i64 b3, .int .i64 b4]] w fun e w' => ∃ gt gm : Nat, e = .returned (.pointer (some ⟨gt, 0, none⟩)) ∧ w'.heap[gt]? = some (.cells #[.slice A0 E.length c0, .slice A1 G.length c1, .int .i64 b2, .int .i64 b3, .int .i64 b4, .slice none 0 0, .map (some gm)] 82 (0, 0)) ∧ (∃ f, MapV Tryz.prog 9 w' gm E.length f ∧ FMap E w f) ∧ Below w.heap.size w w' := by
  have HR0 := Aside0.mk hr0
  have HC0 := Aside0.mk hc0
  have HR1 := Aside0.mk hr1
  have HC1 := Aside0.mk hc1
  have HK := Aside0.mk hk
  have HP := Aside0.mk hp
  have HE := Aside0.mk hE
  have HND := Aside0.mk hnd
  have hmm := @run_makeMap Tryz.prog
  clear hr0 hc0 hr1 hc1 hk hp hE hnd
  go_enter Tryz.func20, Tryz.ntmps20
  go_wp2_with (go_at_call 10; fail)
  have hbA := below_alloc (below_alloc (Below.refl w.heap.size w) (.cells #[.slice none 0 0, .slice none 0 0, .slice none 0 0] 61)) (.cells #[.slice A0 E.length c0, .slice A1 G.length c1, .int .i64 b2, .int .i64 b3, .int .i64 b4] 25)
  refine (colltable_Check.calls k A0 c0 E A1 c1 G b2 b3 b4 0 _ (Kd.C_below HR0.out hbA) HC0.out (Kd.C_below HR1.out hbA) HC1.out HK.out).mono ?_
  rintro e w1 ⟨rfl, hb1⟩
  have HB1 := Aside0.mk (below_step hbA hb1)
  have HN1 := Aside0.mk (blk_below (blk_alloc (blk_new w (.cells #[.slice none 0 0, .slice none 0 0, .slice none 0 0] 61)) (.cells #[.slice A0 E.length c0, .slice A1 G.length c1, .int .i64 b2, .int .i64 b3, .int .i64 b4] 25)) hb1)
  have hkc := blk_below (blk_new (w.alloc (.cells #[.slice none 0 0, .slice none 0 0, .slice none 0 0] 61)) (.cells #[.slice A0 E.length c0, .slice A1 G.length c1, .int .i64 b2, .int .i64 b3, .int .i64 b4] 25)) hb1
  rw [show (w.alloc (.cells #[.slice none 0 0, .slice none 0 0, .slice none 0 0] 61)).heap.size = w.heap.size + 1 by simp] at hkc
  have HC1' := Aside0.mk hkc
  have hz0 : w1.cell? ⟨w.heap.size + 1, 0, none⟩ = some (.slice A0 E.length c0) := (blk_cell hkc 0).trans rfl
  have hz1 : w1.cell? ⟨w.heap.size + 1, 1, none⟩ = some (.slice A1 G.length c1) := (blk_cell hkc 1).trans rfl
  have hz2 : w1.cell? ⟨w.heap.size + 1, 2, none⟩ = some (.int .i64 b2) := (blk_cell hkc 2).trans rfl
  have hz3 : w1.cell? ⟨w.heap.size + 1, 3, none⟩ = some (.int .i64 b3) := (blk_cell hkc 3).trans rfl
  have hz4 : w1.cell? ⟨w.heap.size + 1, 4, none⟩ = some (.int .i64 b4) := (blk_cell hkc 4).trans rfl
  have hn0 : ∀ o1 o2, ((w1.alloc o1).alloc o2).cell? ⟨w.heap.size, 0, none⟩ = some (.slice none 0 0) := fun o1 o2 => (blk_cell (blk_alloc (blk_alloc HN1.out o1) o2) 0).trans rfl
  have hn1 : ∀ o1 o2, ((w1.alloc o1).alloc o2).cell? ⟨w.heap.size, 1, none⟩ = some (.slice none 0 0) := fun o1 o2 => (blk_cell (blk_alloc (blk_alloc HN1.out o1) o2) 1).trans rfl
  have hn2 : ∀ o1 o2, ((w1.alloc o1).alloc o2).cell? ⟨w.heap.size, 2, none⟩ = some (.slice none 0 0) := fun o1 o2 => (blk_cell (blk_alloc (blk_alloc HN1.out o1) o2) 2).trans rfl
  clear hbA hb1 hkc
  go_wp2_with (go_at_call 39; fail)
  clear hz0 hz1 hz2 hz3 hz4 hn0 hn1 hn2
  refine (dcheck_calls _).mono ?_
  rintro e w2 ⟨⟨n, rfl⟩, hb2⟩
  have HT2 : Aside0 (w2.heap[w1.heap.size + 1]? = some (.cells #[.slice A0 E.length c0, .slice A1 G.length c1, .int .i64 b2, .int .i64 b3, .int .i64 b4, .slice none 0 0, .map (some w1.heap.size)] 82 (0, 0))) := ⟨by
    have h := blk_below (blk_new (w1.alloc (.map #[] 0)) (.cells #[.slice A0 E.length c0, .slice A1 G.length c1, .int .i64 b2, .int .i64 b3, .int .i64 b4, .slice none 0 0, .map (some w1.heap.size)] 82)) hb2
    rw [show (w1.alloc (.map #[] 0)).heap.size = w1.heap.size + 1 by simp] at h
    exact h⟩
  have hbB := below_alloc (below_alloc (Below.refl w1.heap.size w1) (.map #[] 0)) (.cells #[.slice A0 E.length c0, .slice A1 G.length c1, .int .i64 b2, .int .i64 b3, .int .i64 b4, .slice none 0 0, .map (some w1.heap.size)] 82)
  have HB2 := Aside0.mk (below_step HB1.out (below_step hbB hb2))
  have HN2 := Aside0.mk (blk_below HN1.out (below_step hbB hb2))
  have HC2 := Aside0.mk (blk_below HC1'.out (below_step hbB hb2))
  have HM2 := Aside0.mk (((MapV.made w1 Tryz.prog 9).alloc (.cells #[.slice A0 E.length c0, .slice A1 G.length c1, .int .i64 b2, .int .i64 b3, .int .i64 b4, .slice none 0 0, .map (some w1.heap.size)] 82)).below hb2)
  have hgw : w.heap.size ≤ w1.heap.size := HB1.out.size
  clear hb2 hbB HB1 HN1 HC1'
  generalize w1.heap.size = gm at HT2 HM2 hgw ⊢
  obtain ⟨u18, hu18⟩ : ∃ b : Bool, (n == 0) = b := ⟨_, rfl⟩
  have HGW := Aside0.mk hgw
  go_upto_if 18 with (fail)
  go_cut [] (fun wc => Aside0 (wc.heap[gm + 1]? = some (.cells #[.slice A0 E.length c0, .slice A1 G.length c1, .int .i64 b2, .int .i64 b3, .int .i64 b4, .slice none 0 0, .map (some gm)] 82 (0, 0))) ∧ Aside0 (wc.heap[w.heap.size + 1]? = some (.cells #[.slice A0 E.length c0, .slice A1 G.length c1, .int .i64 b2, .int .i64 b3, .int .i64 b4] 25 (0, 0))) ∧ Aside0 (MapV Tryz.prog 9 wc gm 0 (fun _ => none)) ∧ Aside0 (Below w.heap.size w wc))
  case first =>
    have hn0 : w2.cell? ⟨w.heap.size, 0, none⟩ = some (.slice none 0 0) := (blk_cell HN2.out 0).trans rfl
    have ht5 : w2.cell? ⟨gm + 1, 5, none⟩ = some (.slice none 0 0) := (blk_cell HT2.out 5).trans rfl
    have hf5 := blk_frozen HT2.out 5
    cases u18 with
    | true =>
      go_wp2_with fail
      go_meet
      case rel => exact ⟨⟨blk_put HT2.out 5 _ rfl⟩, ⟨blk_far HC2.out (blk_ne HC2.out HT2.out (by decide)) _⟩, ⟨HM2.out.far (HM2.out.ne_cells HT2.out) _⟩, ⟨below_set HB2.out (by omega)⟩⟩
    | false =>
      go_wp2_with fail
      go_meet
      case rel => exact ⟨HT2, HC2, HM2, HB2⟩
  case rest =>
    obtain ⟨HT, HCc, HM, HB⟩ := hcut
    have hcc : wc.cell? ⟨w.heap.size + 1, 0, none⟩ = some (.slice A0 E.length c0) := (blk_cell HCc.out 0).trans rfl
    clear hu18 HT2 HN2 HC2 HM2 HB2
    go_wp2_with fail
    clear hcc
    go_loopg [27] E.length (fun g v27 w' => ∃ x : Nat, v27 = .int .i64 x ∧ Aside0 (g = E.length - x ∧ x ≤ E.length) ∧ Aside0 (w'.heap[gm + 1]? = some (.cells #[.slice A0 E.length c0, .slice A1 G.length c1, .int .i64 b2, .int .i64 b3, .int .i64 b4, .slice none 0 0, .map (some gm)] 82 (0, 0))) ∧ Aside0 (∃ f, MapV Tryz.prog 9 w' gm x f ∧ FMap (E.take x) w f) ∧ Aside0 (Below w.heap.size w w'))
    case atStart => exact ⟨0, rfl, ⟨by simp, by omega⟩, HT, ⟨_, HM.out, fun codes => by rw [List.take_zero, List.find?_nil]⟩, HB⟩
    clear HT HM HB HCc
    case round =>
      obtain ⟨x, rfl, HG, HT, HMX, HB⟩ := hrel
      by_cases hlt : x < E.length
      · have hltz : (x : Int) < (E.length : Int) := by omega
        have p0 : 0 ≤ (x : Int) := by omega
        have hxb : (x : Int) < 9223372036854775807 := by have := HE.out.1; omega
        have HWR := Aside0.mk (wrap_up p0 hxb)
        clear hxb
        obtain ⟨ad, B0, d0, B1, d1, e, hx0, hx1, hl0, hc0, hl1, hc1⟩ := at_T50 HR0.out (x : Int) p0 hltz
        cases e
        replace hx0 := pw_cell_below HB.out hx0
        replace hx1 := pw_cell_below HB.out hx1
        obtain ⟨ex, hex⟩ : ∃ ex, rd_T50 E (x : Int) = ex := ⟨_, rfl⟩
        rw [hex] at hx0 hx1 hl0 hc0 hl1 hc1
        rw [Int.toNat_natCast] at hx0 hx1
        have hget : E[x]? = some ex := by rw [List.getElem?_eq_getElem hlt, ← hex, rdT49 hlt]
        have hes := HE.out.2 ex (List.mem_of_getElem? hget)
        have HES := Aside0.mk hes
        have HGET := Aside0.mk hget
        have HLT := Aside0.mk hlt
        clear hes hget
        go_wp2
        have hb4 := below_alloc (Below.refl wr.heap.size wr) (.cells #[.slice B0 ex.f0.length d0, .slice B1 ex.f1.length d1] 50)
        have HK4 := Aside0.mk (blk_new wr (.cells #[.slice B0 ex.f0.length d0, .slice B1 ex.f1.length d1] 50))
        have HT4 := Aside0.mk (blk_below HT.out hb4)
        obtain ⟨f, hmv, hfm⟩ := HMX.out
        have HM4 := Aside0.mk (hmv.below hb4)
        have HFM := Aside0.mk hfm
        have HB4 := Aside0.mk (below_step HB.out hb4)
        generalize hgq : wr.heap.size = gy at HK4 ⊢
        have hmlt : gm < wr.heap.size := hmv.lt
        have hne : gm ≠ gy := by omega
        have htlt : gm + 1 < wr.heap.size := blk_lt HT.out
        generalize wr.alloc (.cells #[.slice B0 ex.f0.length d0, .slice B1 ex.f1.length d1] 50) = w4 at hb4 HK4 HT4 HM4 HB4 ⊢
        have hl1' : gm + 1 < w4.heap.size := blk_lt HT4.out
        have hl2' : gy < w4.heap.size := blk_lt HK4.out
        have hne1 : some (gm + 1) ≠ some gm := by simp
        have hne2 : some gy ≠ some gm := by simp; omega
        have hS : ∀ W : World, W.heap[gm + 1]? = w4.heap[gm + 1]? → W.heap[gy]? = w4.heap[gy]? → (W.cell? ⟨gm + 1, 6, none⟩ = some (.map (some gm)) ∧ W.cell? ⟨gy, 0, none⟩ = some (.slice B0 ex.f0.length d0) ∧ W.cell? ⟨gy, 1, none⟩ = some (.slice B1 ex.f1.length d1)) := fun W h1 h2 => ⟨(blk_cell (h1.trans HT4.out) 6).trans rfl, (blk_cell (h2.trans HK4.out) 0).trans rfl, (blk_cell (h2.trans HK4.out) 1).trans rfl⟩
        have HKEY := fun (W : World) (hb : Below w4.heap.size w4 W) => key_calls B0 d0 ex.f0 W (Kd.C_below (Kd.C_below hc0 HB4.out) hb) ((HP.out.below HB4.out).below hb) HES.out.2 HES.out.1
        have hkl : (keyS ex.f0).size ≤ maxLen := by
          rw [keyS_size]
          have h1 := keyL_len ex.f0 HES.out.2
          have h2 := HES.out.1
          unfold maxLen
          omega
        have HKO := Aside0.mk (keyOf_sk Tryz.underlying9 hkl)
        have hxm : x < maxLen := by have := HE.out.1; unfold maxLen; omega
        clear hx0 hx1 hmv hfm hmlt htlt hkl hlt hltz
        go_region_held3 (fun w' => w'.cell? ⟨gm + 1, 6, none⟩ = some (.map (some gm)) ∧ w'.cell? ⟨gy, 0, none⟩ = some (.slice B0 ex.f0.length d0) ∧ w'.cell? ⟨gy, 1, none⟩ = some (.slice B1 ex.f1.length d1))
          (first
            | exact hS _ rfl rfl
            | exact hS _ (hb5.block _ hl1') (hb5.block _ hl2')
            | exact hS _ ((hg6.block _ (Nat.lt_of_lt_of_le hl1' hb5.size) hne1).trans (hb5.block _ hl1')) ((hg6.block _ (Nat.lt_of_lt_of_le hl2' hb5.size) hne2).trans (hb5.block _ hl2')))
          (first
            | (go_at_call 40; refine (HKEY _ (below_drew (Below.refl _ _))).mono ?_; rintro e w5 ⟨rfl, hb5⟩)
            | (obtain ⟨w6, hrun6, hm6, hg6⟩ := MapV.put ((HM4.out.drew).below hb5) strK Tryz.underlying80 hxm (.slice B1 ex.f1.length d1) HKO.out; rw [hrun6]; simp only [Result.andThen]; rw [Oper.upon_skip]))
        have hb5' : Below w4.heap.size w4 w5 := below_step (below_drew (Below.refl _ _)) hb5
        have HT6 := Aside0.mk ((hg6.block _ (Nat.lt_of_lt_of_le hl1' hb5.size) hne1).trans (blk_below HT4.out hb5'))
        have hb5w := below_step HB4.out hb5'
        have HB6 := Aside0.mk (pw_below_grown hb5w (some gm) hb5w.size hg6 (fun k hk => by injection hk with hk; have := HGW.out; omega))
        have e1 : E.take (x + 1) = E.take x ++ [ex] := by rw [List.take_add_one, HGET.out]; rfl
        have hno : ∀ y, y ∈ E.take x → y.f0 ≠ ex.f0 := fun y hy e => by
          obtain ⟨i, hi, hyi⟩ := List.mem_iff_getElem.1 hy
          rw [List.length_take] at hi
          have hl := HLT.out
          have h1 : (E.map fun e => e.f0)[i]? = some ex.f0 := by
            rw [List.getElem?_map, List.getElem?_eq_getElem (show i < E.length by omega)]
            rw [List.getElem_take] at hyi
            rw [hyi]
            exact congrArg some e
          have h2 : (E.map fun e => e.f0)[x]? = some ex.f0 := by rw [List.getElem?_map, HGET.out]; rfl
          have := nodup_at HND.out h1 h2
          omega
        have HFM6 : Aside0 (FMap (E.take (x + 1)) w (upd f (sk (keyS ex.f0)) (.slice B1 ex.f1.length d1))) := ⟨by rw [e1]; exact HFM.out.snoc ex hno B1 d1 hl1 hc1⟩
        have HM6 := Aside0.mk hm6
        clear hm6 hg6 e1 hno
        go_wp2
        go_roundg (E.length - (x + 1))
        case measure => have := HG.out; have := HLT.out; omega
        case rel => exact ⟨x + 1, (by first | (rw [HWR.out]; rfl) | rfl), ⟨rfl, Nat.succ_le_of_lt HLT.out⟩, HT6, ⟨_, HM6.out, HFM6.out⟩, HB6⟩
      · have hxe : x = E.length := by have := HG.out; omega
        obtain ⟨f, hmv, hfm⟩ := HMX.out
        rw [hxe] at hmv hfm
        rw [List.take_length] at hfm
        have HMV := Aside0.mk hmv
        have HFM := Aside0.mk hfm
        clear hmv hfm
        go_wp2_with fail
        go_ret
        exact ⟨_, _, rfl, HT.out, ⟨_, HMV.out, HFM.out⟩, HB.out⟩
end Go.Proofs.YtfcpebjjcijgcaaGreatDoor.G
-- by hand: lemmas
namespace Go.Proofs.YtfcpebjjcijgcaaGreatDoor.G
open Go.RowKit Go.Proofs.YtfcpebjjcijgcaaGreatDoorW.PrintWords Go.Proofs.YtfcpebjjcijgcaaGreatDoorW.PrintLast Go.Proofs.YtfcpebjjcijgcaaGreatDoorW.PrintMore
attribute [local go_sem] max2_int min2_int max_two min_two max_three min_three max_four min_four   -- for this text's walks alone
set_option linter.unusedVariables false
set_option linter.unusedSimpArgs false
/-! colltable.Find at a valid collation. -/
def foundE (E : List S50) (codes : List Int) : List S41 := match E.find? (fun e => decide (e.f0 = codes)) with | some e => e.f1 | none => []
theorem FMap.below {E : List S50} {w w1 : World} {f : Lit → Option Value} (h : FMap E w f) (hb : Below w.heap.size w w1) : FMap E w1 f := by
  intro codes
  have := h codes
  cases hf : E.find? (fun e => decide (e.f0 = codes)) with
  | none => rw [hf] at this; exact this
  | some e =>
    rw [hf] at this
    obtain ⟨B, d, h1, h2, h3⟩ := this
    exact ⟨B, d, h1, h2, Kd.C_below h3 hb⟩
/-- What the map gives at codes. -/
theorem FMap.at_ {E : List S50} {w : World} {f : Lit → Option Value} (h : FMap E w f) (codes : List Int) : ∃ (B : Option Addr) (d : Nat) (b : Bool), (f (sk (keyS codes))).getD (.slice none 0 0) = .slice B (foundE E codes).length d ∧ (f (sk (keyS codes))).isSome = b ∧ (foundE E codes).length ≤ d ∧ Kd.C k41 w B (foundE E codes).length (foundE E codes) := by
  have := h codes
  unfold foundE
  cases hf : E.find? (fun e => decide (e.f0 = codes)) with
  | none =>
    rw [hf] at this
    exact ⟨none, 0, false, by rw [this]; rfl, by rw [this]; rfl, Nat.le_refl _, Kd.C_nil _ _⟩
  | some e =>
    rw [hf] at this
    obtain ⟨B, d, h1, h2, h3⟩ := this
    exact ⟨B, d, true, by rw [h1]; rfl, by rw [h1]; rfl, h2, h3⟩
theorem zero_els (w : World) : (zeroValue 37).run Tryz.prog w = .ok (.slice none 0 0) w := by kernel_rfl
set_option maxHeartbeats 4000000 in
set_option maxRecDepth 100000 in
theorem find_calls (E : List S50) (gt gm n : Nat) (v0 v1 v2 v3 v4 v5 : Value) (f : Lit → Option Value) (A : Option Addr) (c : Nat) (codes : List Int) (w : World) (ht : w.heap[gt]? = some (.cells #[v0, v1, v2, v3, v4, v5, .map (some gm)] 82 (0, 0))) (hm : MapV Tryz.prog 9 w gm n f) (hf : FMap E w f) (hp : Pow w) (hr : Kd.C (Kd.int .i64) w A codes.length codes) (hi : ∀ n, n ∈ codes → inI n) (hl : codes.length ≤ 1000000) :
    Calls Tryz.prog 21 #[.pointer (some ⟨gt, 0, none⟩), .slice A codes.length c] w fun e w' => ∃ (B : Option Addr) (d : Nat) (b : Bool), e = .returned (.tuple #[.slice B (foundE E codes).length d, .bool b]) ∧ (foundE E codes).length ≤ d ∧ Kd.C k41 w B (foundE E codes).length (foundE E codes) ∧ Below w.heap.size w w' := by
  obtain ⟨B, d, b, hv, hb, hle, hC⟩ := hf.at_ codes
  have HT := Aside0.mk ht
  have HM := Aside0.mk hm
  have HLE := Aside0.mk hle
  have HCB := Aside0.mk hC
  have hkl : (keyS codes).size ≤ maxLen := by
    rw [keyS_size]
    have h1 := keyL_len codes hi
    unfold maxLen
    omega
  have HKO := Aside0.mk (keyOf_sk Tryz.underlying9 hkl)
  have HLK := fun (W : World) (hbw : Below w.heap.size w W) => (hm.below hbw).look_ok strK Tryz.underlying80 (zero_els W) HKO.out
  rw [hv, hb] at HLK
  have HKEY := fun (W : World) (hbw : Below w.heap.size w W) => key_calls A c codes W (Kd.C_below hr hbw) (hp.below hbw) hi hl
  have hS : ∀ W : World, W.heap[gt]? = w.heap[gt]? → W.cell? ⟨gt, 6, none⟩ = some (.map (some gm)) := fun W h1 => (blk_cell (h1.trans HT.out) 6).trans rfl
  have hgl : gt < w.heap.size := blk_lt ht
  obtain ⟨u, hu⟩ : ∃ u, (foundE E codes).length = u := ⟨_, rfl⟩
  rw [hu] at HLK
  have HU := Aside0.mk hu
  clear ht hm hf hp hr hi hl hv hb hle hC hkl hu
  go_enter Tryz.func21, Tryz.ntmps21
  go_wp2
  go_region_held3 (fun w' => w'.cell? ⟨gt, 6, none⟩ = some (.map (some gm)))
    (first
      | exact hS _ rfl
      | exact hS _ (hb5.block _ hgl))
    (first
      | (go_at_call 40; refine (HKEY _ (below_drew (Below.refl _ _))).mono ?_; rintro e w5 ⟨rfl, hb5⟩)
      | (rw [HLK _ (below_step (below_drew (Below.refl w.heap.size w)) hb5)]; simp only [Result.andThen]; rw [Oper.upon_value]))
  have HB5 := Aside0.mk (below_step (below_drew (Below.refl w.heap.size w)) hb5)
  clear hb5 HKEY HLK hS hgl
  go_wp2
  go_ret2
  exact ⟨B, d, b, (by rw [HU.out]; rfl), HLE.out, HCB.out, HB5.out⟩
set_option maxHeartbeats 4000000 in
set_option maxRecDepth 100000 in
theorem cFind_calls (k : Nat) (A0 : Option Addr) (c0 : Nat) (E : List S50) (A1 : Option Addr) (c1 : Nat) (G : List S43) (b2 b3 b4 : Int) (A : Option Addr) (c : Nat) (codes : List Int) (w : World) (hr0 : Kd.C k50 w A0 E.length E) (hc0 : E.length ≤ c0) (hr1 : Kd.C k43 w A1 G.length G) (hc1 : G.length ≤ c1) (hk : colltable_Check.f k E G b2 b3 b4 = some 0) (hp : Pow w) (hE : E.length ≤ 1000000 ∧ ∀ e, e ∈ E → e.f0.length ≤ 1000000 ∧ ∀ n, n ∈ e.f0 → inI n) (hE1 : ∀ e, e ∈ E → e.f1.length ≤ 1000000) (hnd : (E.map fun e => e.f0).Nodup) (hr : Kd.C (Kd.int .i64) w A codes.length codes) (hi : ∀ n, n ∈ codes → inI n) (hl : codes.length ≤ 1000000) :
    Calls Tryz.prog 11 #[.agg #[.slice A0 E.length c0, .slice A1 G.length c1, .int .i64 b2, .int .i64 b3, .int .i64 b4], .slice A codes.length c] w fun e w' => ∃ (v : Value) (b : Bool), e = .returned (.tuple #[v, .bool b]) ∧ Kd.R k41 41 w' w.heap.size (fun _ => True) v (foundE E codes) ∧ Below w.heap.size w w' := by
  have hfl : (foundE E codes).length ≤ 1000000 := by
    unfold foundE
    split
    · rename_i e he
      exact hE1 e (List.mem_of_find?_eq_some he)
    · simp
  have HFL := Aside0.mk hfl
  have HR := Aside0.mk hr
  have HP := Aside0.mk hp
  have HI := Aside0.mk hi
  have HL := Aside0.mk hl
  have hbx := below_alloc (Below.refl w.heap.size w) (.cells #[.slice A0 E.length c0, .slice A1 G.length c1, .int .i64 b2, .int .i64 b3, .int .i64 b4] 25)
  have HTL := Aside0.mk (tload_calls k A0 c0 E A1 c1 G b2 b3 b4 _ (Kd.C_below hr0 hbx) hc0 (Kd.C_below hr1 hbx) hc1 hk (hp.below hbx) hE hnd)
  have HBX := Aside0.mk hbx
  clear hfl hr0 hc0 hr1 hc1 hk hp hE hE1 hnd hr hi hl hbx
  go_enter Tryz.func11, Tryz.ntmps11
  go_wp2_with (go_at_call 20; fail)
  refine HTL.out.mono ?_
  rintro e w1 ⟨gt, gm, rfl, ht, ⟨f, hm, hf⟩, hb1⟩
  have HB1 := Aside0.mk (below_step HBX.out hb1)
  have HFI := Aside0.mk (find_calls E gt gm E.length _ _ _ _ _ _ f A c codes w1 ht hm (hf.below hb1) (HP.out.below HB1.out) (Kd.C_below HR.out HB1.out) HI.out HL.out)
  clear ht hm hf hb1 HTL
  go_wp2_with (go_at_call 21; fail)
  refine HFI.out.mono ?_
  rintro e w2 ⟨B, d, b, rfl, hle, hC, hb2⟩
  have HB2 := Aside0.mk (below_step HB1.out hb2)
  have HCL := Aside0.mk (api_Element_22.calls B d (foundE E codes) (foundE E codes) w2 (Kd.C_below hC hb2) hle (by unfold api_Element_22.f; rw [if_pos (by have := HFL.out; omega)]))
  clear hle hC hb2 HFI
  go_wp2_with (go_at_call 22; fail)
  refine HCL.out.mono ?_
  rintro e w3 ⟨v3, rfl, hR3, hb3⟩
  have HB3 := Aside0.mk (below_step HB2.out hb3)
  have HR3 := Aside0.mk (Kd.R_lower hR3 HB2.out.size)
  clear hR3 hb3 HCL
  go_wp2_with fail
  go_ret2
  exact ⟨v3, b, rfl, HR3.out, HB3.out⟩
end Go.Proofs.YtfcpebjjcijgcaaGreatDoor.G
-- by hand: lemmas
namespace Go.Proofs.YtfcpebjjcijgcaaGreatDoor.G
open Go.RowKit Go.Proofs.YtfcpebjjcijgcaaGreatDoorW.PrintWords Go.Proofs.YtfcpebjjcijgcaaGreatDoorW.PrintLast Go.Proofs.YtfcpebjjcijgcaaGreatDoorW.PrintMore
attribute [local go_sem] max2_int min2_int max_two min_two max_three min_three max_four min_four   -- for this text's walks alone
set_option linter.unusedVariables false
set_option linter.unusedSimpArgs false
/-! groups.Of at a valid collation. -/
theorem laidOutZ : laidOutB Tryz.prog = true := by kernel_rfl
theorem lawGrp : WideMaps.KeyLaw Tryz.prog 43 := deep_law_laid laidOutZ (m := 3) (by omega) (of_decide_eq_true (by kernel_rfl)) (by kernel_rfl) (by kernel_rfl)
theorem grpK : Maps.Keyed Tryz.prog 43 := Maps.Keyed.of_law lawGrp
def grpVal (g : S43) : Value := .agg #[.string g.f0, .int .i64 g.f1, .int .i64 g.f2]
theorem keyOf_group (g : S43) (hs : g.f0.size ≤ maxLen) (h1 : inI g.f1) (h2 : inI g.f2) : ∃ l, keyOf Tryz.prog 43 (grpVal g) = some l := by
  obtain ⟨d, hd⟩ : ∃ d, Tryz.prog.types.size + 1 = d + 2 := ⟨Tryz.prog.types.size - 1, by have : 1 ≤ Tryz.prog.types.size := of_decide_eq_true (by kernel_rfl); omega⟩
  unfold keyOf grpVal
  rw [hd, Tryz.underlying43]
  have hkt : Tryz.prog.keyType 43 = true := by kernel_rfl
  have hfo : (Value.agg #[.string g.f0, .int .i64 g.f1, .int .i64 g.f2]).formed Tryz.prog 43 = true := by
    simp [Value.formed, Tryz.underlying43]
    kernel_rfl
  simp only [hkt, hfo, Bool.and_self, if_true]
  have hl : Tryz.prog.keyLits (d + 2) 43 [.string g.f0, .int .i64 g.f1, .int .i64 g.f2] = some [.string g.f0.data.toList, .int .i64 g.f1, .int .i64 g.f2] := by
    have hc9 : Tryz.prog.cellsOf 9 = 1 := by kernel_rfl
    have hc3 : Tryz.prog.cellsOf 3 = 1 := by kernel_rfl
    unfold Program.keyLits
    rw [Tryz.underlying43]
    simp only []
    rw [if_pos ⟨by kernel_rfl, by kernel_rfl⟩]
    simp [hc9, hc3, Program.keyLits, Tryz.underlying9, Tryz.underlying3, hs, Go.WalkArith.wf_i64 h1, Go.WalkArith.wf_i64 h2]
  exact ⟨_, by show Option.map _ (Tryz.prog.keyLits (d + 2) 43 [.string g.f0, .int .i64 g.f1, .int .i64 g.f2]) = _; rw [hl]; rfl⟩
/-- A group's key. -/
noncomputable def grpKey (g : S43) : Lit := (keyOf Tryz.prog 43 (grpVal g)).getD .nil
/-- Groups whose keys can be told. -/
def grpOk (g : S43) : Prop := g.f0.size ≤ maxLen ∧ inI g.f1 ∧ inI g.f2
theorem grpKey_key {g : S43} (h : grpOk g) : keyOf Tryz.prog 43 (grpVal g) = some (grpKey g) := by
  obtain ⟨l, hl⟩ := keyOf_group g h.1 h.2.1 h.2.2
  unfold grpKey
  rw [hl]
  rfl
theorem grpKey_inj {g g2 : S43} (h : grpOk g) (h2 : grpOk g2) (e : grpKey g = grpKey g2) : g = g2 := by
  have a := grpKey_key h
  rw [e] at a
  have b := lawGrp.inj a (grpKey_key h2)
  unfold grpVal at b
  cases g; cases g2
  simp only [Value.agg.injEq] at b
  simp_all
/-- What the map says of the groups. -/
def GrpMap (G : List S43) (f : Lit → Option Value) (p : S43 → Prop) : Prop := ∀ g, g ∈ G → ∃ b, (f (grpKey g)).getD (.bool false) = .bool b ∧ (b = true ↔ p g)
theorem GrpMap.congr {G : List S43} {f : Lit → Option Value} {p q : S43 → Prop} (h : GrpMap G f p) (hpq : ∀ g, g ∈ G → (p g ↔ q g)) : GrpMap G f q := fun g hg => by
  obtain ⟨b, h1, h2⟩ := h g hg
  exact ⟨b, h1, h2.trans (hpq g hg)⟩
theorem GrpMap.put {G : List S43} {f : Lit → Option Value} {p : S43 → Prop} (h : GrpMap G f p) (hok : ∀ g, g ∈ G → grpOk g) {g0 : S43} (h0 : g0 ∈ G) : GrpMap G (upd f (grpKey g0) (.bool true)) (fun g => p g ∨ g = g0) := fun g hg => by
  by_cases e : g = g0
  · subst e
    exact ⟨true, by rw [upd_same]; rfl, by simp⟩
  · obtain ⟨b, h1, h2⟩ := h g hg
    have hk : grpKey g ≠ grpKey g0 := fun e2 => e (grpKey_inj (hok g hg) (hok g0 h0) e2)
    exact ⟨b, by rw [upd_other _ _ hk]; exact h1, h2.trans ⟨Or.inl, fun h => h.resolve_right e⟩⟩
/-- Does a weight lie in a group? -/
def inGrp (x : Int) (g : S43) : Bool := decide (g.f1 ≤ x) && decide (x ≤ g.f2)
/-- A text's elements that lie in a group. -/
def HitG (E : List S50) (text : List Int) (g : S43) : Prop := ∃ t, t ∈ text ∧ ∃ e, e ∈ foundE E [t] ∧ inGrp e.f0 g = true
theorem C_one (t : Int) (w : World) : Kd.C (Kd.int .i64) (w.alloc (.cells #[.int .i64 t] 3)) (some ⟨w.heap.size, 0, none⟩) [t].length [t] := by
  refine ⟨rfl, by simp, fun _ => ⟨_, rfl, fun j p hj => ?_⟩⟩
  match j, hj with
  | 0, hj =>
    obtain rfl : t = p := by simpa using hj
    refine ⟨[.int .i64 t], rfl, rfl, fun i u hu => ?_⟩
    match i, hu with
    | 0, hu =>
      obtain rfl : Value.int .i64 t = u := by simpa using hu
      show (w.alloc (.cells #[.int .i64 t] 3)).cell? _ = _
      rw [add_plain]
      exact (blk_cell (blk_new w (.cells #[.int .i64 t] 3)) 0).trans rfl
theorem names_yes (p : S43 → Bool) {G : List S43} {z : Nat} {gz : S43} (htk : G.take (z + 1) = G.take z ++ [gz]) (h : p gz = true) :
    ((G.take (z + 1)).filter p).map (fun g => g.f0) = ((G.take z).filter p).map (fun g => g.f0) ++ [gz.f0] := by
  rw [htk, List.filter_append, List.map_append, List.filter_cons_of_pos h]
  rfl
theorem names_no (p : S43 → Bool) {G : List S43} {z : Nat} {gz : S43} (htk : G.take (z + 1) = G.take z ++ [gz]) (h : ¬ p gz = true) :
    ((G.take (z + 1)).filter p).map (fun g => g.f0) = ((G.take z).filter p).map (fun g => g.f0) := by
  rw [htk, List.filter_append, List.map_append, List.filter_cons_of_neg h]
  exact List.append_nil _
theorem names_small (p : S43 → Bool) {G : List S43} {z : Nat} (hG : G.length ≤ 1000) :
    ((((G.take z).filter p).map (fun g => g.f0)).length + 1) * 16 ≤ 140737488355328 := by
  rw [List.length_map]
  have h1 := List.length_filter_le p (G.take z)
  have h2 := List.length_take_le' z G
  omega
theorem nle1 {n x y g : Nat} (h : n ≤ x * 1000000 + y * 1000 + g) (hg : g ≤ 1000) : n ≤ x * 1000000 + (y + 1) * 1000 := by rw [Nat.add_mul, Nat.one_mul, ← Nat.add_assoc]; exact Nat.le_trans h (Nat.add_le_add_left hg _)
theorem nle2 {n x g : Nat} (h : n ≤ x * 1000000 + g * 1000) (hg : g ≤ 1000) : n ≤ (x + 1) * 1000000 := by rw [Nat.add_mul, Nat.one_mul]; exact Nat.le_trans h (Nat.add_le_add_left (Nat.le_trans (Nat.mul_le_mul_right 1000 hg) (by decide)) _)
theorem infoStr : (Tryz.prog.info? 9).map (fun i => (i.zero, i.size, i.bytes)) = some (some (.string ⟨#[]⟩), 1, 16) := by kernel_rfl
theorem boolZero (w : World) : (zeroValue 4).run Tryz.prog w = .ok (.bool false) w := by kernel_rfl
theorem grp_step (F : S43 → Prop) {G : List S43} {z : Nat} {gz : S43} {x : Int} (htk : G.take (z + 1) = G.take z ++ [gz]) (hin : inGrp x gz = true) (g : S43) :
    ((F g ∨ (g ∈ G.take z ∧ inGrp x g = true)) ∨ g = gz) ↔ (F g ∨ (g ∈ G.take (z + 1) ∧ inGrp x g = true)) := by
  rw [htk, List.mem_append, List.mem_singleton]
  constructor
  · rintro ((h | h) | rfl)
    · exact .inl h
    · exact .inr ⟨.inl h.1, h.2⟩
    · exact .inr ⟨.inr rfl, hin⟩
  · rintro (h | ⟨h | h, h2⟩)
    · exact .inl (.inl h)
    · exact .inl (.inr ⟨h, h2⟩)
    · exact .inr h
theorem grp_skip (F : S43 → Prop) {G : List S43} {z : Nat} {gz : S43} {x : Int} (htk : G.take (z + 1) = G.take z ++ [gz]) (hin : inGrp x gz = false) (g : S43) :
    (F g ∨ (g ∈ G.take z ∧ inGrp x g = true)) ↔ (F g ∨ (g ∈ G.take (z + 1) ∧ inGrp x g = true)) := by
  rw [htk, List.mem_append, List.mem_singleton]
  constructor
  · rintro (h | h)
    · exact .inl h
    · exact .inr ⟨.inl h.1, h.2⟩
  · rintro (h | ⟨h | rfl, h2⟩)
    · exact .inl h
    · exact .inr ⟨h, h2⟩
    · rw [hin] at h2; cases h2
theorem grp_end (F : S43 → Prop) {G : List S43} {L : List S41} {y : Nat} {ey : S41} (hey : L[y]? = some ey) (g : S43) (hg : g ∈ G) :
    ((F g ∨ ∃ e, e ∈ L.take y ∧ inGrp e.f0 g = true) ∨ (g ∈ G.take G.length ∧ inGrp ey.f0 g = true)) ↔ (F g ∨ ∃ e, e ∈ L.take (y + 1) ∧ inGrp e.f0 g = true) := by
  rw [List.take_length, List.take_add_one, hey]
  constructor
  · rintro ((h | ⟨e, h1, h2⟩) | ⟨_, h⟩)
    · exact .inl h
    · exact .inr ⟨e, List.mem_append.2 (.inl h1), h2⟩
    · exact .inr ⟨ey, List.mem_append.2 (.inr (by simp)), h⟩
  · rintro (h | ⟨e, h1, h2⟩)
    · exact .inl (.inl h)
    · rcases List.mem_append.1 h1 with h1 | h1
      · exact .inl (.inr ⟨e, h1, h2⟩)
      · obtain rfl : e = ey := by simpa using h1
        exact .inr ⟨hg, h2⟩
theorem txt_end {E : List S50} {text : List Int} {x : Nat} {t : Int} (ht : text[x]? = some t) {L : List S41} (hL : foundE E [t] = L) (g : S43) :
    (HitG E (text.take x) g ∨ ∃ e, e ∈ L.take L.length ∧ inGrp e.f0 g = true) ↔ HitG E (text.take (x + 1)) g := by
  rw [List.take_length, ← hL]
  unfold HitG
  rw [List.take_add_one, ht]
  constructor
  · rintro (⟨u, h1, h2⟩ | h)
    · exact ⟨u, List.mem_append.2 (.inl h1), h2⟩
    · exact ⟨t, List.mem_append.2 (.inr (by simp)), h⟩
  · rintro ⟨u, h1, h2⟩
    rcases List.mem_append.1 h1 with h1 | h1
    · exact .inl ⟨u, h1, h2⟩
    · obtain rfl : u = t := by simpa using h1
      exact .inr h2
theorem HitG_any {E : List S50} {text : List Int} {g : S43} : HitG E text g ↔ (text.any fun t => (foundE E [t]).any fun e => inGrp e.f0 g) = true := by
  unfold HitG
  simp only [List.any_eq_true]
set_option maxHeartbeats 4000000 in
set_option maxRecDepth 100000 in
theorem of_calls (k : Nat) (A0 : Option Addr) (c0 : Nat) (E : List S50) (A1 : Option Addr) (c1 : Nat) (G : List S43) (b2 b3 b4 : Int) (A : Option Addr) (c : Nat) (text : List Int) (w : World) (hr0 : Kd.C k50 w A0 E.length E) (hc0 : E.length ≤ c0) (hr1 : Kd.C k43 w A1 G.length G) (hc1 : G.length ≤ c1) (hk : colltable_Check.f k E G b2 b3 b4 = some 0) (hp : Pow w) (hE : E.length ≤ 1000000 ∧ ∀ e, e ∈ E → e.f0.length ≤ 1000000 ∧ ∀ n, n ∈ e.f0 → inI n) (hE1 : ∀ e, e ∈ E → e.f1.length ≤ 1000) (hnd : (E.map fun e => e.f0).Nodup) (hr : Kd.C (Kd.int .i64) w A text.length text) (hi : ∀ n, n ∈ text → inI n) (hl : text.length ≤ 1000) (hG : G.length ≤ 1000) (hok : ∀ g, g ∈ G → grpOk g) :
    Calls Tryz.prog 6 #[.agg #[.slice A0 E.length c0, .slice A1 G.length c1, .int .i64 b2, .int .i64 b3, .int .i64 b4], .slice A text.length c] w fun e w' => ∃ v, e = .returned v ∧ Kd.R Kd.string 9 w' w.heap.size (fun _ => True) v ((G.filter fun g => text.any fun t => (foundE E [t]).any fun e => inGrp e.f0 g).map fun g => g.f0) ∧ Below w.heap.size w w' := by
  have HR0 := Aside0.mk hr0
  have HC0 := Aside0.mk hc0
  have HR1 := Aside0.mk hr1
  have HC1 := Aside0.mk hc1
  have HK := Aside0.mk hk
  have HP := Aside0.mk hp
  have HE := Aside0.mk hE
  have HE1 := Aside0.mk hE1
  have HND := Aside0.mk hnd
  have HR := Aside0.mk hr
  have HI := Aside0.mk hi
  have HL := Aside0.mk hl
  have HGL := Aside0.mk hG
  have HOK := Aside0.mk hok
  have HFL : Aside0 (∀ codes, (foundE E codes).length ≤ 1000) := ⟨fun codes => by
    unfold foundE
    split
    · rename_i e he
      exact hE1 e (List.mem_of_find?_eq_some he)
    · simp⟩
  have hmm := @run_makeMap Tryz.prog
  clear hr0 hc0 hr1 hc1 hk hp hE hE1 hnd hr hi hl hG hok
  go_enter Tryz.func6, Tryz.ntmps6
  go_wp2_with (go_at_call 10; fail)
  have hbA := below_alloc (Below.refl w.heap.size w) (.cells #[.slice A0 E.length c0, .slice A1 G.length c1, .int .i64 b2, .int .i64 b3, .int .i64 b4] 25)
  refine (colltable_Check.calls k A0 c0 E A1 c1 G b2 b3 b4 0 _ (Kd.C_below HR0.out hbA) HC0.out (Kd.C_below HR1.out hbA) HC1.out HK.out).mono ?_
  rintro e w1 ⟨rfl, hb1⟩
  have HB1 := Aside0.mk (below_step hbA hb1)
  have HKC1 := Aside0.mk (blk_below (blk_new w (.cells #[.slice A0 E.length c0, .slice A1 G.length c1, .int .i64 b2, .int .i64 b3, .int .i64 b4] 25)) hb1)
  clear hbA hb1
  have hgm : w.heap.size ≤ w1.heap.size := HB1.out.size
  go_wp2_with fail
  have HM1 := Aside0.mk (MapV.made w1 Tryz.prog 43)
  have HB2 := Aside0.mk (below_alloc HB1.out (.map #[] 0))
  have HKC2 := Aside0.mk (blk_alloc HKC1.out (.map #[] 0))
  generalize w1.heap.size = gm at HM1 hgm ⊢
  generalize w1.alloc (.map #[] 0) = w2 at HM1 HB2 HKC2 ⊢
  clear HB1 HKC1
  have HGM := Aside0.mk hgm
  go_loopg [23] text.length (fun gg v w' => ∃ x : Nat, v = .int .i64 x ∧ Aside0 (gg = text.length - x ∧ x ≤ text.length) ∧ Aside0 (∃ n f, n ≤ x * 1000000 ∧ MapV Tryz.prog 43 w' gm n f ∧ GrpMap G f (HitG E (text.take x))) ∧ Aside0 (w'.heap[w.heap.size]? = some (.cells #[.slice A0 E.length c0, .slice A1 G.length c1, .int .i64 b2, .int .i64 b3, .int .i64 b4] 25 (0, 0))) ∧ Aside0 (Below w.heap.size w w'))
  case atStart => exact ⟨0, rfl, ⟨by simp, by omega⟩, ⟨0, _, by omega, HM1.out, fun g _ => ⟨false, rfl, by simp [HitG]⟩⟩, HKC2, HB2⟩
  clear HM1 HB2 HKC2
  case round =>
    obtain ⟨x, rfl, HX, HMX, HKC, HB⟩ := hrel
    by_cases hlt : x < text.length
    · have hltz : (x : Int) < (text.length : Int) := by omega
      have p0 : 0 ≤ (x : Int) := by omega
      have HWX := Aside0.mk (wrap_up p0 (show (x : Int) < 9223372036854775807 by have := HL.out; omega))
      obtain ⟨ad, cc, e, hcl, hK, hcells⟩ := Kd.row_at HR.out hlt
      cases e
      obtain ⟨t, ht⟩ : ∃ t, text[x] = t := ⟨_, rfl⟩
      rw [ht] at hK
      obtain rfl : cc = [.int .i64 t] := hK
      have hx0 : wr.cell? (ad.add x) = some (.int .i64 t) := pw_cell_below HB.out (by have := hcells 0 _ rfl; simpa [show (Kd.int .i64).sz = 1 from rfl] using this)
      have HT : Aside0 (text[x]? = some t) := ⟨by rw [List.getElem?_eq_getElem hlt, ht]⟩
      have HTI : Aside0 (∀ n, n ∈ [t] → inI n) := ⟨fun n hn => by rw [List.mem_singleton.1 hn, ← ht]; exact HI.out _ (List.getElem_mem hlt)⟩
      have HLT := Aside0.mk hlt
      have hz0 : wr.cell? ⟨w.heap.size, 0, none⟩ = some (.slice A0 E.length c0) := (blk_cell HKC.out 0).trans rfl
      have hz1 : wr.cell? ⟨w.heap.size, 1, none⟩ = some (.slice A1 G.length c1) := (blk_cell HKC.out 1).trans rfl
      have hz2 : wr.cell? ⟨w.heap.size, 2, none⟩ = some (.int .i64 b2) := (blk_cell HKC.out 2).trans rfl
      have hz3 : wr.cell? ⟨w.heap.size, 3, none⟩ = some (.int .i64 b3) := (blk_cell HKC.out 3).trans rfl
      have hz4 : wr.cell? ⟨w.heap.size, 4, none⟩ = some (.int .i64 b4) := (blk_cell HKC.out 4).trans rfl
      clear hcl hcells ht hlt
      go_wp2_with (go_at_call 11; fail)
      clear hz0 hz1 hz2 hz3 hz4 hx0
      have hbt := below_alloc (Below.refl wr.heap.size wr) (.cells #[.int .i64 t] 3)
      have HBT := Aside0.mk (below_step HB.out hbt)
      have HKCT := Aside0.mk (blk_below HKC.out hbt)
      obtain ⟨n, f, hn, hmv, hgrp⟩ := HMX.out
      have HN := Aside0.mk hn
      have HMT := Aside0.mk (hmv.below hbt)
      have HGRP := Aside0.mk hgrp
      refine (cFind_calls k _ c0 E A1 c1 G b2 b3 b4 (some ⟨wr.heap.size, 0, none⟩) 1 [t] _ (Kd.C_below HR0.out HBT.out) HC0.out (Kd.C_below HR1.out HBT.out) HC1.out HK.out (HP.out.below HBT.out) HE.out (fun e he => Nat.le_trans (HE1.out e he) (by decide)) HND.out (C_one t wr) HTI.out (by simp)).mono ?_
      rintro e w3 ⟨v3, b3', rfl, hr3, hb3⟩
      have HB3 := Aside0.mk (below_step HBT.out hb3)
      have HKC3 := Aside0.mk (blk_below HKCT.out hb3)
      have HM3 := Aside0.mk (HMT.out.below hb3)
      have hgl : gm < (wr.alloc (.cells #[.int .i64 t] 3)).heap.size := HMT.out.lt
      have HR3 := Aside0.mk (Kd.R_mono (ok' := fun k => gm < k) (Kd.R_bound hr3) (fun k hk => Nat.lt_of_lt_of_le hgl hk.2.1))
      generalize (wr.alloc (.cells #[.int .i64 t] 3)).heap.size = base at HR3
      clear hbt hn hmv hgrp hr3 hb3 hgl HMX HKC HB HBT HKCT HMT
      obtain ⟨A3, c3, rfl, hle3, hC3⟩ := Kd.R_reads HR3.out
      obtain ⟨L, hL⟩ : ∃ L, foundE E [t] = L := ⟨_, rfl⟩
      have HLL : Aside0 (L.length ≤ 1000) := ⟨by rw [← hL]; exact HFL.out _⟩
      rw [hL] at HR3 hle3 hC3 ⊢
      have HFE := Aside0.mk hL
      clear hL hC3 hle3
      go_wp2_with fail
      go_loopg [36] L.length (fun gg v w' => ∃ y : Nat, v = .int .i64 y ∧ Aside0 (gg = L.length - y ∧ y ≤ L.length) ∧ Aside0 (∃ n f, n ≤ x * 1000000 + y * 1000 ∧ MapV Tryz.prog 43 w' gm n f ∧ GrpMap G f (fun g => HitG E (text.take x) g ∨ ∃ e, e ∈ L.take y ∧ inGrp e.f0 g = true)) ∧ Aside0 (Kd.R k41 41 w' base (fun k => gm < k) (.slice A3 L.length c3) L) ∧ Aside0 (w'.heap[w.heap.size]? = some (.cells #[.slice A0 E.length c0, .slice A1 G.length c1, .int .i64 b2, .int .i64 b3, .int .i64 b4] 25 (0, 0))) ∧ Aside0 (Below w.heap.size w w'))
      case atStart => exact ⟨0, rfl, ⟨by simp, by omega⟩, ⟨n, f, Nat.le_trans HN.out (Nat.le_add_right _ _), HM3.out, HGRP.out.congr (fun g _ => by simp)⟩, HR3, HKC3, HB3⟩
      clear HN HM3 HGRP HR3 HKC3 HB3
      case round =>
        obtain ⟨y, rfl, HY, HMY, HRL, HKC, HB⟩ := hrel
        by_cases hlt : y < L.length
        · have hltz : (y : Int) < (L.length : Int) := by omega
          have q0 : 0 ≤ (y : Int) := by omega
          have HWY := Aside0.mk (wrap_up q0 (show (y : Int) < 9223372036854775807 by have := HLL.out; omega))
          obtain ⟨ad3, cc, e, hcl, hK, hcells⟩ := Kd.row_at (Kd.R_reads' HRL.out).2.2 hlt
          cases e
          obtain ⟨ey, hey⟩ : ∃ ey, L[y] = ey := ⟨_, rfl⟩
          rw [hey] at hK
          obtain rfl := k41_open hK
          have hx0 : wr.cell? (ad3.add (y * 4)) = some (.int .i64 ey.f0) := hcells 0 _ rfl
          have hx1 : wr.cell? ⟨(ad3.add (y * 4)).block, (ad3.add (y * 4)).off + 1, none⟩ = some (.int .i64 ey.f1) := by rw [← add_field _ _ _ (by decide)]; exact hcells 1 _ rfl
          have hx2 : wr.cell? ⟨(ad3.add (y * 4)).block, (ad3.add (y * 4)).off + 2, none⟩ = some (.int .i64 ey.f2) := by rw [← add_field _ _ _ (by decide)]; exact hcells 2 _ rfl
          have hx3 : wr.cell? ⟨(ad3.add (y * 4)).block, (ad3.add (y * 4)).off + 3, none⟩ = some (.bool ey.f3) := by rw [← add_field _ _ _ (by decide)]; exact hcells 3 _ rfl
          have HEY : Aside0 (L[y]? = some ey) := ⟨by rw [List.getElem?_eq_getElem hlt, hey]⟩
          have HLY := Aside0.mk hlt
          have hz1 : ∀ o, (wr.alloc o).cell? ⟨w.heap.size, 1, none⟩ = some (.slice A1 G.length c1) := fun o => (blk_cell (blk_alloc HKC.out o) 1).trans rfl
          clear hcl hcells hK hey hlt
          go_wp2_with fail
          have hb4 := below_alloc (Below.refl wr.heap.size wr) (.cells #[.int .i64 ey.f0, .int .i64 ey.f1, .int .i64 ey.f2, .bool ey.f3] 41)
          have HB4 := Aside0.mk (below_step HB.out hb4)
          have HKC4 := Aside0.mk (blk_below HKC.out hb4)
          have HRL4 := Aside0.mk (Kd.R_below HRL.out hb4)
          have HKE4 := Aside0.mk (blk_new wr (.cells #[.int .i64 ey.f0, .int .i64 ey.f1, .int .i64 ey.f2, .bool ey.f3] 41))
          obtain ⟨n, f, hn, hmv, hgrp⟩ := HMY.out
          have HN := Aside0.mk hn
          have HM4 := Aside0.mk (hmv.below hb4)
          have HGRP := Aside0.mk hgrp
          generalize wr.heap.size = ge at HKE4 ⊢
          generalize wr.alloc (.cells #[.int .i64 ey.f0, .int .i64 ey.f1, .int .i64 ey.f2, .bool ey.f3] 41) = w4 at HB4 HKC4 HRL4 HKE4 HM4 ⊢
          clear hb4 hn hmv hgrp HMY HKC HRL HB hz1 hx0 hx1 hx2 hx3
          go_loopg [43] G.length (fun gg v w' => ∃ z : Nat, v = .int .i64 z ∧ Aside0 (gg = G.length - z ∧ z ≤ G.length) ∧ Aside0 (∃ n f, n ≤ x * 1000000 + y * 1000 + z ∧ MapV Tryz.prog 43 w' gm n f ∧ GrpMap G f (fun g => (HitG E (text.take x) g ∨ ∃ e, e ∈ L.take y ∧ inGrp e.f0 g = true) ∨ (g ∈ G.take z ∧ inGrp ey.f0 g = true))) ∧ Aside0 (Kd.R k41 41 w' base (fun k => gm < k) (.slice (some ad3) L.length c3) L) ∧ Aside0 (w'.heap[ge]? = some (.cells #[.int .i64 ey.f0, .int .i64 ey.f1, .int .i64 ey.f2, .bool ey.f3] 41 (0, 0))) ∧ Aside0 (w'.heap[w.heap.size]? = some (.cells #[.slice A0 E.length c0, .slice A1 G.length c1, .int .i64 b2, .int .i64 b3, .int .i64 b4] 25 (0, 0))) ∧ Aside0 (Below w.heap.size w w'))
          case atStart => exact ⟨0, rfl, ⟨by simp, by omega⟩, ⟨n, f, Nat.le_trans HN.out (Nat.le_add_right _ _), HM4.out, HGRP.out.congr (fun g _ => by simp)⟩, HRL4, HKE4, HKC4, HB4⟩
          clear HN HM4 HGRP HRL4 HKE4 HKC4 HB4
          case round =>
            obtain ⟨z, rfl, HZ, HMZ, HRL, HKE, HKC, HB⟩ := hrel
            by_cases hlt : z < G.length
            · have hltz : (z : Int) < (G.length : Int) := by omega
              have r0 : 0 ≤ (z : Int) := by omega
              have HWZ := Aside0.mk (wrap_up r0 (show (z : Int) < 9223372036854775807 by have := HGL.out; omega))
              obtain ⟨ad1, cc, e, hcl, hK, hcells⟩ := Kd.row_at HR1.out hlt
              cases e
              obtain ⟨gz, hgz⟩ : ∃ gz, G[z] = gz := ⟨_, rfl⟩
              rw [hgz] at hK
              obtain rfl := k43_open hK
              have hx0 : wr.cell? (ad1.add (z * 3)) = some (.string gz.f0) := pw_cell_below HB.out (hcells 0 _ rfl)
              have hx1 : wr.cell? ⟨(ad1.add (z * 3)).block, (ad1.add (z * 3)).off + 1, none⟩ = some (.int .i64 gz.f1) := pw_cell_below HB.out (by rw [← add_field _ _ _ (by decide)]; exact hcells 1 _ rfl)
              have hx2 : wr.cell? ⟨(ad1.add (z * 3)).block, (ad1.add (z * 3)).off + 2, none⟩ = some (.int .i64 gz.f2) := pw_cell_below HB.out (by rw [← add_field _ _ _ (by decide)]; exact hcells 2 _ rfl)
              have HGZ : Aside0 (G[z]? = some gz) := ⟨by rw [List.getElem?_eq_getElem hlt, hgz]⟩
              have HLZ := Aside0.mk hlt
              have hze : ∀ o, (wr.alloc o).cell? ⟨ge, 0, none⟩ = some (.int .i64 ey.f0) := fun o => (blk_cell (blk_alloc HKE.out o) 0).trans rfl
              have hb5 := below_alloc (Below.refl wr.heap.size wr) (.cells #[.string gz.f0, .int .i64 gz.f1, .int .i64 gz.f2] 43)
              have HB5 := Aside0.mk (below_step HB.out hb5)
              have HKC5 := Aside0.mk (blk_below HKC.out hb5)
              have HRL5 := Aside0.mk (Kd.R_below HRL.out hb5)
              have HKE5 := Aside0.mk (blk_below HKE.out hb5)
              obtain ⟨n, f, hn, hmv, hgrp⟩ := HMZ.out
              have HN := Aside0.mk hn
              have HM5 := Aside0.mk (hmv.below hb5)
              have HGRP := Aside0.mk hgrp
              have HMEM : Aside0 (gz ∈ G) := ⟨List.mem_of_getElem? HGZ.out⟩
              have HTK : Aside0 (G.take (z + 1) = G.take z ++ [gz]) := ⟨by rw [List.take_add_one, HGZ.out]; rfl⟩
              clear hcl hcells hK hgz hlt hn hmv hgrp hb5
              by_cases hin : gz.f1 ≤ ey.f0
              · by_cases hin2 : ey.f0 ≤ gz.f2
                · have HKEY := Aside0.mk (grpKey_key (HOK.out gz HMEM.out))
                  have hxm : n < maxLen := by have h1 := HN.out; have h2 := HLT.out; have h3 := HL.out; have h4 := HLY.out; have h5 := HLL.out; have h6 := HLZ.out; have h7 := HGL.out; unfold maxLen; omega
                  have HINT := Aside0.mk (show inGrp ey.f0 gz = true by unfold inGrp; rw [decide_eq_true hin, decide_eq_true hin2]; rfl)
                  have hinb : decide (gz.f1 ≤ ey.f0) = true := decide_eq_true hin
                  have hinb2 : decide (ey.f0 ≤ gz.f2) = true := decide_eq_true hin2
                  go_wp2_with (at_mapUpdate; refine wpl_put rfl _ _ _ 36 rfl 4 grpK Tryz.underlying36 rfl HM5.out hxm _ _ (grpKey gz) rfl rfl HKEY.out ?_; intro w6 hm6 hg6)
                  have HM6 : Aside0 (MapV Tryz.prog 43 w6 gm (n + 1) (upd f (grpKey gz) (.bool true))) := ⟨hm6⟩
                  have HRL6 := Aside0.mk (Kd.R_grown HRL5.out hg6 (fun k hk e => Nat.lt_irrefl gm (by injection e with e; exact e ▸ hk)))
                  have HKE6 := Aside0.mk (blk_grown HKE5.out hg6 (fun e => HM5.out.ne_cells HKE5.out (by injection e with e; exact e.symm)))
                  have HKC6 := Aside0.mk (blk_grown HKC5.out hg6 (fun e => HM5.out.ne_cells HKC5.out (by injection e with e; exact e.symm)))
                  have HB6 := Aside0.mk (pw_below_grown HB5.out (some gm) HB5.out.size hg6 (fun k hk => by injection hk with hk; exact hk ▸ HGM.out))
                  have HGQ := Aside0.mk ((GrpMap.put HGRP.out HOK.out HMEM.out).congr (fun g _ => grp_step (fun g => HitG E (text.take x) g ∨ ∃ e, e ∈ L.take y ∧ inGrp e.f0 g = true) HTK.out HINT.out g))
                  clear hm6 hg6 hxm
                  go_roundg (G.length - (z + 1))
                  case measure => have := HZ.out; have := HLZ.out; omega
                  case rel => exact ⟨z + 1, (by first | (rw [HWZ.out]; rfl) | rfl), ⟨rfl, Nat.succ_le_of_lt HLZ.out⟩, ⟨n + 1, _, Nat.succ_le_succ HN.out, HM6.out, HGQ.out⟩, HRL6, HKE6, HKC6, HB6⟩
                · have HINF := Aside0.mk (show inGrp ey.f0 gz = false by unfold inGrp; rw [decide_eq_false hin2, Bool.and_false])
                  have hinb : decide (gz.f1 ≤ ey.f0) = true := decide_eq_true hin
                  have hinb2 : decide (ey.f0 ≤ gz.f2) = false := decide_eq_false hin2
                  have HGQ := Aside0.mk (HGRP.out.congr (fun g _ => grp_skip (fun g => HitG E (text.take x) g ∨ ∃ e, e ∈ L.take y ∧ inGrp e.f0 g = true) HTK.out HINF.out g))
                  go_wp2_with fail
                  go_roundg (G.length - (z + 1))
                  case measure => have := HZ.out; have := HLZ.out; omega
                  case rel => exact ⟨z + 1, (by first | (rw [HWZ.out]; rfl) | rfl), ⟨rfl, Nat.succ_le_of_lt HLZ.out⟩, ⟨n, f, Nat.le_trans HN.out (Nat.le_succ _), HM5.out, HGQ.out⟩, HRL5, HKE5, HKC5, HB5⟩
              · have HINF := Aside0.mk (show inGrp ey.f0 gz = false by unfold inGrp; rw [decide_eq_false hin, Bool.false_and])
                have hinb : decide (gz.f1 ≤ ey.f0) = false := decide_eq_false hin
                have HGQ := Aside0.mk (HGRP.out.congr (fun g _ => grp_skip (fun g => HitG E (text.take x) g ∨ ∃ e, e ∈ L.take y ∧ inGrp e.f0 g = true) HTK.out HINF.out g))
                go_wp2_with fail
                go_roundg (G.length - (z + 1))
                case measure => have := HZ.out; have := HLZ.out; omega
                case rel => exact ⟨z + 1, (by first | (rw [HWZ.out]; rfl) | rfl), ⟨rfl, Nat.succ_le_of_lt HLZ.out⟩, ⟨n, f, Nat.le_trans HN.out (Nat.le_succ _), HM5.out, HGQ.out⟩, HRL5, HKE5, HKC5, HB5⟩
            · have hze : z = G.length := by have := HZ.out; omega
              obtain ⟨n, f, hn, hmv, hgrp⟩ := HMZ.out
              rw [hze] at hn hgrp
              have HN : Aside0 (n ≤ x * 1000000 + (y + 1) * 1000) := ⟨nle1 hn HGL.out⟩
              have HMV := Aside0.mk hmv
              have HGRP := Aside0.mk (hgrp.congr (fun g hg => grp_end (HitG E (text.take x)) HEY.out g hg))
              clear hze hn hmv hgrp HMZ
              go_wp2_with fail
              go_roundg (L.length - (y + 1))
              case measure => have := HY.out; have := HLY.out; omega
              case rel => exact ⟨y + 1, (by first | (rw [HWY.out]; rfl) | rfl), ⟨rfl, Nat.succ_le_of_lt HLY.out⟩, ⟨n, f, HN.out, HMV.out, HGRP.out⟩, HRL, HKC, HB⟩
        · have hye : y = L.length := by have := HY.out; omega
          obtain ⟨n, f, hn, hmv, hgrp⟩ := HMY.out
          rw [hye] at hn hgrp
          have HN : Aside0 (n ≤ (x + 1) * 1000000) := ⟨nle2 hn HLL.out⟩
          have HMV := Aside0.mk hmv
          have HGRP := Aside0.mk (hgrp.congr (fun g _ => txt_end HT.out HFE.out g))
          clear hye hn hmv hgrp HMY
          go_wp2_with fail
          go_roundg (text.length - (x + 1))
          case measure => have := HX.out; have := HLT.out; omega
          case rel => exact ⟨x + 1, (by first | (rw [HWX.out]; rfl) | rfl), ⟨rfl, Nat.succ_le_of_lt HLT.out⟩, ⟨n, f, HN.out, HMV.out, HGRP.out⟩, HKC, HB⟩
    · have hxe : x = text.length := by have := HX.out; omega
      obtain ⟨n, f, hn, hmv, hgrp⟩ := HMX.out
      rw [hxe, List.take_length] at hgrp
      have HMV := Aside0.mk hmv
      have HGRP := Aside0.mk hgrp
      have hz1 : wr.cell? ⟨w.heap.size, 1, none⟩ = some (.slice A1 G.length c1) := (blk_cell HKC.out 1).trans rfl
      clear hxe hn hmv hgrp HMX
      go_wp2_with fail
      go_loopg [67, 14] G.length (fun gg v v14 w' => ∃ z : Nat, v = .int .i64 z ∧ Aside0 (gg = G.length - z ∧ z ≤ G.length) ∧ Aside0 (MapV Tryz.prog 43 w' gm n f) ∧ Aside0 (Kd.R Kd.string 9 w' w.heap.size (fun k => gm ≠ k) v14 (((G.take z).filter fun g => text.any fun t => (foundE E [t]).any fun e => inGrp e.f0 g).map fun g => g.f0)) ∧ Aside0 (Below w.heap.size w w'))
      case atStart => exact ⟨0, rfl, ⟨by simp, by omega⟩, HMV, ⟨by rw [List.take_zero]; exact Kd.R_nil _ _ _ _ _⟩, HB⟩
      clear HMV HKC HB hz1
      case round =>
        obtain ⟨z, rfl, HZ, HMZ, HRL, HB⟩ := hrel
        by_cases hlt : z < G.length
        · have hltz : (z : Int) < (G.length : Int) := by omega
          have r0 : 0 ≤ (z : Int) := by omega
          have HWZ := Aside0.mk (wrap_up r0 (show (z : Int) < 9223372036854775807 by have := HGL.out; omega))
          obtain ⟨ad1, cc, e, hcl, hK, hcells⟩ := Kd.row_at HR1.out hlt
          cases e
          obtain ⟨gz, hgz⟩ : ∃ gz, G[z] = gz := ⟨_, rfl⟩
          rw [hgz] at hK
          obtain rfl := k43_open hK
          have hx0 : wr.cell? (ad1.add (z * 3)) = some (.string gz.f0) := pw_cell_below HB.out (hcells 0 _ rfl)
          have hx1 : wr.cell? ⟨(ad1.add (z * 3)).block, (ad1.add (z * 3)).off + 1, none⟩ = some (.int .i64 gz.f1) := pw_cell_below HB.out (by rw [← add_field _ _ _ (by decide)]; exact hcells 1 _ rfl)
          have hx2 : wr.cell? ⟨(ad1.add (z * 3)).block, (ad1.add (z * 3)).off + 2, none⟩ = some (.int .i64 gz.f2) := pw_cell_below HB.out (by rw [← add_field _ _ _ (by decide)]; exact hcells 2 _ rfl)
          have HGZ : Aside0 (G[z]? = some gz) := ⟨by rw [List.getElem?_eq_getElem hlt, hgz]⟩
          have HLZ := Aside0.mk hlt
          have hb5 := below_alloc (Below.refl wr.heap.size wr) (.cells #[.string gz.f0, .int .i64 gz.f1, .int .i64 gz.f2] 43)
          have HB5 := Aside0.mk (below_step HB.out hb5)
          have HRL5 := Aside0.mk (Kd.R_below HRL.out hb5)
          have HM5 := Aside0.mk (HMZ.out.below hb5)
          have HMEM : Aside0 (gz ∈ G) := ⟨List.mem_of_getElem? HGZ.out⟩
          have HTK : Aside0 (G.take (z + 1) = G.take z ++ [gz]) := ⟨by rw [List.take_add_one, HGZ.out]; rfl⟩
          obtain ⟨b, hb1, hb2⟩ := HGRP.out gz HMEM.out
          have HKEY := Aside0.mk (grpKey_key (HOK.out gz HMEM.out))
          have HBV := Aside0.mk hb1
          have HBH := Aside0.mk (hb2.trans HitG_any)
          clear hcl hcells hK hgz hlt hb5 hb1 hb2
          cases b with
          | true =>
            have HNM := Aside0.mk (names_yes (fun g => text.any fun t => (foundE E [t]).any fun e => inGrp e.f0 g) HTK.out (HBH.out.1 rfl))
            go_wp2_with (first
              | (at_lookup; (try (refine gate_guard (by rfl) ?_; dsimp only)); refine wpl_look rfl _ _ 36 rfl 4 grpK Tryz.underlying36 (boolZero _) rfl HM5.out _ (grpKey gz) rfl HKEY.out _ HBV.out ?_)
              | ((with_reducible refine gate_builtin (b := .append) (xs := #[.tmp 74, .tmp 77]) rfl ?_); at_builtin
                 refine Kd.R_append Kd.string (w0 := w) w.heap.size rfl (.tmp 74) (.tmp 77) 29 9 (.string ⟨#[]⟩) 16 rfl Tryz.underlying29 infoStr rfl (by decide) (by decide) u14 (((G.take z).filter fun g => text.any fun t => (foundE E [t]).any fun e => inGrp e.f0 g).map fun g => g.f0) gz.f0 [.string gz.f0] (fun k => gm ≠ k) (fun _ => False) rfl ?aX rfl (fun _ hk => hk.elim) ?aF HRL5.out HB5.out HB5.out.size ?aL ?_
                 (case aX => exact Eq.trans (b := .slice (some ⟨wr.heap.size + 1, 0, none⟩) 1 1) rfl (by simp))
                 (case aF => exact fun k hk => Nat.ne_of_lt (Nat.lt_of_lt_of_le HM5.out.lt hk))
                 (case aL => exact names_small _ HGL.out)
                 intro v6 w6 ho hb hg hat))
            have HM6 := Aside0.mk (HM5.out.kept hg (fun e => HRL5.out.1 gm e.symm rfl))
            have HRL6 := Aside0.mk ho
            have HB6 := Aside0.mk hb
            clear ho hb hg hat
            go_roundg (G.length - (z + 1))
            case measure => have := HZ.out; have := HLZ.out; omega
            case rel => exact ⟨z + 1, (by first | (rw [HWZ.out]; rfl) | rfl), ⟨rfl, Nat.succ_le_of_lt HLZ.out⟩, HM6, ⟨by rw [HNM.out]; exact HRL6.out⟩, HB6⟩
          | false =>
            have HNM := Aside0.mk (names_no (fun g => text.any fun t => (foundE E [t]).any fun e => inGrp e.f0 g) HTK.out (by have := HBH.out.2; revert this; cases (text.any fun t => (foundE E [t]).any fun e => inGrp e.f0 gz) <;> simp))
            go_wp2_with (at_lookup; (try (refine gate_guard (by rfl) ?_; dsimp only)); refine wpl_look rfl _ _ 36 rfl 4 grpK Tryz.underlying36 (boolZero _) rfl HM5.out _ (grpKey gz) rfl HKEY.out _ HBV.out ?_)
            go_roundg (G.length - (z + 1))
            case measure => have := HZ.out; have := HLZ.out; omega
            case rel => exact ⟨z + 1, (by first | (rw [HWZ.out]; rfl) | rfl), ⟨rfl, Nat.succ_le_of_lt HLZ.out⟩, HM5, ⟨by rw [HNM.out]; exact HRL5.out⟩, HB5⟩
        · have hze : z = G.length := by have := HZ.out; omega
          have hrl := HRL.out
          rw [hze, List.take_length] at hrl
          have HRN := Aside0.mk hrl
          clear hze hrl HRL
          go_wp2_with fail
          go_ret
          exact ⟨_, rfl, Kd.R_mono (Kd.R_bound HRN.out) (fun _ _ => trivial), HB.out⟩
end Go.Proofs.YtfcpebjjcijgcaaGreatDoor.G
-- unicodetext/unicodetextref09.Strings: printed by gprint.py
namespace Go.Proofs.YtfcpebjjcijgcaaGreatDoor.G
open Go.RowKit Go.Proofs.YtfcpebjjcijgcaaGreatDoorW.PrintWords Go.Proofs.YtfcpebjjcijgcaaGreatDoorW.PrintLast Go.Proofs.YtfcpebjjcijgcaaGreatDoorW.PrintMore
attribute [local go_sem] max2_int min2_int max_two min_two max_three min_three max_four min_four   -- for this text's walks alone
set_option linter.unusedVariables false
set_option linter.unusedSimpArgs false
/-! ### unicodetextref09_Strings: function 5 -/
def unicodetextref09_Strings.l0 : Nat → List ByteArray → List ByteArray → Int → Option (Bool)
  | 0, _, _, _ => none
  | k + 1, x0, x1, x5 => if x5 < (x0.length : Int) then (if 0 ≤ x5 then (if x5 < (x1.length : Int) then (if (rdOf ByteArray.empty x0 x5).toList = (rdOf ByteArray.empty x1 x5).toList then (unicodetextref09_Strings.l0 k x0 x1 (wrap64 (x5 + 1))) else (some false)) else (none)) else (none)) else (some true)
def unicodetextref09_Strings.f (k : Nat) (l0 : List ByteArray) (l1 : List ByteArray) : Option (Bool) := if (l0.length : Int) = (l1.length : Int) then (unicodetextref09_Strings.l0 k l0 l1 0) else (some false)
set_option maxHeartbeats 8000000 in
set_option maxRecDepth 100000 in
theorem unicodetextref09_Strings.calls (k : Nat) (A0 : Option Addr) (c0 : Nat) (l0 : List ByteArray) (A1 : Option Addr) (c1 : Nat) (l1 : List ByteArray) (r : Bool) (w : World) (hr0 : Kd.C Kd.string w A0 l0.length l0) (hc0 : l0.length ≤ c0) (hr1 : Kd.C Kd.string w A1 l1.length l1) (hc1 : l1.length ≤ c1) (h : unicodetextref09_Strings.f k l0 l1 = some r) :
    Calls Tryz.prog 5 #[.slice A0 l0.length c0, .slice A1 l1.length c1] w fun e w' => e = .returned (.bool r) ∧ Drawn0 w w' := by
  have HR0 := Aside0.mk hr0
  have HC0 := Aside0.mk hc0
  clear hr0 hc0
  have HR1 := Aside0.mk hr1
  have HC1 := Aside0.mk hc1
  clear hr1 hc1
  have H : (if (l0.length : Int) = (l1.length : Int) then (unicodetextref09_Strings.l0 k l0 l1 0) else (some false)) = some r := h
  clear h
  by_cases c3 : (l0.length : Int) = (l1.length : Int)
  · rw [if_pos c3] at H
    have c3b0 : ((l0.length : Int) == (l1.length : Int)) = true := beq_iff_eq.mpr c3
    have c3b1 : ((l0.length : Int) != (l1.length : Int)) = false := bne_eq_false_iff_eq.mpr c3
    have c3b2 : (l0.length == l1.length) = true := by first | simpa using c3 | (simp at c3 ⊢; omega)
    clear c3
    have H' := Aside0.mk H
    clear H
    go_enter Tryz.func5, Tryz.ntmps5
    go_wp2
    repeat (go_quiet (fail); try go_wp2)
    go_loopg [5] k (fun kq v5 w' => ∃ (x5_1 : Int), v5 = .int .i64 x5_1 ∧ Aside0 (unicodetextref09_Strings.l0 kq l0 l1 x5_1 = some r) ∧ Aside0 (kq ≤ k) ∧ Drawn0 w w')
    case atStart => exact ⟨(0), (by first | rfl | (simp; done) | (simp [*]; done)), H', ⟨Nat.le_refl _⟩, by repeat (first | exact Drawn0.refl _ | apply Drawn0.step)⟩
    case round =>
      clear H'
      try clear c1
      try clear p2
      try clear c3
      try clear c3b0
      try clear c3b1
      try clear c3b2
      obtain ⟨x5_1, rfl, HA, HK1, ⟨m1, rfl⟩⟩ := hrel
      cases gk with
      | zero => exact absurd HA.out (by simp [unicodetextref09_Strings.l0])
      | succ k1 =>
        have H := HA.out
        clear HA
        simp only [unicodetextref09_Strings.l0] at H
        by_cases c4 : x5_1 < (l0.length : Int)
        · rw [if_pos c4] at H
          have c4b0 : decide (x5_1 < (l0.length : Int)) = true := decide_eq_true c4
          clear c4
          by_cases c5 : 0 ≤ x5_1
          · rw [if_pos c5] at H
            have c5b0 : decide (0 ≤ x5_1) = true := decide_eq_true c5
            clear c5
            by_cases c6 : x5_1 < (l1.length : Int)
            · rw [if_pos c6] at H
              have c6b0 : decide (x5_1 < (l1.length : Int)) = true := decide_eq_true c6
              clear c6
              by_cases c7 : (rdOf ByteArray.empty l0 x5_1).toList = (rdOf ByteArray.empty l1 x5_1).toList
              · rw [if_pos c7] at H
                have c7b0 : ((rdOf ByteArray.empty l0 x5_1).toList == (rdOf ByteArray.empty l1 x5_1).toList) = true := beq_iff_eq.mpr c7
                have c7b1 : ((rdOf ByteArray.empty l0 x5_1).toList != (rdOf ByteArray.empty l1 x5_1).toList) = false := bne_eq_false_iff_eq.mpr c7
                clear c7
                have H' := Aside0.mk H
                clear H
                have p101 : 0 ≤ (x5_1 : Int) := of_decide_eq_true (by first | (with_reducible assumption) | assumption)
                have q101 : x5_1 < (l0.length : Int) := of_decide_eq_true (by first | (with_reducible assumption) | assumption)
                obtain ⟨ad101, e101, hx101_0⟩ := Kd.at_string HR0.out x5_1 p101 q101
                cases e101
                replace p101 := eq_true p101
                replace q101 := eq_true q101
                have p102 : 0 ≤ (x5_1 : Int) := of_decide_eq_true (by first | (with_reducible assumption) | assumption)
                have q102 : x5_1 < (l1.length : Int) := of_decide_eq_true (by first | (with_reducible assumption) | assumption)
                obtain ⟨ad102, e102, hx102_0⟩ := Kd.at_string HR1.out x5_1 p102 q102
                cases e102
                replace p102 := eq_true p102
                replace q102 := eq_true q102
                go_wp2
                repeat (go_quiet (fail); try go_wp2)
                go_roundg k1
                case measure => have := HK1.out; omega
                case rel => exact ⟨(wrap64 (x5_1 + 1)), (by first | rfl | (simp; done) | (simp [*]; done)), H', ⟨by have := HK1.out; omega⟩, by repeat (first | exact Drawn0.refl _ | apply Drawn0.step)⟩
              · rw [if_neg c7] at H
                have c7b0 : ((rdOf ByteArray.empty l0 x5_1).toList == (rdOf ByteArray.empty l1 x5_1).toList) = false := beq_eq_false_iff_ne.mpr c7
                have c7b1 : ((rdOf ByteArray.empty l0 x5_1).toList != (rdOf ByteArray.empty l1 x5_1).toList) = true := bne_iff_ne.mpr c7
                obtain rfl := Option.some.inj H
                have p101 : 0 ≤ (x5_1 : Int) := of_decide_eq_true (by first | (with_reducible assumption) | assumption)
                have q101 : x5_1 < (l0.length : Int) := of_decide_eq_true (by first | (with_reducible assumption) | assumption)
                obtain ⟨ad101, e101, hx101_0⟩ := Kd.at_string HR0.out x5_1 p101 q101
                cases e101
                replace p101 := eq_true p101
                replace q101 := eq_true q101
                have p102 : 0 ≤ (x5_1 : Int) := of_decide_eq_true (by first | (with_reducible assumption) | assumption)
                have q102 : x5_1 < (l1.length : Int) := of_decide_eq_true (by first | (with_reducible assumption) | assumption)
                obtain ⟨ad102, e102, hx102_0⟩ := Kd.at_string HR1.out x5_1 p102 q102
                cases e102
                replace p102 := eq_true p102
                replace q102 := eq_true q102
                go_wp2
                repeat (go_quiet (fail); try go_wp2)
                go_ret
                exact ⟨by first | rfl | (simp; done) | (simp [*]; done), by repeat (first | exact Drawn0.refl _ | apply Drawn0.step)⟩
            · rw [if_neg c6] at H
              exact absurd H (by simp)
          · rw [if_neg c5] at H
            exact absurd H (by simp)
        · rw [if_neg c4] at H
          have c4b0 : decide (x5_1 < (l0.length : Int)) = false := decide_eq_false c4
          clear c4
          obtain rfl := Option.some.inj H
          go_wp2
          repeat (go_quiet (fail); try go_wp2)
          go_ret
          exact ⟨by first | rfl | (simp; done) | (simp [*]; done), by repeat (first | exact Drawn0.refl _ | apply Drawn0.step)⟩
  · rw [if_neg c3] at H
    have c3b0 : ((l0.length : Int) == (l1.length : Int)) = false := beq_eq_false_iff_ne.mpr c3
    have c3b1 : ((l0.length : Int) != (l1.length : Int)) = true := bne_iff_ne.mpr c3
    have c3b2 : (l0.length == l1.length) = false := by first | simpa using c3 | (simp at c3 ⊢; omega)
    obtain rfl := Option.some.inj H
    go_enter Tryz.func5, Tryz.ntmps5
    go_wp2
    repeat (go_quiet (fail); try go_wp2)
    go_ret
    exact ⟨by first | rfl | (simp; done) | (simp [*]; done), by repeat (first | exact Drawn0.refl _ | apply Drawn0.step)⟩
end Go.Proofs.YtfcpebjjcijgcaaGreatDoor.G
-- slices.Clone[[]unicodetext/api.Group,unicodetext/api.Group]: by hand
namespace Go.Proofs.YtfcpebjjcijgcaaGreatDoor.G
open Go.RowKit Go.Proofs.YtfcpebjjcijgcaaGreatDoorW.PrintWords Go.Proofs.YtfcpebjjcijgcaaGreatDoorW.PrintLast Go.Proofs.YtfcpebjjcijgcaaGreatDoorW.PrintMore
attribute [local go_sem] max2_int min2_int max_two min_two max_three min_three max_four min_four   -- for this text's walks alone
set_option linter.unusedVariables false
set_option linter.unusedSimpArgs false
-- BY HAND: function 27 (api_Group_27)
def api_Group_27.f (l0 : List (S43)) : Option ((List (S43))) := if l0.length < 4398046511104 then some l0 else none
set_option maxHeartbeats 400000 in
theorem api_Group_27.calls (A0 : Option Addr) (c0 : Nat) (l0 : List (S43)) (r : List (S43)) (w : World) (hr0 : Kd.C k43 w A0 l0.length l0) (hc0 : l0.length ≤ c0) (h : api_Group_27.f l0 = some r) :
    Calls Tryz.prog 27 #[.slice A0 l0.length c0] w fun e w' => ∃ v0_ : Value, e = .returned (v0_) ∧ Kd.R k43 43 w' w.heap.size (fun _ => True) v0_ r ∧ Below w.heap.size w w' := by
  unfold api_Group_27.f at h
  split at h
  case isFalse => cases h
  rename_i hl
  obtain rfl := Option.some.inj h
  clear h
  have HR0 := Aside0.mk hr0
  have HL := Aside0.mk hl
  clear hr0 hl
  have q := fun (w : World) (a : Option Addr) (n c : Nat) => Lib.run_eql_slice_nil (P := Tryz.prog) w 23 43 a n c 0 0 Tryz.underlying23
  rcases A0 with _ | ad
  · have h0 : l0 = [] := by
      rcases Nat.eq_zero_or_pos l0.length with h0 | h0
      · exact List.eq_nil_of_length_eq_zero h0
      · obtain ⟨ad, h, _⟩ := HR0.out.2.2 h0
        cases h
    subst h0
    go_enter Tryz.func27, Tryz.ntmps27
    go_wp2
    go_ret
    exact ⟨_, rfl, Kd.R_nil _ _ _ _ _, Below.refl _ _⟩
  · go_enter Tryz.func27, Tryz.ntmps27
    go_wp2_with (first | ((with_reducible refine gate_dst (N := 5) rfl ?_); refine Kd.R_lit k43 _ 43 ?hg (N := 5) ?hd (xs := []) (inner := []) (ok := fun _ => True) (okp := fun _ => True) ?hr ?hp (fun _ hk => hk) trivial (Below.refl _ _) (Nat.le_refl _) (by simp) ?_; (case hd => rfl); (case hg => rfl); (case hr => first | (go_simp; done) | (go_simp; rfl)); (case hp => exact (Reps.none _ _)); intro v1 w1 ho1 hb1 hg_ hnew_; clear hg_ hnew_; have HO1 := Aside0.mk ho1; have HB1 := Aside0.mk hb1; clear ho1 hb1) | (at_builtin; refine Kd.R_append_rows k43 (w0 := w) (Rr := Kd.K k43 w1) w.heap.size rfl (.tmp 5) (.tmp 6) 23 43 (.agg #[(.string ⟨#[]⟩), (.int .i64 0), (.int .i64 0)]) 32 rfl Tryz.underlying23 info43 rfl (by decide) (by decide) v1 [] l0 (some ad) l0.length c0 (fun _ => True) (fun k => some k ≠ v1.ownBlock) rfl rfl (Kd.R_lower HO1.out (Nat.le_refl _)) (Kd.C_below HR0.out HB1.out) ?hKM (fun k hk => ⟨trivial, hk⟩) (fun _ _ => trivial) HB1.out HB1.out.size ?hl ?_; rotate_left 2; intro v2 w2 ho2 hb2 _ _; have HO2 := Aside0.mk ho2; have HB2 := Aside0.mk hb2; clear ho2 hb2))
    case hKM => intro x cs hx; rw [k43_open hx]; exact k43_mkM _ _ _ _
    case hl => simp; have := HL.out; omega
    go_ret
    exact ⟨_, rfl, by simpa using HO2.out, HB2.out⟩
end Go.Proofs.YtfcpebjjcijgcaaGreatDoor.G
-- slices.stableCmpFunc[unicodetext/api.Group]: by hand
namespace Go.Proofs.YtfcpebjjcijgcaaGreatDoor.G
open Go.RowKit Go.Proofs.YtfcpebjjcijgcaaGreatDoorW.PrintWords Go.Proofs.YtfcpebjjcijgcaaGreatDoorW.PrintLast Go.Proofs.YtfcpebjjcijgcaaGreatDoorW.PrintMore
attribute [local go_sem] max2_int min2_int max_two min_two max_three min_three max_four min_four   -- for this text's walks alone
set_option linter.unusedVariables false
set_option linter.unusedSimpArgs false
set_option maxHeartbeats 1000000 in
/-- Fewer than 20 elements: one run of the insertion sort. -/
theorem api_Group_47.small (v fv : Value) (n : Nat) (hn : n < 20) (w : World) (Q : World → Prop) (hc : Calls Tryz.prog 64 #[v, .int .i64 0, .int .i64 n, fv] w fun e w' => e = .returned (.tuple #[]) ∧ Q w') :
    Calls Tryz.prog 47 #[v, .int .i64 n, fv] w fun e w' => e = .returned (.tuple #[]) ∧ Q w' := by
  have HC := Aside0.mk hc
  clear hc
  have h1 : ¬ (20 : Int) ≤ (n : Int) := by omega
  have h2 : decide ((20 : Int) ≤ (n : Int)) = false := decide_eq_false h1
  have h3 : ¬ (20 : Int) < (n : Int) := by omega
  have h4 : decide ((20 : Int) < (n : Int)) = false := decide_eq_false h3
  go_enter Tryz.func47, Tryz.ntmps47
  go_wp2
  refine wp_loop_rounds 1 ?_
  rw [rounds_succ]
  go_wp2_with fail
  refine HC.out.mono ?_
  rintro e w' ⟨rfl, hq⟩
  have HQ := Aside0.mk hq
  clear hq
  go_wp2
  refine wp_loop_rounds 1 ?_
  rw [rounds_succ]
  go_wp2
  go_end0
  exact ⟨rfl, HQ.out⟩
end Go.Proofs.YtfcpebjjcijgcaaGreatDoor.G
-- slices.SortStableFunc[[]unicodetext/api.Group,unicodetext/api.Group]: by hand
namespace Go.Proofs.YtfcpebjjcijgcaaGreatDoor.G
open Go.RowKit Go.Proofs.YtfcpebjjcijgcaaGreatDoorW.PrintWords Go.Proofs.YtfcpebjjcijgcaaGreatDoorW.PrintLast Go.Proofs.YtfcpebjjcijgcaaGreatDoorW.PrintMore
attribute [local go_sem] max2_int min2_int max_two min_two max_three min_three max_four min_four   -- for this text's walks alone
set_option linter.unusedVariables false
set_option linter.unusedSimpArgs false
set_option maxHeartbeats 1000000 in
theorem api_Group_28.small (A0 : Option Addr) (n c : Nat) (fv : Value) (hn : n < 20) (w : World) (Q : World → Prop) (hc : Calls Tryz.prog 64 #[.slice A0 n c, .int .i64 0, .int .i64 n, fv] w fun e w' => e = .returned (.tuple #[]) ∧ Q w') :
    Calls Tryz.prog 28 #[.slice A0 n c, fv] w fun e w' => e = .returned (.tuple #[]) ∧ Q w' := by
  have HC := Aside0.mk (api_Group_47.small (.slice A0 n c) fv n hn w Q hc)
  clear hc
  go_enter Tryz.func28, Tryz.ntmps28
  go_wp2_with fail
  refine HC.out.mono ?_
  rintro e w' ⟨rfl, hq⟩
  have HQ := Aside0.mk hq
  clear hq
  go_wp2
  go_end0
  exact ⟨rfl, HQ.out⟩
end Go.Proofs.YtfcpebjjcijgcaaGreatDoor.G
-- slices.insertionSortCmpFunc[unicodetext/api.Group]: by hand
namespace Go.Proofs.YtfcpebjjcijgcaaGreatDoor.G
open Go.RowKit Go.Proofs.YtfcpebjjcijgcaaGreatDoorW.PrintWords Go.Proofs.YtfcpebjjcijgcaaGreatDoorW.PrintLast Go.Proofs.YtfcpebjjcijgcaaGreatDoorW.PrintMore
attribute [local go_sem] max2_int min2_int max_two min_two max_three min_three max_four min_four   -- for this text's walks alone
set_option linter.unusedVariables false
set_option linter.unusedSimpArgs false
def api_Group_64.ren : Go.Shelf.Ren := ⟨fun | 20 => 64 | n => n, fun | 24 => 43 | 22 => 23 | 3 => 3 | 25 => 70 | 4 => 4 | 0 => 0 | n => n, fun | n => n⟩
theorem api_Group_64.lay : Go.Proofs.SlLaysF0.n20 Tryz.prog api_Group_64.ren := {
  mixed := by kernel_rfl
  f20 := ⟨Tryz.f64.name, by decide, Tryz.func64.trans (congrArg some (by kernel_rfl))⟩
  t0 := Tryz.underlying0
  a0 := Tryz.isAgg0
  z0 := Tryz.sizeOf0
  v0 := Tryz.zeroValue0
  t3 := Tryz.underlying3
  a3 := Tryz.isAgg3
  z3 := Tryz.sizeOf3
  v3 := Tryz.zeroValue3
  t4 := Tryz.underlying4
  a4 := Tryz.isAgg4
  z4 := Tryz.sizeOf4
  v4 := Tryz.zeroValue4
  t22 := Tryz.underlying23
  a22 := Tryz.isAgg23
  z22 := Tryz.sizeOf23
  v22 := Tryz.zeroValue23
  t25 := Tryz.underlying70
  a25 := Tryz.isAgg70
  z25 := Tryz.sizeOf70
  v25 := Tryz.zeroValue70 }
set_option maxHeartbeats 1000000 in
/-- At no element nothing turns. -/
theorem api_Group_64.none (p : Option Addr) (cap : Nat) (fv : Value) (w : World) : Calls Tryz.prog 64 #[.slice p 0 cap, .int .i64 0, .int .i64 0, fv] w fun e w' => e = .returned (.tuple #[]) ∧ w' = w := by
  go_enter Tryz.func64, Tryz.ntmps64
  go_wp2
  refine wp_loop_rounds 1 ?_
  rw [rounds_succ]
  go_wp2
  go_end0
  exact ⟨rfl, rfl⟩
end Go.Proofs.YtfcpebjjcijgcaaGreatDoor.G
-- by hand: lemmas
namespace Go.Proofs.YtfcpebjjcijgcaaGreatDoor.G
open Go.RowKit Go.Proofs.YtfcpebjjcijgcaaGreatDoorW.PrintWords Go.Proofs.YtfcpebjjcijgcaaGreatDoorW.PrintLast Go.Proofs.YtfcpebjjcijgcaaGreatDoorW.PrintMore
attribute [local go_sem] max2_int min2_int max_two min_two max_three min_three max_four min_four   -- for this text's walks alone
set_option linter.unusedVariables false
set_option linter.unusedSimpArgs false
/-- Into a sorted list from its end on (the list is told from its end). -/
def insRev {α : Type} (lt : α → α → Bool) (x : α) : List α → List α
  | [] => [x]
  | y :: l => if lt x y then y :: insRev lt x l else x :: y :: l
def insL {α : Type} (lt : α → α → Bool) (x : α) (acc : List α) : List α := (insRev lt x acc.reverse).reverse
theorem insL_snoc {α : Type} (lt : α → α → Bool) (x y : α) (p : List α) : insL lt x (p ++ [y]) = if lt x y then insL lt x p ++ [y] else p ++ [y] ++ [x] := by
  unfold insL
  rw [List.reverse_append]
  simp only [List.reverse_cons, List.reverse_nil, List.nil_append, List.cons_append, insRev]
  split
  · simp
  · simp
theorem insRev_length {α : Type} (lt : α → α → Bool) (x : α) : ∀ l : List α, (insRev lt x l).length = l.length + 1
  | [] => rfl
  | y :: l => by
    unfold insRev
    split
    · simp [insRev_length lt x l]
    · simp
theorem flatMap_same {α β : Type} {l : List α} {f g : α → List β} (h : ∀ v, v ∈ l → f v = g v) : l.flatMap f = l.flatMap g := by
  induction l with
  | nil => rfl
  | cons a l ih => rw [List.flatMap_cons, List.flatMap_cons, h a List.mem_cons_self, ih (fun v hv => h v (List.mem_cons_of_mem _ hv))]
theorem get_mid {α : Type} [Inhabited α] {d : Array α} {p : List α} {x : α} {r : List α} (h : d.toList = p ++ x :: r) : d[p.length]! = x := by
  have hl : p.length < d.size := by
    rw [← Array.length_toList, h]
    simp
  rw [getElem!_pos d _ hl, ← Array.getElem_toList]
  simp [h]
theorem insInner_list {α : Type} [Inhabited α] (lt : α → α → Bool) : ∀ (j : Nat) (d : Array α) (p : List α) (x : α) (r : List α), p.length = j → d.toList = p ++ x :: r → (Sort.insInner lt 0 j d).toList = insL lt x p ++ r
  | 0, d, p, x, r, hp, hd => by
    obtain rfl := List.eq_nil_of_length_eq_zero hp
    rw [show Sort.insInner lt 0 0 d = d from rfl, hd]
    rfl
  | j + 1, d, p, x, r, hp, hd => by
    obtain ⟨p', y, rfl⟩ : ∃ p' y, p = p' ++ [y] := ⟨p.dropLast, p.getLast (by intro h; simp [h] at hp), by rw [List.dropLast_concat_getLast]⟩
    have hp' : p'.length = j := by simpa using hp
    have hx : d[j + 1]! = x := by
      have := get_mid hd
      rwa [hp] at this
    have hd2 : d.toList = p' ++ y :: (x :: r) := by rw [hd]; simp
    have hy : d[j]! = y := by
      have := get_mid hd2
      rwa [hp'] at this
    unfold Sort.insInner
    rw [hx, hy, insL_snoc]
    by_cases hl : lt x y = true
    · rw [if_pos (by simp [hl]), if_pos hl]
      have hs : (Sort.swp d (j + 1) j).toList = p' ++ x :: (y :: r) := by
        unfold Sort.swp
        rw [hx, hy]
        simp only [Array.toList_setIfInBounds, hd2]
        rw [show j + 1 = (p' ++ [y]).length by simp [hp'], show p' ++ y :: x :: r = (p' ++ [y]) ++ x :: r by simp, List.set_append_right _ _ (Nat.le_refl _)]
        simp only [Nat.sub_self, List.set_cons_zero]
        rw [show (p' ++ [y]) ++ y :: r = p' ++ y :: (y :: r) by simp, ← hp', List.set_append_right _ _ (Nat.le_refl _)]
        simp
      rw [insInner_list lt j _ p' x (y :: r) hp' hs]
      simp
    · rw [if_neg (by simp [hl]), if_neg hl, hd]
      simp
theorem insOuter_list {α : Type} [Inhabited α] (lt : α → α → Bool) : ∀ (u : List α) (i b : Nat) (d : Array α) (s : List α), s.length = i → b = i + u.length → d.toList = s ++ u → (Sort.insOuter lt 0 b i d).toList = u.foldl (fun acc x => insL lt x acc) s
  | [], i, b, d, s, hs, hb, hd => by
    rw [Proofs.insOuter_stop _ _ _ _ _ (by simp at hb; omega), hd]
    simp
  | x :: u, i, b, d, s, hs, hb, hd => by
    rw [Proofs.insOuter_go _ _ _ _ _ (by simp at hb; omega)]
    have h1 := insInner_list lt i d s x u hs hd
    have hl : (insL lt x s).length = s.length + 1 := by
      unfold insL
      rw [List.length_reverse, insRev_length, List.length_reverse]
    rw [insOuter_list lt u (i + 1) b _ (insL lt x s) (by omega) (by simp at hb; omega) h1]
    rfl
theorem insertionSort_list {α : Type} [Inhabited α] (lt : α → α → Bool) (d : Array α) : (Sort.insertionSort lt d 0 d.size).toList = d.toList.foldl (fun acc x => insL lt x acc) [] := by
  unfold Sort.insertionSort
  cases h : d.toList with
  | nil =>
    have : d.size = 0 := by rw [← Array.length_toList, h]; rfl
    rw [Proofs.insOuter_stop _ _ _ _ _ (by omega), h]
    rfl
  | cons x u =>
    rw [insOuter_list lt u 1 d.size d [x] rfl (by rw [← Array.length_toList, h]; simp; omega) (by rw [h]; rfl)]
    rfl
theorem insRev_split {α : Type} (lt : α → α → Bool) (x : α) (A : List α) (hA : ∀ a, a ∈ A → lt x a = false) : ∀ B : List α, (∀ b, b ∈ B → lt x b = true) → insRev lt x (B ++ A) = B ++ x :: A
  | [], _ => by
    cases A with
    | nil => rfl
    | cons a A => simp [insRev, hA a List.mem_cons_self]
  | b :: B, hB => by
    rw [List.cons_append, insRev, if_pos (hB b List.mem_cons_self), insRev_split lt x A hA B (fun c hc => hB c (List.mem_cons_of_mem _ hc))]
    rfl
theorem insL_split {α : Type} (lt : α → α → Bool) (x : α) (A B : List α) (hA : ∀ a, a ∈ A → lt x a = false) (hB : ∀ b, b ∈ B → lt x b = true) : insL lt x (A ++ B) = A ++ x :: B := by
  unfold insL
  rw [List.reverse_append, insRev_split lt x A.reverse (fun a ha => hA a (List.mem_reverse.1 ha)) B.reverse (fun b hb => hB b (List.mem_reverse.1 hb))]
  simp
/-- By their keys, equals in their order. -/
def bucket {α : Type} (key : α → Nat) (N : Nat) (l : List α) : List α := (List.range N).flatMap fun v => l.filter fun x => key x == v
theorem bucket_snoc {α : Type} (key : α → Nat) (N : Nat) (l : List α) (x : α) (hx : key x < N) : insL (fun x y => decide (key x < key y)) x (bucket key N l) = bucket key N (l ++ [x]) := by
  obtain ⟨m, rfl⟩ : ∃ m, N = key x + 1 + m := ⟨N - (key x + 1), by omega⟩
  have hs : ∀ l : List α, bucket key (key x + 1 + m) l = (List.range (key x + 1)).flatMap (fun v => l.filter fun y => key y == v) ++ (List.range m).flatMap (fun v => l.filter fun y => key y == key x + 1 + v) := by
    intro l
    unfold bucket
    rw [List.range_add, List.flatMap_append, List.flatMap_map]
  rw [hs, hs, insL_split]
  · have h1 : (List.range (key x + 1)).flatMap (fun v => (l ++ [x]).filter fun y => key y == v) = (List.range (key x + 1)).flatMap (fun v => l.filter fun y => key y == v) ++ [x] := by
      rw [List.range_succ, List.flatMap_append, List.flatMap_append]
      simp only [List.flatMap_cons, List.flatMap_nil, List.append_nil]
      rw [List.append_assoc]
      congr 1
      · apply flatMap_same
        intro v hv
        have := List.mem_range.1 hv
        rw [List.filter_append]
        simp
        omega
      · rw [List.filter_append]
        simp
    have h2 : (List.range m).flatMap (fun v => (l ++ [x]).filter fun y => key y == key x + 1 + v) = (List.range m).flatMap (fun v => l.filter fun y => key y == key x + 1 + v) := by
      apply flatMap_same
      intro v _
      rw [List.filter_append]
      simp
      omega
    rw [h1, h2]
    simp
  · intro a ha
    obtain ⟨v, hv, ha⟩ := List.mem_flatMap.1 ha
    have h3 := List.mem_range.1 hv
    have h4 := (List.mem_filter.1 ha).2
    simp at h4
    exact decide_eq_false (by omega)
  · intro b hb
    obtain ⟨v, hv, hb⟩ := List.mem_flatMap.1 hb
    have h4 := (List.mem_filter.1 hb).2
    simp at h4
    exact decide_eq_true (by omega)
theorem foldl_bucket {α : Type} (key : α → Nat) (N : Nat) (l : List α) (h : ∀ x, x ∈ l → key x < N) : l.foldl (fun acc x => insL (fun x y => decide (key x < key y)) x acc) [] = bucket key N l := by
  have gen : ∀ (u s : List α), (∀ x, x ∈ u → key x < N) → u.foldl (fun acc x => insL (fun x y => decide (key x < key y)) x acc) (bucket key N s) = bucket key N (s ++ u) := by
    intro u
    induction u with
    | nil => intro s _; simp
    | cons x u ih =>
      intro s hu
      rw [List.foldl_cons, bucket_snoc key N s x (hu x List.mem_cons_self), ih (s ++ [x]) (fun y hy => hu y (List.mem_cons_of_mem _ hy))]
      simp
  have h0 : bucket key N ([] : List α) = [] := by simp [bucket]
  have := gen l [] h
  rwa [h0, List.nil_append] at this
theorem ins_length {α : Type} : ∀ (u s : List α) (lt : α → α → Bool), (u.foldl (fun acc x => insL lt x acc) s).length = s.length + u.length
  | [], s, lt => rfl
  | x :: u, s, lt => by
    rw [List.foldl_cons, ins_length u]
    unfold insL
    rw [List.length_reverse, insRev_length, List.length_reverse, List.length_cons]
    omega
theorem bucket_length {α : Type} (key : α → Nat) (N : Nat) (l : List α) (h : ∀ x, x ∈ l → key x < N) : (bucket key N l).length = l.length := by
  rw [← foldl_bucket key N l h, ins_length]
  simp
theorem bucket_map {α β : Type} (f : β → α) (key : α → Nat) (N : Nat) (l : List β) : (bucket (fun x => key (f x)) N l).map f = bucket key N (l.map f) := by
  unfold bucket
  rw [List.map_flatMap]
  apply flatMap_same
  intro v _
  rw [List.filter_map]
  rfl
end Go.Proofs.YtfcpebjjcijgcaaGreatDoor.G
-- by hand: lemmas
namespace Go.Proofs.YtfcpebjjcijgcaaGreatDoor.G
open Go.RowKit Go.Proofs.YtfcpebjjcijgcaaGreatDoorW.PrintWords Go.Proofs.YtfcpebjjcijgcaaGreatDoorW.PrintLast Go.Proofs.YtfcpebjjcijgcaaGreatDoorW.PrintMore
attribute [local go_sem] max2_int min2_int max_two min_two max_three min_three max_four min_four   -- for this text's walks alone
set_option linter.unusedVariables false
set_option linter.unusedSimpArgs false
/-- A map from the groups' names. -/
noncomputable def mapOf (l : List S43) (v : ByteArray → Value) : Lit → Option Value := fun k => open Classical in if h : ∃ s, s ∈ nms l ∧ sk s = k then some (v h.choose) else none
theorem mapOf_sk (l : List S43) (v : ByteArray → Value) (s : ByteArray) : mapOf l v (sk s) = if memB s (nms l) = true then some (v s) else none := by
  unfold mapOf
  by_cases h : s ∈ nms l
  · have h1 : ∃ t, t ∈ nms l ∧ sk t = sk s := ⟨s, h, rfl⟩
    rw [dif_pos h1, if_pos (memB_iff.2 h), sk_inj.1 h1.choose_spec.2]
  · have h1 : ¬ ∃ t, t ∈ nms l ∧ sk t = sk s := by
      rintro ⟨t, ht, e⟩
      rw [sk_inj.1 e] at ht
      exact h ht
    rw [dif_neg h1, if_neg (fun e => h (memB_iff.1 e))]
theorem mapOf_other (l : List S43) (v : ByteArray → Value) (k : Lit) (hk : ∀ s, sk s ≠ k) : mapOf l v k = none := by
  unfold mapOf
  rw [dif_neg]
  rintro ⟨s, _, e⟩
  exact hk s e
theorem mapOf_nil (v : ByteArray → Value) : mapOf [] v = fun _ => none := by
  funext k
  unfold mapOf
  rw [dif_neg]
  rintro ⟨s, hs, _⟩
  simp [nms] at hs
theorem mapOf_ext {l l' : List S43} {v v' : ByteArray → Value} {k0 : ByteArray} {u : Value} (h : ∀ s, (if s = k0 then some u else if memB s (nms l) = true then some (v s) else none) = if memB s (nms l') = true then some (v' s) else none) : upd (mapOf l v) (sk k0) u = mapOf l' v' := by
  funext k
  by_cases hk : ∃ s, sk s = k
  · obtain ⟨s, rfl⟩ := hk
    rw [mapOf_sk, ← h s]
    by_cases e : s = k0
    · subst e
      rw [upd_same, if_pos rfl]
    · rw [upd_other _ _ (fun z => e (sk_inj.1 z)), if_neg e, mapOf_sk]
  · have hk' : ∀ s, sk s ≠ k := fun s e => hk ⟨s, e⟩
    rw [upd_other _ _ (fun z => hk' _ z.symm), mapOf_other _ _ _ hk', mapOf_other _ _ _ hk']
theorem memB_snoc (s : ByteArray) (l : List S43) (g : S43) : memB s (nms (l ++ [g])) = (memB s (nms l) || decide (g.f0 = s)) := by
  rw [nms_snoc]
  simp [memB]
theorem mapOf_snoc (l : List S43) (v : ByteArray → Value) (g : S43) : upd (mapOf l v) (sk g.f0) (v g.f0) = mapOf (l ++ [g]) v := by
  refine mapOf_ext fun s => ?_
  rw [memB_snoc]
  by_cases e : s = g.f0
  · subst e
    simp
  · have : decide (g.f0 = s) = false := decide_eq_false (fun z => e z.symm)
    rw [if_neg e, this, Bool.or_false]
theorem mapOf_upd (l : List S43) (v v' : ByteArray → Value) (k0 : ByteArray) (u : Value) (hm : memB k0 (nms l) = true) (h0 : v' k0 = u) (h : ∀ s, s ≠ k0 → v' s = v s) : upd (mapOf l v) (sk k0) u = mapOf l v' := by
  refine mapOf_ext fun s => ?_
  by_cases e : s = k0
  · subst e
    rw [if_pos rfl, if_pos hm, h0]
  · rw [if_neg e, h s e]
/-- The place of a name, or the number of names. -/
def idxN (names : List ByteArray) (s : ByteArray) : Nat := names.findIdx fun t => decide (t = s)
theorem idxN_le (names : List ByteArray) (s : ByteArray) : idxN names s ≤ names.length := List.findIdx_le_length
theorem idxN_not {names : List ByteArray} {s : ByteArray} (h : memB s names = false) : idxN names s = names.length := by
  unfold idxN
  rw [List.findIdx_eq_length]
  intro t ht
  exact decide_eq_false (fun e => memB_false.1 h (e ▸ ht))
theorem idxN_lt {names : List ByteArray} {s : ByteArray} (h : memB s names = true) : idxN names s < names.length := by
  unfold idxN
  exact List.findIdx_lt_length_of_exists ⟨s, memB_iff.1 h, decide_eq_true rfl⟩
/-- The groups by the places of their names. -/
def sortG (names : List ByteArray) (l : List S43) : List S43 := bucket (fun g => idxN names g.f0) (names.length + 1) l
/-- Numbered anew, from a place on. -/
def renum : Int → List S43 → List S43
  | _, [] => []
  | p, g :: l => ⟨g.f0, p, wrap64 (wrap64 (p + g.f2) - g.f1)⟩ :: renum (wrap64 (wrap64 (wrap64 (p + g.f2) - g.f1) + 1)) l
def ordP (l : List S43) (names : List ByteArray) : List S43 × Int :=
  if names.any (fun s => !memB s (nms l)) then ([], 6) else if !decide names.Nodup then ([], 5) else (renum (rd_T43 l 0).f1 (sortG names l), 0)
def namesFit (names : List ByteArray) : Bool := decide (names.length ≤ 1099511627776) && names.all fun s => decide (s.size ≤ 9223372036854775807)
theorem namesFit_len {names : List ByteArray} (h : namesFit names = true) : names.length ≤ 1099511627776 := by
  simp only [namesFit, Bool.and_eq_true, decide_eq_true_eq] at h
  exact h.1
theorem namesFit_size {names : List ByteArray} (h : namesFit names = true) {s : ByteArray} (hs : s ∈ names) : s.size ≤ 9223372036854775807 := by
  simp only [namesFit, Bool.and_eq_true, List.all_eq_true, decide_eq_true_eq] at h
  exact h.2 s hs
/-- What the map holds when i names have been put. -/
def valN (names : List ByteArray) (i : Nat) (s : ByteArray) : Int := if memB s (names.take i) = true then (idxN names s : Int) else (names.length : Int)
theorem valN_zero (names : List ByteArray) (s : ByteArray) : valN names 0 s = (names.length : Int) := by simp [valN, memB]
theorem valN_all (names : List ByteArray) (s : ByteArray) : valN names names.length s = (idxN names s : Int) := by
  unfold valN
  rw [List.take_length]
  split
  · rfl
  · rename_i h
    rw [Bool.not_eq_true] at h
    rw [idxN_not h]
theorem valN_lt {names : List ByteArray} {i : Nat} {s : ByteArray} : decide (valN names i s < (names.length : Int)) = memB s (names.take i) := by
  unfold valN
  by_cases h : memB s (names.take i) = true
  · rw [if_pos h, h]
    have h2 : memB s names = true := memB_iff.2 (List.mem_of_mem_take (memB_iff.1 h))
    have := idxN_lt h2
    exact decide_eq_true (by omega)
  · rw [if_neg h]
    rw [Bool.not_eq_true] at h
    rw [h]
    exact decide_eq_false (by omega)
theorem memB_one (s : ByteArray) (l : List ByteArray) (t : ByteArray) : memB s (l ++ [t]) = (memB s l || decide (t = s)) := by simp [memB]
theorem take_name {names : List ByteArray} {i : Nat} (hi : i < names.length) : names.take (i + 1) = names.take i ++ [names[i]] := by
  rw [List.take_add_one, List.getElem?_eq_getElem hi]
  rfl
theorem valN_step {names : List ByteArray} {i : Nat} (hi : i < names.length) (hn : memB names[i] (names.take i) = false) : valN names (i + 1) names[i] = (i : Int) ∧ ∀ s, s ≠ names[i] → valN names (i + 1) s = valN names i s := by
  constructor
  · unfold valN
    rw [take_name hi, if_pos (by rw [memB_one, decide_eq_true rfl, Bool.or_true])]
    have : idxN names names[i] = i := by
      unfold idxN
      rw [List.findIdx_eq hi]
      refine ⟨decide_eq_true rfl, fun j hj => decide_eq_false fun e => ?_⟩
      refine memB_false.1 hn ?_
      rw [← e]
      have h2 : j < (names.take i).length := by rw [List.length_take]; omega
      have := List.getElem_mem h2
      rwa [List.getElem_take] at this
    rw [this]
  · intro s hs
    unfold valN
    have : memB s (names.take (i + 1)) = memB s (names.take i) := by
      rw [take_name hi, memB_one, decide_eq_false (fun e : names[i] = s => hs e.symm), Bool.or_false]
    rw [this]
theorem sortG_length (names : List ByteArray) (l : List S43) : (sortG names l).length = l.length := bucket_length _ _ _ fun _ _ => Nat.lt_succ_of_le (idxN_le _ _)
end Go.Proofs.YtfcpebjjcijgcaaGreatDoor.G
-- by hand: lemmas
namespace Go.Proofs.YtfcpebjjcijgcaaGreatDoor.G
open Go.RowKit Go.Proofs.YtfcpebjjcijgcaaGreatDoorW.PrintWords Go.Proofs.YtfcpebjjcijgcaaGreatDoorW.PrintLast Go.Proofs.YtfcpebjjcijgcaaGreatDoorW.PrintMore
attribute [local go_sem] max2_int min2_int max_two min_two max_three min_three max_four min_four   -- for this text's walks alone
set_option linter.unusedVariables false
set_option linter.unusedSimpArgs false
/-- A row of the call's own, as the sort's contracts tell it: the elements by their places. -/
theorem Kd.sort_holds {α : Type} {d : Kd α} {enc : α → List Value} {k : Nat} (hk : ∀ x, (enc x).length = k) (hsz : d.sz = k) (hM : ∀ w base ok x cs, d.M w base ok x cs → cs = enc x) (z : α) {e : Nat} {w : World} {base : Nat} {ok : Nat → Prop} {g n c : Nat} {l : List α}
    (h : d.R e w base ok (.slice (some ⟨g, 0, none⟩) n c) l) : g < w.heap.size ∧ n = l.length ∧ Sort.HoldsK (fun i : Nat => enc (l.getD i z)) k w g 0 (Array.range n) := by
  obtain ⟨h0, inner, ho, hr⟩ := h
  obtain ⟨hl, hv⟩ := ho
  rcases hv with ⟨hv, _⟩ | ⟨g', cap, cur, hv, hb, hh, hnc, hcm, hcs, htk⟩
  · cases hv
  injection hv with hv hn hc
  injection hv with hv
  injection hv with hv
  subst hv
  subst hn
  refine ⟨(Array.getElem?_eq_some_iff.1 hh).1, rfl, ?_⟩
  intro t ht
  have ht' : t < l.length * k := by simpa using ht
  have hk0 : 0 < k := by rcases Nat.eq_zero_or_pos k with h | h; · subst h; simp at ht'
                         · exact h
  rw [Sort.get_flatK _ _ _ _ (by simpa using ht')]
  have hq2 : t / k < l.length := Nat.div_lt_of_lt_mul (by rw [Nat.mul_comm]; exact ht')
  have hrep := hM _ _ _ _ _ (hr.2 (t / k) _ (List.getElem?_eq_getElem hq2))
  rw [hsz] at hrep
  have hx : (Array.range l.length)[t / k]! = t / k := by
    rw [getElem!_pos (Array.range l.length) (t / k) (by simpa using hq2)]
    simp
  rw [hx]
  show w.cell? ⟨g, 0 + t, none⟩ = some (enc (l.getD (t / k) z))[t % k]! ∧ w.frozen? ⟨g, 0 + t, none⟩ = false
  have hgd : l.getD (t / k) z = l[t / k] := by rw [List.getD_eq_getElem?_getD, List.getElem?_eq_getElem hq2]; rfl
  rw [hgd, ← hrep]
  have hmod : t % k < k := Nat.mod_lt _ hk0
  have hdm : t / k * k + t % k = t := by rw [Nat.mul_comm]; exact Nat.div_add_mod t k
  have hti : t < inner.length := by rw [hl, hsz]; exact ht'
  obtain ⟨u, hu⟩ : ∃ u, inner[t]? = some u := ⟨_, List.getElem?_eq_getElem hti⟩
  have hcell : cur[t]? = some u := by
    rw [← htk, List.getElem?_take] at hu
    split at hu
    · rw [← Array.getElem?_toList]; exact hu
    · cases hu
  have hget : ((inner.drop (t / k * k)).take k)[t % k]! = u := by
    have h2 : ((inner.drop (t / k * k)).take k)[t % k]? = some u := by
      rw [List.getElem?_take, if_pos hmod, List.getElem?_drop, hdm]
      exact hu
    rw [List.getElem!_eq_getElem?_getD, h2]
    rfl
  rw [hget]
  constructor
  · simp [World.cell?, hh, hcell]
  · simp [World.frozen?, hh]
theorem Kd.sort_other {α : Type} [Inhabited α] {enc : α → List Value} {k : Nat} {w : World} {g off m : Nat} {dk : Array α} {os : Array Obj} {b : Nat} (hb : b ≠ g) (hlt : b < w.heap.size) : (Go.Proofs.sortWorldK enc k w g off m dk os).heap[b]? = w.heap[b]? := by
  unfold Go.Proofs.sortWorldK Go.Sort.grow Sort.putRowK Sort.putRow Sort.mapBlock
  show ((Sort.ahead w m).heap.modify g _ ++ os)[b]? = _
  rw [Array.getElem?_append_left (by simpa using hlt), Array.getElem?_modify, if_neg (fun e => hb e.symm)]
  rfl
theorem Kd.sort_grown {α : Type} [Inhabited α] {enc : α → List Value} {k : Nat} (w : World) (g off m : Nat) (dk : Array α) (os : Array Obj) : w.grownBy (Go.Proofs.sortWorldK enc k w g off m dk os) (some g) :=
  ⟨rfl, rfl, rfl, by unfold Go.Proofs.sortWorldK Go.Sort.grow Sort.putRowK Sort.putRow Sort.mapBlock; simp [Sort.ahead], fun b hb hne => Kd.sort_other (fun e => hne (by rw [e])) hb⟩
theorem Kd.sort_done {α : Type} {d : Kd α} {enc : α → List Value} {k : Nat} (hk : ∀ x, (enc x).length = k) (hk0 : 0 < k) (hsz : d.sz = k) (hM : ∀ w base ok x, d.M w base ok x (enc x)) (z : α) {e : Nat} {w : World} {base : Nat} {ok : Nat → Prop} {g n c : Nat} {l : List α}
    (h : d.R e w base ok (.slice (some ⟨g, 0, none⟩) n c) l) (m : Nat) (d' : Array Nat) (hd : d'.size = l.length) (os : Array Obj) :
    d.R e (Go.Proofs.sortWorldK (fun i : Nat => enc (l.getD i z)) k w g 0 m d' os) base ok (.slice (some ⟨g, 0, none⟩) n c) (d'.toList.map fun i => l.getD i z) := by
  obtain ⟨h0, inner, ho, hr⟩ := h
  obtain ⟨hl, hv⟩ := ho
  rcases hv with ⟨hv, _⟩ | ⟨g', cap, cur, hv, hb, hh, hnc, hcm, hcs, htk⟩
  · cases hv
  injection hv with hv hn hc
  injection hv with hv
  injection hv with hv
  subst hv
  subst hn
  subst hc
  have hFs : (Sort.flatK (fun i : Nat => enc (l.getD i z)) k d').size = l.length * k := by simp [hd]
  refine ⟨h0, (Sort.flatK (fun i : Nat => enc (l.getD i z)) k d').toList, ⟨?_, .inr ⟨g, c, Sort.putCells id 0 (Sort.flatK (fun i : Nat => enc (l.getD i z)) k d') cur, by simp [hd], hb, ?_, ?_, hcm, ?_, ?_⟩⟩, ?_, ?_⟩
  · rw [Array.length_toList, hFs, hsz]; simp [hd]
  · unfold Go.Proofs.sortWorldK Go.Sort.grow Sort.putRowK Sort.putRow Sort.mapBlock
    show ((Sort.ahead w m).heap.modify g _ ++ os)[g]? = _
    have hlt := (Array.getElem?_eq_some_iff.1 hh).1
    rw [Array.getElem?_append_left (by simpa [Sort.ahead] using hlt), Array.getElem?_modify, if_pos rfl]
    show (w.heap[g]?).map _ = _
    rw [hh]
    rfl
  · simpa [hd] using hnc
  · simp [Sort.putCells, hcs]
  · apply List.ext_getElem?
    intro t
    rw [List.getElem?_take]
    have hlm : (d'.toList.map fun i => l.getD i z).length * d.sz = l.length * k := by simp [hd, hsz]
    rw [hlm]
    by_cases ht : t < l.length * k
    · rw [if_pos ht]
      have hcz : t < cur.size := by
        rw [hcs, hsz]
        exact Nat.lt_of_lt_of_le ht (Nat.mul_le_mul_right _ hnc)
      rw [Array.getElem?_toList, Array.getElem?_toList]
      unfold Sort.putCells
      rw [Array.getElem?_mapIdx, Array.getElem?_eq_getElem hcz, Option.map_some, if_pos ⟨Nat.zero_le _, by rw [hFs]; omega⟩, Nat.sub_zero, getElem!_pos _ t (by rw [hFs]; exact ht), Array.getElem?_eq_getElem (by rw [hFs]; exact ht)]
      rfl
    · rw [if_neg ht, List.getElem?_eq_none (by rw [Array.length_toList, hFs]; omega)]
  · rw [Array.length_toList, hFs, hsz]; simp [hd]
  · intro j p hj
    have hjl : j < d'.size := by
      have := (List.getElem?_eq_some_iff.1 hj).1
      simpa using this
    have hp : p = l.getD d'[j]! z := by
      rw [List.getElem?_map, Array.getElem?_toList, Array.getElem?_eq_getElem hjl] at hj
      rw [getElem!_pos d' j hjl]
      simpa using hj.symm
    have e2 : (((Sort.flatK (fun i : Nat => enc (l.getD i z)) k d').toList.drop (j * d.sz)).take d.sz) = enc p := by
      rw [hsz]
      apply List.ext_getElem?
      intro r
      rw [List.getElem?_take, List.getElem?_drop]
      by_cases hr2 : r < k
      · have hlt : j * k + r < d'.size * k := by
          have := Nat.mul_le_mul_right k (show j + 1 ≤ d'.size from hjl)
          rw [Nat.add_mul, Nat.one_mul] at this
          omega
        have hdiv : (j * k + r) / k = j := by
          rw [Nat.mul_comm, Nat.mul_add_div hk0, Nat.div_eq_of_lt hr2]
          rfl
        have hmod : (j * k + r) % k = r := by
          rw [Nat.mul_comm, Nat.mul_add_mod, Nat.mod_eq_of_lt hr2]
        rw [if_pos hr2, Array.getElem?_toList, Array.getElem?_eq_getElem (by rw [Sort.size_flatK]; exact hlt)]
        have h3 := Sort.get_flatK (fun i : Nat => enc (l.getD i z)) k d' _ hlt
        rw [getElem!_pos _ _ (by rw [Sort.size_flatK]; exact hlt), hdiv, hmod] at h3
        rw [h3, hp, List.getElem?_eq_getElem (by rw [hk]; exact hr2), getElem!_pos _ r (by rw [hk]; exact hr2)]
      · rw [if_neg hr2, List.getElem?_eq_none (by rw [hk]; omega)]
    rw [e2]
    exact hM _ _ _ _
theorem Kd.R_at {α : Type} {d : Kd α} {e : Nat} {w : World} {base : Nat} {ok : Nat → Prop} {v : Value} {l : List α} (h : d.R e w base ok v l) (hl : 0 < l.length) : ∃ g c, v = .slice (some ⟨g, 0, none⟩) l.length c ∧ base ≤ g := by
  obtain ⟨h0, inner, ⟨_, hv⟩, _⟩ := h
  rcases hv with ⟨_, hn⟩ | ⟨g, cap, cur, hv, hb, _⟩
  · omega
  · exact ⟨g, cap, hv, hb⟩
theorem bucket_congr {α : Type} {key key' : α → Nat} (N : Nat) {l : List α} (h : ∀ x, x ∈ l → key x = key' x) : bucket key N l = bucket key' N l := by
  unfold bucket
  apply flatMap_same
  intro v _
  apply List.filter_congr
  intro x hx
  rw [h x hx]
theorem range_getD {α : Type} (l : List α) (z : α) : (List.range l.length).map (fun i => l.getD i z) = l := by
  apply List.ext_getElem?
  intro i
  rw [List.getElem?_map]
  rcases Nat.lt_or_ge i l.length with h | h
  · rw [List.getElem?_range h, List.getElem?_eq_getElem h, Option.map_some, List.getD_eq_getElem?_getD, List.getElem?_eq_getElem h]
    rfl
  · rw [List.getElem?_eq_none (by simpa using h), List.getElem?_eq_none h]
    rfl
/-- The cells of a row of the call's own. -/
theorem Kd.R_cells {α : Type} {d : Kd α} {enc : α → List Value} {k : Nat} (hsz : d.sz = k) (hK : ∀ w x cs, d.K w x cs → cs = enc x) {e : Nat} {w : World} {base : Nat} {ok : Nat → Prop} {g n c : Nat} {l : List α} (h : d.R e w base ok (.slice (some ⟨g, 0, none⟩) n c) l) {i : Nat} {x : α} (hi : l[i]? = some x) :
    (∀ j u, (enc x)[j]? = some u → w.cell? ⟨g, i * k + j, none⟩ = some u) ∧ ∀ o, w.frozen? ⟨g, o, none⟩ = false := by
  constructor
  · obtain ⟨A, c', he, _, hC⟩ := Kd.R_reads h
    injection he with hA hn hc
    subst hA
    have hil := (List.getElem?_eq_some_iff.1 hi).1
    obtain ⟨ad, e2, hcell⟩ := hC.2.2 (by omega)
    injection e2 with e2
    subst e2
    obtain ⟨cs, h1, h2, h3⟩ := hcell i x hi
    intro j u hu
    rw [hK _ _ _ h2] at h3
    have := h3 j u hu
    rw [hsz] at this
    rwa [add_plain] at this
  · intro o
    obtain ⟨inner, ho⟩ := Kd.R_own h
    obtain ⟨cells, hc⟩ := own_typed ho g rfl
    exact blk_frozen hc o
end Go.Proofs.YtfcpebjjcijgcaaGreatDoor.G
-- unicodetext/groups.Order: by hand
namespace Go.Proofs.YtfcpebjjcijgcaaGreatDoor.G
open Go.RowKit Go.Proofs.YtfcpebjjcijgcaaGreatDoorW.PrintWords Go.Proofs.YtfcpebjjcijgcaaGreatDoorW.PrintLast Go.Proofs.YtfcpebjjcijgcaaGreatDoorW.PrintMore
attribute [local go_sem] max2_int min2_int max_two min_two max_three min_three max_four min_four   -- for this text's walks alone
set_option linter.unusedVariables false
set_option linter.unusedSimpArgs false
-- BY HAND: function 14 (groups_Order)
theorem zero_int (w : World) : (zeroValue 3).run Tryz.prog w = .ok (.int .i64 0) w := by kernel_rfl
/-- What a group's cells are. -/
def encG (g : S43) : List Value := [.string g.f0, .int .i64 g.f1, .int .i64 g.f2]
set_option maxHeartbeats 1000000 in
/-- The comparison: what the map holds of the two names. -/
theorem order_cmp (W : World) (gK gM n : Nat) (f : Lit → Option Value) (x y : S43) (a b : Int) (hx : x.f0.size ≤ maxLen) (hy : y.f0.size ≤ maxLen) (hc : W.cell? ⟨gK, 0, none⟩ = some (.map (some gM))) (hm : MapV Tryz.prog 9 W gM n f)
    (ha : (f (sk x.f0)).getD (.int .i64 0) = .int .i64 a) (hb : (f (sk y.f0)).getD (.int .i64 0) = .int .i64 b) :
    Calls Tryz.prog 29 #[.agg (encG x).toArray, .agg (encG y).toArray, .pointer (some ⟨gK, 0, none⟩)] W fun e w' => e = .returned (.int .i64 (wrap64 (a - b))) ∧ w' = (W.alloc (.cells (encG x).toArray 43)).alloc (.cells (encG y).toArray 43) := by
  unfold encG
  have hkx := Aside0.mk (keyOf_sk (P := Tryz.prog) Tryz.underlying9 hx)
  have hky := Aside0.mk (keyOf_sk (P := Tryz.prog) Tryz.underlying9 hy)
  have HA := Aside0.mk ha
  have HB := Aside0.mk hb
  have hc2 : ((W.alloc (.cells #[.string x.f0, .int .i64 x.f1, .int .i64 x.f2] 43)).alloc (.cells #[.string y.f0, .int .i64 y.f1, .int .i64 y.f2] 43)).cell? ⟨gK, 0, none⟩ = some (.map (some gM)) := pw_cell_below (below_alloc (below_alloc (Below.refl _ _) _) _) hc
  have HM := Aside0.mk ((hm.alloc (.cells #[.string x.f0, .int .i64 x.f1, .int .i64 x.f2] 43)).alloc (.cells #[.string y.f0, .int .i64 y.f1, .int .i64 y.f2] 43))
  have tok : True := trivial
  clear ha hb hx hy hc hm
  show Calls Tryz.prog 29 #[.agg #[.string x.f0, .int .i64 x.f1, .int .i64 x.f2], .agg #[.string y.f0, .int .i64 y.f1, .int .i64 y.f2], .pointer (some ⟨gK, 0, none⟩)] W _
  go_enter Tryz.func29, Tryz.ntmps29
  go_wp2_with (first | ((with_reducible refine gate_dst (N := 9) rfl ?_); refine wpl_look rfl _ _ 66 rfl 3 strK Tryz.underlying66 (zero_int _) rfl HM.out _ (sk x.f0) rfl hkx.out _ HA.out ?_) | ((with_reducible refine gate_dst (N := 13) rfl ?_); refine wpl_look rfl _ _ 66 rfl 3 strK Tryz.underlying66 (zero_int _) rfl HM.out _ (sk y.f0) rfl hky.out _ HB.out ?_))
  go_ret
  exact ⟨rfl, rfl⟩
/-- A name's key, if the groups have it. -/
def keyI (names : List ByteArray) (l : List S43) (i : Nat) : Nat := if memB (l.getD i z43).f0 (nms l) = true then idxN names (l.getD i z43).f0 else 0
theorem getD_size {l : List S43} (hf : fits l = true) (i : Nat) : (l.getD i z43).f0.size ≤ 9223372036854775807 := by
  rw [List.getD_eq_getElem?_getD]
  rcases Nat.lt_or_ge i l.length with h | h
  · rw [List.getElem?_eq_getElem h]
    exact fits_size hf (List.getElem_mem h)
  · rw [List.getElem?_eq_none h]
    exact Nat.zero_le _
theorem k_enc {w : World} {base : Nat} {ok : Nat → Prop} {x : S43} {cs : List Value} (h : k43.M w base ok x cs) : cs = encG x := k43_openM h
set_option maxHeartbeats 1000000 in
theorem order_sort (names : List ByteArray) (l : List S43) (hn : names.length ≤ 1099511627776) (hf : fits l = true) (hl : l.length < 20) (W : World) (gM gK n base : Nat) (v0 : Value) (hR : Kd.R k43 43 W base (fun _ => True) v0 l)
    (hk : W.heap[gK]? = some (.cells #[.map (some gM)] 66 (0, 0))) (hm : MapV Tryz.prog 9 W gM n (mapOf l (fun s => .int .i64 (idxN names s)))) :
    Calls Tryz.prog 28 #[v0, .func (.func 29) #[] #[.pointer (some ⟨gK, 0, none⟩)]] W fun e w' => e = .returned (.tuple #[]) ∧ Kd.R k43 43 w' base (fun _ => True) v0 (sortG names l) ∧ W.grownBy w' v0.ownBlock := by
  rcases Nat.eq_zero_or_pos l.length with h0 | h0
  · obtain rfl := List.eq_nil_of_length_eq_zero h0
    obtain ⟨A, c, rfl, _⟩ := Kd.R_reads hR
    refine (api_Group_28.small A 0 c _ (by omega) W (fun w' => w' = W) (api_Group_64.none A c _ W)).mono ?_
    rintro e w' ⟨rfl, rfl⟩
    exact ⟨rfl, by have : sortG names [] = [] := by simp [sortG, bucket]
                   rw [this]; exact hR, World.grownBy.refl _ _⟩
  · obtain ⟨g, c, rfl, hbg⟩ := Kd.R_at hR h0
    obtain ⟨hlt, _, hH⟩ := Kd.sort_holds (d := k43) (enc := encG) (k := 3) (fun _ => rfl) rfl (fun _ _ _ _ _ h => k_enc h) z43 hR
    have hne1 : gK ≠ g := fun e => Kd.R_ne hR hk (by decide) (by rw [e]; rfl)
    have hne2 : gM ≠ g := by
      obtain ⟨inner, ho⟩ := Kd.R_own hR
      obtain ⟨cells, hc⟩ := own_typed ho g rfl
      exact hm.ne_cells hc
    refine (api_Group_28.small (some ⟨g, 0, none⟩) l.length c _ hl W (fun w' => ∃ m os, w' = Go.Proofs.sortWorldK (fun i : Nat => encG (l.getD i z43)) 3 W g 0 m (Sort.insertionSort (Go.Proofs.ltOf fun i j => wrap64 ((keyI names l i : Int) - (keyI names l j : Int))) (Array.range l.length) 0 l.length) os) ?_).mono ?_
    · have hcmp : Go.Proofs.CmpLays Tryz.prog 29 #[.pointer (some ⟨gK, 0, none⟩)] (fun i : Nat => encG (l.getD i z43)) 3 (fun i j => wrap64 ((keyI names l i : Int) - (keyI names l j : Int))) g 0 (Array.range l.length).size W := by
        intro m os dk _ x y
        have hkk : (Go.Proofs.sortWorldK (fun i : Nat => encG (l.getD i z43)) 3 W g 0 m dk os).cell? ⟨gK, 0, none⟩ = some (.map (some gM)) := (blk_cell ((Kd.sort_other hne1 (blk_lt hk)).trans hk) 0).trans rfl
        have hmm := hm.move (Kd.sort_other (enc := fun i : Nat => encG (l.getD i z43)) (k := 3) (off := 0) (m := m) (dk := dk) (os := os) hne2 hm.lt)
        have hv : ∀ i : Nat, (mapOf l (fun s => .int .i64 (idxN names s)) (sk (l.getD i z43).f0)).getD (.int .i64 0) = .int .i64 (keyI names l i) := by
          intro i
          rw [mapOf_sk]
          unfold keyI
          split <;> rfl
        refine (order_cmp _ gK gM n _ (l.getD x z43) (l.getD y z43) (keyI names l x) (keyI names l y) (Nat.le_trans (getD_size hf x) (by unfold maxLen; omega)) (Nat.le_trans (getD_size hf y) (by unfold maxLen; omega)) hkk hmm (hv x) (hv y)).mono ?_
        rintro e w' ⟨rfl, rfl⟩
        refine ⟨rfl, 0, #[.cells (encG (l.getD x z43)).toArray 43 (0, 0), .cells (encG (l.getD y z43)).toArray 43 (0, 0)], ?_⟩
        rw [Sort.alloc_eq_grow, Sort.alloc_eq_grow, Sort.grow_grow]
        rfl
      have hins := Go.Proofs.AnyQ.insertionSortCmpFunc api_Group_64.lay 3 Tryz.isAgg43 Tryz.sizeOf43 (fun i : Nat => encG (l.getD i z43)) (fun _ => rfl) (fun i v hv => by simp [encG] at hv; rcases hv with rfl | rfl | rfl <;> rfl) (fun i j => wrap64 ((keyI names l i : Int) - (keyI names l j : Int))) 29 #[.pointer (some ⟨gK, 0, none⟩)] g 0 c 0 l.length (Array.range l.length) W (enters_of Tryz.func29 (by kernel_rfl) rfl) hcmp hH hlt (Nat.zero_le _) (by simp) (by simp; omega)
      rw [Array.size_range] at hins
      exact hins
    · rintro e w' ⟨rfl, m, os, rfl⟩
      have hkb : ∀ i, keyI names l i ≤ names.length := fun i => by
        unfold keyI
        split
        · exact idxN_le _ _
        · omega
      have hlo : (Go.Proofs.ltOf fun i j => wrap64 ((keyI names l i : Int) - (keyI names l j : Int))) = fun i j => decide (keyI names l i < keyI names l j) := by
        funext i j
        have h1 := hkb i
        have h2 := hkb j
        show decide (wrap64 ((keyI names l i : Int) - (keyI names l j : Int)) < 0) = decide (keyI names l i < keyI names l j)
        rw [show wrap64 ((keyI names l i : Int) - (keyI names l j : Int)) = (keyI names l i : Int) - (keyI names l j : Int) by unfold wrap64; omega, Bool.eq_iff_iff]
        simp
        omega
      have hsl : (Sort.insertionSort (Go.Proofs.ltOf fun i j => wrap64 ((keyI names l i : Int) - (keyI names l j : Int))) (Array.range l.length) 0 l.length).toList = bucket (keyI names l) (names.length + 1) (List.range l.length) := by
        have := insertionSort_list (Go.Proofs.ltOf fun i j => wrap64 ((keyI names l i : Int) - (keyI names l j : Int))) (Array.range l.length)
        rw [Array.size_range] at this
        rw [this, hlo, Array.toList_range, foldl_bucket (keyI names l) (names.length + 1) _ (fun x _ => Nat.lt_succ_of_le (hkb x))]
      have hfin : ((Sort.insertionSort (Go.Proofs.ltOf fun i j => wrap64 ((keyI names l i : Int) - (keyI names l j : Int))) (Array.range l.length) 0 l.length).toList.map fun i => l.getD i z43) = sortG names l := by
        rw [hsl, bucket_congr (key' := fun i => idxN names (l.getD i z43).f0) (names.length + 1) (fun x hx => ?_), bucket_map (fun i => l.getD i z43) (fun g => idxN names g.f0), range_getD]
        · rfl
        · have hx2 := List.mem_range.1 hx
          unfold keyI
          rw [if_pos]
          rw [memB_iff]
          unfold nms
          refine List.mem_map.2 ⟨_, ?_, rfl⟩
          rw [List.getD_eq_getElem?_getD, List.getElem?_eq_getElem hx2]
          exact List.getElem_mem _
      have hsz : (Sort.insertionSort (Go.Proofs.ltOf fun i j => wrap64 ((keyI names l i : Int) - (keyI names l j : Int))) (Array.range l.length) 0 l.length).size = l.length := by
        have h1 := congrArg List.length hsl
        rw [Array.length_toList] at h1
        rw [h1, ← foldl_bucket (keyI names l) (names.length + 1) _ (fun x _ => Nat.lt_succ_of_le (hkb x))]
        have : ∀ (u s : List Nat) (lt : Nat → Nat → Bool), (u.foldl (fun acc x => insL lt x acc) s).length = s.length + u.length := by
          intro u
          induction u with
          | nil => intro s lt; rfl
          | cons x u ih =>
            intro s lt
            rw [List.foldl_cons, ih]
            unfold insL
            rw [List.length_reverse, insRev_length, List.length_reverse, List.length_cons]
            omega
        rw [this]
        simp
      refine ⟨rfl, ?_, Kd.sort_grown W g 0 m _ os⟩
      have hd := Kd.sort_done (d := k43) (enc := encG) (k := 3) (fun _ => rfl) (by decide) rfl (fun _ _ _ x => k43_mkM _ _ _ x) z43 hR m (Sort.insertionSort (Go.Proofs.ltOf fun i j => wrap64 ((keyI names l i : Int) - (keyI names l j : Int))) (Array.range l.length) 0 l.length) hsz os
      rw [hfin] at hd
      exact hd
def groups_Order.f (k : Nat) (l0_0 : List (S50)) (l0_1 : List (S43)) (a0_2 : Int) (a0_3 : Int) (a0_4 : Int) (l1 : List ByteArray) : Option ((List (S43)) × Int) := (colltable_Check.f k l0_0 l0_1 a0_2 a0_3 a0_4).bind fun e => if e = 0 then (if fits l0_1 = true ∧ l0_1.length < 20 ∧ namesFit l1 = true then some (ordP l0_1 l1) else none) else some ([], e)
set_option maxHeartbeats 1000000 in
theorem groups_Order.calls (k : Nat) (A0_0 : Option Addr) (c0_0 : Nat) (l0_0 : List (S50)) (A0_1 : Option Addr) (c0_1 : Nat) (l0_1 : List (S43)) (a0_2 : Int) (a0_3 : Int) (a0_4 : Int) (A1 : Option Addr) (c1 : Nat) (l1 : List ByteArray) (r1 : List (S43)) (r2 : Int) (w : World) (hr0_0 : Kd.C k50 w A0_0 l0_0.length l0_0) (hc0_0 : l0_0.length ≤ c0_0) (hr0_1 : Kd.C k43 w A0_1 l0_1.length l0_1) (hc0_1 : l0_1.length ≤ c0_1) (hr1 : Kd.C Kd.string w A1 l1.length l1) (hc1 : l1.length ≤ c1) (h : groups_Order.f k l0_0 l0_1 a0_2 a0_3 a0_4 l1 = some (r1, r2)) :
  Calls Tryz.prog 14 #[.agg #[.slice A0_0 l0_0.length c0_0, .slice A0_1 l0_1.length c0_1, .int .i64 a0_2, .int .i64 a0_3, .int .i64 a0_4], .slice A1 l1.length c1] w fun e w' => ∃ v0_ : Value, e = .returned (.tuple #[v0_, .int .i64 r2]) ∧ Kd.R k43 43 w' w.heap.size (fun _ => True) v0_ r1 ∧ Below w.heap.size w w' := by
 unfold groups_Order.f at h
 obtain ⟨e0, hE, h⟩ := Option.bind_eq_some_iff.mp h
 have HE := Aside0.mk hE
 have H := Aside0.mk h
 have HR0 := Aside0.mk hr0_0
 have HC0 := Aside0.mk hc0_0
 have HR1 := Aside0.mk hr0_1
 have HC1 := Aside0.mk hc0_1
 have HRN := Aside0.mk hr1
 have hmm := @run_makeMap Tryz.prog
 clear hE h hr0_0 hc0_0 hr0_1 hc0_1 hr1 hc1
 go_enter Tryz.func14, Tryz.ntmps14
 go_wp2_with fail
 have hb0 : Below w.heap.size w (w.alloc (.cells #[.slice A0_0 l0_0.length c0_0, .slice A0_1 l0_1.length c0_1, .int .i64 a0_2, .int .i64 a0_3, .int .i64 a0_4] 25)) := below_alloc (Below.refl _ _) _
 have hk0 := blk_new w (.cells #[.slice A0_0 l0_0.length c0_0, .slice A0_1 l0_1.length c0_1, .int .i64 a0_2, .int .i64 a0_3, .int .i64 a0_4] 25)
 refine (colltable_Check.calls k _ _ l0_0 _ _ l0_1 a0_2 a0_3 a0_4 e0 _ (Kd.C_below HR0.out hb0) HC0.out (Kd.C_below HR1.out hb0) HC1.out HE.out).mono ?_
 rintro e w1 ⟨rfl, hbc⟩
 have HB := Aside0.mk (below_step hb0 hbc)
 have HBK := Aside0.mk (blk_below hk0 hbc)
 clear hb0 hk0 hbc
 by_cases he : e0 = 0
 ·have H2 := Aside0.mk (by have h := H.out; rw [if_pos he] at h; exact h)
  clear H
  subst he
  obtain ⟨hcond, H3⟩ : (fits l0_1 = true ∧ l0_1.length < 20 ∧ namesFit l1 = true) ∧ ordP l0_1 l1 = (r1, r2) := by
   have h := H2.out
   split at h
   ·rename_i hc
    exact ⟨hc, Option.some.inj h⟩
   ·cases h
  have HF := Aside0.mk hcond.1
  have HL := Aside0.mk hcond.2.1
  have HNF := Aside0.mk hcond.2.2
  have HRES := Aside0.mk H3
  have hln := fits_len HF.out
  have hnn := namesFit_len HNF.out
  have hw1 : w.heap.size < w1.heap.size := blk_lt HBK.out
  clear H2 H3 hcond
  have hca : ((w1.alloc (.map #[] 0)).alloc (.cells #[.map (some w1.heap.size)] 66)).cell? ⟨w.heap.size, 1, none⟩ = some (.slice A0_1 l0_1.length c0_1) := (blk_cell (blk_alloc (blk_alloc HBK.out _) _) 1).trans rfl
  go_wp2
  -- the map's first round: each name at the number of names
  go_loopg [29] l0_1.length (fun g v29 w' => ∃ x : Nat, v29 = .int .i64 x ∧ Aside0 (g = l0_1.length - x ∧ x ≤ l0_1.length) ∧ Aside0 (MapV Tryz.prog 9 w' w1.heap.size x (mapOf (l0_1.take x) (fun _ => .int .i64 l1.length))) ∧ Aside0 (w'.heap[w1.heap.size + 1]? = some (.cells #[.map (some w1.heap.size)] 66 (0, 0))) ∧ Aside0 (w'.heap[w.heap.size]? = some (.cells #[.slice A0_0 l0_0.length c0_0, .slice A0_1 l0_1.length c0_1, .int .i64 a0_2, .int .i64 a0_3, .int .i64 a0_4] 25 (0, 0))) ∧ Aside0 (Below w.heap.size w w'))
  case atStart =>
   refine ⟨0, rfl, ⟨by simp, by omega⟩, ⟨?_⟩, ⟨?_⟩, ⟨blk_alloc (blk_alloc HBK.out _) _⟩, ⟨below_alloc (below_alloc HB.out _) _⟩⟩
   ·rw [List.take_zero, mapOf_nil]
    exact (MapV.made w1 Tryz.prog 9).alloc _
   ·have := blk_new (w1.alloc (.map #[] 0)) (.cells #[.map (some w1.heap.size)] 66)
    simpa using this
  clear hca HB HBK
  case round =>
   obtain ⟨x, rfl, HG, HM, HVK, HBK, HB⟩ := hrel
   by_cases hlt : x < l0_1.length
   ·have hltz : (x : Int) < (l0_1.length : Int) := by omega
    have p0 : 0 ≤ (x : Int) := by omega
    obtain ⟨ad, e, hx0, hx1, hx2⟩ := at_T43 HR1.out (x : Int) p0 hltz
    cases e
    replace hx0 := pw_cell_below HB.out hx0
    replace hx1 := pw_cell_below HB.out hx1
    replace hx2 := pw_cell_below HB.out hx2
    have hs := fits_size HF.out (rd_mem p0 hltz)
    have htk := take_rd p0 hltz
    rw [show ((x : Int) + 1).toNat = x + 1 by omega, Int.toNat_natCast] at htk
    have HTK := Aside0.mk htk
    obtain ⟨gx, hgx⟩ : ∃ gx, rd_T43 l0_1 (x : Int) = gx := ⟨_, rfl⟩
    rw [hgx] at hx0 hx1 hx2 hs HTK
    rw [Int.toNat_natCast] at hx0 hx1 hx2
    clear hgx htk
    have hkey := Aside0.mk (keyOf_sk (P := Tryz.prog) Tryz.underlying9 (s := gx.f0) (by unfold maxLen; omega))
    have hxm : x < maxLen := by unfold maxLen; omega
    have hcK : (wr.alloc (Obj.cells #[Value.string gx.f0, Value.int IntKind.i64 gx.f1, Value.int IntKind.i64 gx.f2] 43)).cell? ⟨w1.heap.size + 1, 0, none⟩ = some (.map (some w1.heap.size)) := (blk_cell (blk_alloc HVK.out _) 0).trans rfl
    have HM' := Aside0.mk (HM.out.alloc (Obj.cells #[Value.string gx.f0, Value.int IntKind.i64 gx.f1, Value.int IntKind.i64 gx.f2] 43))
    have HVK' := Aside0.mk (blk_alloc HVK.out (Obj.cells #[Value.string gx.f0, Value.int IntKind.i64 gx.f1, Value.int IntKind.i64 gx.f2] 43))
    have HBK' := Aside0.mk (blk_alloc HBK.out (Obj.cells #[Value.string gx.f0, Value.int IntKind.i64 gx.f1, Value.int IntKind.i64 gx.f2] 43))
    have HB' := Aside0.mk (below_alloc HB.out (Obj.cells #[Value.string gx.f0, Value.int IntKind.i64 gx.f1, Value.int IntKind.i64 gx.f2] 43))
    clear hs
    go_wp2_with (at_mapUpdate; refine wpl_put rfl _ _ _ 66 rfl 3 strK Tryz.underlying66 rfl HM'.out hxm _ _ (sk gx.f0) rfl rfl hkey.out ?_; intro w3 hm3 hg3; have HM3 := Aside0.mk hm3; have HG3 := Aside0.mk hg3; clear hm3 hg3)
    go_roundg (l0_1.length - (x + 1))
    case measure => have := HG.out; omega
    case rel =>
     refine ⟨x + 1, by go_num, ⟨rfl, by omega⟩, ⟨?_⟩, ⟨(HG3.out.block _ (blk_lt HVK'.out) (by simp)).trans HVK'.out⟩, ⟨(HG3.out.block _ (blk_lt HBK'.out) (fun e => by injection e with e; omega)).trans HBK'.out⟩, ⟨HB'.out.grown HG3.out (Nat.le_of_lt (blk_lt HBK'.out)) (fun j hj => by injection hj with hj; omega)⟩⟩
     rw [HTK.out, ← mapOf_snoc]
     exact HM3.out
   ·have hxe : x = l0_1.length := by have := HG.out; omega
    subst hxe
    rw [List.take_length] at HM
    have hv0 : (fun _ : ByteArray => Value.int .i64 (l1.length : Int)) = fun s => Value.int .i64 (valN l1 0 s) := by funext s; rw [valN_zero]
    rw [hv0] at HM
    clear hv0 hlt HG
    go_wp2
    -- is each name there?
    go_loopg [41] l1.length (fun g v41 w' => ∃ x : Nat, v41 = .int .i64 x ∧ Aside0 (g = l1.length - x ∧ x ≤ l1.length ∧ ∀ s, s ∈ l1.take x → memB s (nms l0_1) = true) ∧ Aside0 (MapV Tryz.prog 9 w' w1.heap.size l0_1.length (mapOf l0_1 (fun s => .int .i64 (valN l1 0 s)))) ∧ Aside0 (w'.heap[w1.heap.size + 1]? = some (.cells #[.map (some w1.heap.size)] 66 (0, 0))) ∧ Aside0 (w'.heap[w.heap.size]? = some (.cells #[.slice A0_0 l0_0.length c0_0, .slice A0_1 l0_1.length c0_1, .int .i64 a0_2, .int .i64 a0_3, .int .i64 a0_4] 25 (0, 0))) ∧ Aside0 (Below w.heap.size w w'))
    case atStart => exact ⟨0, rfl, ⟨by simp, by omega, fun s hs => by simp at hs⟩, HM, HVK, HBK, HB⟩
    clear HM HVK HBK HB
    case round =>
     obtain ⟨x, rfl, HG, HM, HVK, HBK, HB⟩ := hrel
     have hcK : wr.cell? ⟨w1.heap.size + 1, 0, none⟩ = some (.map (some w1.heap.size)) := (blk_cell HVK.out 0).trans rfl
     by_cases hlt : x < l1.length
     ·have hltz : (x : Int) < (l1.length : Int) := by omega
      have p0 : 0 ≤ (x : Int) := by omega
      obtain ⟨ad, e, hx0⟩ := Kd.at_string HRN.out (x : Int) p0 hltz
      cases e
      replace hx0 := pw_cell_below HB.out hx0
      have hnx : rdOf ByteArray.empty l1 (x : Int) = l1[x] := by
       unfold rdOf
       rw [Int.toNat_natCast, List.getD_eq_getElem?_getD, List.getElem?_eq_getElem hlt]
       rfl
      rw [hnx, Int.toNat_natCast] at hx0
      have hs := namesFit_size HNF.out (List.getElem_mem hlt)
      have HTN := Aside0.mk (take_name hlt)
      have HMEM := Aside0.mk (List.getElem_mem hlt)
      obtain ⟨nm, hnm⟩ : ∃ nm, l1[x] = nm := ⟨_, rfl⟩
      rw [hnm] at hx0 hs HTN HMEM
      clear hnx hnm
      have hkey := Aside0.mk (keyOf_sk (P := Tryz.prog) Tryz.underlying9 (s := nm) (by unfold maxLen; omega))
      obtain ⟨b, hb⟩ : ∃ b, memB nm (nms l0_1) = b := ⟨_, rfl⟩
      have hmo := mapOf_sk l0_1 (fun s => .int .i64 (valN l1 0 s)) nm
      rw [hb, valN_zero] at hmo
      have HMO := Aside0.mk hmo
      have HBN := Aside0.mk hb
      clear hb hmo hs
      cases b with
      | false =>
       have HO1 := Aside0.mk (show (mapOf l0_1 (fun s => .int .i64 (valN l1 0 s)) (sk nm)).getD (.int .i64 0) = .int .i64 0 by rw [HMO.out]; rfl)
       have HO2 := Aside0.mk (show (mapOf l0_1 (fun s => .int .i64 (valN l1 0 s)) (sk nm)).isSome = false by rw [HMO.out]; rfl)
       go_wp2_with (at_lookup; refine wpl_look_ok rfl _ _ 66 rfl 3 strK Tryz.underlying66 (zero_int _) rfl HM.out _ (sk nm) rfl hkey.out _ _ HO1.out HO2.out ?_)
       go_ret2
       obtain ⟨rfl, rfl⟩ : [] = r1 ∧ (6 : Int) = r2 := by
        have h := HRES.out
        unfold ordP at h
        rw [if_pos (List.any_eq_true.2 ⟨nm, HMEM.out, by rw [HBN.out]; rfl⟩)] at h
        exact ⟨congrArg Prod.fst h, congrArg Prod.snd h⟩
       exact ⟨_, rfl, Kd.R_nil _ _ _ _ _, HB.out⟩
      | true =>
       have HO1 := Aside0.mk (show (mapOf l0_1 (fun s => .int .i64 (valN l1 0 s)) (sk nm)).getD (.int .i64 0) = .int .i64 l1.length by rw [HMO.out]; rfl)
       have HO2 := Aside0.mk (show (mapOf l0_1 (fun s => .int .i64 (valN l1 0 s)) (sk nm)).isSome = true by rw [HMO.out]; rfl)
       go_wp2_with (at_lookup; refine wpl_look_ok rfl _ _ 66 rfl 3 strK Tryz.underlying66 (zero_int _) rfl HM.out _ (sk nm) rfl hkey.out _ _ HO1.out HO2.out ?_)
       go_roundg (l1.length - (x + 1))
       case measure => have := HG.out; omega
       case rel =>
        refine ⟨x + 1, by go_num, ⟨rfl, by omega, fun s hs => ?_⟩, HM, HVK, HBK, HB⟩
        rw [HTN.out] at hs
        rcases List.mem_append.1 hs with hs | hs
        ·exact HG.out.2.2 s hs
        ·rw [List.mem_singleton.1 hs]; exact HBN.out
     ·have hall : ∀ s, s ∈ l1 → memB s (nms l0_1) = true := fun s hs => HG.out.2.2 s (by rw [List.take_of_length_le (by omega)]; exact hs)
      have HALL := Aside0.mk hall
      have HNA : Aside0 (l1.any (fun s => !memB s (nms l0_1)) = false) := ⟨List.any_eq_false.2 fun s hs => by rw [hall s hs]; simp⟩
      clear hall HG
      go_wp2
      -- does a name stand twice?
      go_loopg [56] l1.length (fun g v56 w' => ∃ x : Nat, v56 = .int .i64 x ∧ Aside0 (g = l1.length - x ∧ x ≤ l1.length ∧ (l1.take x).Nodup) ∧ Aside0 (MapV Tryz.prog 9 w' w1.heap.size (l0_1.length + x) (mapOf l0_1 (fun s => .int .i64 (valN l1 x s)))) ∧ Aside0 (w'.heap[w1.heap.size + 1]? = some (.cells #[.map (some w1.heap.size)] 66 (0, 0))) ∧ Aside0 (w'.heap[w.heap.size]? = some (.cells #[.slice A0_0 l0_0.length c0_0, .slice A0_1 l0_1.length c0_1, .int .i64 a0_2, .int .i64 a0_3, .int .i64 a0_4] 25 (0, 0))) ∧ Aside0 (Below w.heap.size w w'))
      case atStart => exact ⟨0, rfl, ⟨by simp, by omega, by simp⟩, HM, HVK, HBK, HB⟩
      clear HM HVK HBK HB hcK hlt
      case round =>
       obtain ⟨x, rfl, HG, HM, HVK, HBK, HB⟩ := hrel
       have hcK : wr.cell? ⟨w1.heap.size + 1, 0, none⟩ = some (.map (some w1.heap.size)) := (blk_cell HVK.out 0).trans rfl
       by_cases hlt : x < l1.length
       ·have hltz : (x : Int) < (l1.length : Int) := by omega
        have p0 : 0 ≤ (x : Int) := by omega
        obtain ⟨ad, e, hx0⟩ := Kd.at_string HRN.out (x : Int) p0 hltz
        cases e
        replace hx0 := pw_cell_below HB.out hx0
        have hnx : rdOf ByteArray.empty l1 (x : Int) = l1[x] := by
         unfold rdOf
         rw [Int.toNat_natCast, List.getD_eq_getElem?_getD, List.getElem?_eq_getElem hlt]
         rfl
        rw [hnx, Int.toNat_natCast] at hx0
        have hs := namesFit_size HNF.out (List.getElem_mem hlt)
        have HTN := Aside0.mk (take_name hlt)
        have HMEM := Aside0.mk (List.getElem_mem hlt)
        have hst := fun h => valN_step hlt h
        obtain ⟨nm, hnm⟩ : ∃ nm, l1[x] = nm := ⟨_, rfl⟩
        rw [hnm] at hx0 hs HTN HMEM hst
        have HST := Aside0.mk hst
        clear hnx hnm hst
        have hkey := Aside0.mk (keyOf_sk (P := Tryz.prog) Tryz.underlying9 (s := nm) (by unfold maxLen; omega))
        have hmem := HALL.out nm HMEM.out
        have hmo := mapOf_sk l0_1 (fun s => .int .i64 (valN l1 x s)) nm
        rw [if_pos hmem] at hmo
        have hdc := valN_lt (names := l1) (i := x) (s := nm)
        obtain ⟨b, hb⟩ : ∃ b, memB nm (l1.take x) = b := ⟨_, rfl⟩
        rw [hb] at hdc
        obtain ⟨q, hq⟩ : ∃ q, valN l1 x nm = q := ⟨_, rfl⟩
        rw [hq] at hdc hmo
        have HO1 := Aside0.mk (show (mapOf l0_1 (fun s => .int .i64 (valN l1 x s)) (sk nm)).getD (.int .i64 0) = .int .i64 q by rw [hmo]; rfl)
        have HBN := Aside0.mk hb
        have HMM := Aside0.mk hmem
        have hxm : l0_1.length + x < maxLen := by unfold maxLen; omega
        clear hb hmo hs hmem hq
        cases b with
        | true =>
         go_wp2_with (at_lookup; refine wpl_look rfl _ _ 66 rfl 3 strK Tryz.underlying66 (zero_int _) rfl HM.out _ (sk nm) rfl hkey.out _ HO1.out ?_)
         go_ret2
         obtain ⟨rfl, rfl⟩ : [] = r1 ∧ (5 : Int) = r2 := by
          have h := HRES.out
          unfold ordP at h
          have hnd : ¬ l1.Nodup := fun hn => by
           have h2 : (l1.take (x + 1)).Nodup := hn.sublist (List.take_sublist _ _)
           rw [HTN.out, List.nodup_append] at h2
           exact h2.2.2 nm (memB_iff.1 HBN.out) nm (by simp) rfl
          rw [HNA.out, if_neg (by simp), if_pos (by simp [hnd])] at h
          exact ⟨congrArg Prod.fst h, congrArg Prod.snd h⟩
         exact ⟨_, rfl, Kd.R_nil _ _ _ _ _, HB.out⟩
        | false =>
         go_wp2_with (first | (at_lookup; refine wpl_look rfl _ _ 66 rfl 3 strK Tryz.underlying66 (zero_int _) rfl HM.out _ (sk nm) rfl hkey.out _ HO1.out ?_) | (at_mapUpdate; refine wpl_put rfl _ _ _ 66 rfl 3 strK Tryz.underlying66 rfl HM.out hxm _ _ (sk nm) rfl rfl hkey.out ?_; intro w3 hm3 hg3; have HM3 := Aside0.mk hm3; have HG3 := Aside0.mk hg3; clear hm3 hg3))
         go_roundg (l1.length - (x + 1))
         case measure => have := HG.out; omega
         case rel =>
          refine ⟨x + 1, by go_num, ⟨rfl, by omega, ?_⟩, ⟨?_⟩, ⟨(HG3.out.block _ (blk_lt HVK.out) (by simp)).trans HVK.out⟩, ⟨(HG3.out.block _ (blk_lt HBK.out) (fun e => by injection e with e; omega)).trans HBK.out⟩, ⟨HB.out.grown HG3.out (Nat.le_of_lt (blk_lt HBK.out)) (fun j hj => by injection hj with hj; omega)⟩⟩
          ·rw [HTN.out, List.nodup_append]
           refine ⟨HG.out.2.2, by simp, fun a ha b hb => ?_⟩
           rw [List.mem_singleton.1 hb]
           rintro rfl
           exact memB_false.1 HBN.out ha
          ·obtain ⟨h1, h2⟩ := HST.out HBN.out
           have h3 := mapOf_upd l0_1 (fun s => .int .i64 (valN l1 x s)) (fun s => .int .i64 (valN l1 (x + 1) s)) nm (.int .i64 (x : Int)) HMM.out (by rw [h1]) (fun s hs => by rw [h2 s hs])
           rw [← h3]
           exact HM3.out
       ·have hxe : x = l1.length := by have := HG.out; omega
        subst hxe
        have hvx : (fun s : ByteArray => Value.int .i64 (valN l1 l1.length s)) = fun s => Value.int .i64 (idxN l1 s) := by funext s; rw [valN_all]
        rw [hvx] at HM
        have hnd := HG.out.2.2
        rw [List.take_length] at hnd
        have HFIN : Aside0 (renum (rd_T43 l0_1 0).f1 (sortG l1 l0_1) = r1 ∧ (0 : Int) = r2) := ⟨by
         have h := HRES.out
         unfold ordP at h
         rw [HNA.out, if_neg (by simp), if_neg (by simp [hnd])] at h
         exact ⟨congrArg Prod.fst h, congrArg Prod.snd h⟩⟩
        have hca : wr.cell? ⟨w.heap.size, 1, none⟩ = some (.slice A0_1 l0_1.length c0_1) := (blk_cell HBK.out 1).trans rfl
        clear hvx hnd HG hlt hcK
        go_wp2_with fail
        refine (api_Group_27.calls A0_1 c0_1 l0_1 l0_1 _ (Kd.C_below HR1.out HB.out) HC1.out (by unfold api_Group_27.f; rw [if_pos (by have := HL.out; omega)])).mono ?_
        rintro e w2 ⟨v0, rfl, hR, hb2⟩
        have HR2 := Aside0.mk (Kd.R_lower hR HB.out.size)
        have HM2 := Aside0.mk (HM.out.below hb2)
        have HVK2 := Aside0.mk (blk_below HVK.out hb2)
        have HBK2 := Aside0.mk (blk_below HBK.out hb2)
        have HB2 := Aside0.mk (below_step HB.out hb2)
        clear hR hb2 HM HVK HBK HB hca
        go_wp2_with fail
        refine (order_sort l1 l0_1 hnn HF.out HL.out w2 w1.heap.size (w1.heap.size + 1) _ w.heap.size v0 HR2.out HVK2.out HM2.out).mono ?_
        rintro e w3 ⟨rfl, hR3, hg3⟩
        have HR3 := Aside0.mk hR3
        have HBK3 : Aside0 (w3.heap[w.heap.size]? = some (.cells #[.slice A0_0 l0_0.length c0_0, .slice A0_1 l0_1.length c0_1, .int .i64 a0_2, .int .i64 a0_3, .int .i64 a0_4] 25 (0, 0))) := ⟨(hg3.block _ (blk_lt HBK2.out) (Kd.R_ne HR2.out HBK2.out (by decide))).trans HBK2.out⟩
        have HB3 := Aside0.mk (HB2.out.grown hg3 HB2.out.size (Kd.R_base HR2.out))
        clear hR3 hg3 HR2 HM2 HVK2 HBK2 HB2
        have hsl := sortG_length l1 l0_1
        obtain ⟨S, hS⟩ : ∃ S, sortG l1 l0_1 = S := ⟨_, rfl⟩
        rw [hS] at HR3 HFIN hsl
        clear hS
        by_cases hz : l0_1.length = 0
        ·obtain ⟨A, c, rfl, _⟩ := Kd.R_reads HR3.out
         obtain rfl : S = [] := List.eq_nil_of_length_eq_zero (by omega)
         clear hsl hz
         go_wp2
         go_ret2
         obtain ⟨rfl, rfl⟩ := HFIN.out
         exact ⟨_, rfl, Kd.R_nil _ _ _ _ _, HB3.out⟩
        ·obtain ⟨gr, c, rfl, hgr⟩ := Kd.R_at HR3.out (by omega)
         have hnz : (S.length == 0) = false := beq_eq_false_iff_ne.2 (by omega)
         have hnz2 : ((S.length : Int) == 0) = false := beq_eq_false_iff_ne.2 (by omega)
         have hp0 : (0 : Int) < (l0_1.length : Int) := by omega
         have hp1 : 0 < l0_1.length := by omega
         obtain ⟨ad0, e, hz0, hz1, hz2⟩ := at_T43 HR1.out 0 (by omega) hp0
         cases e
         replace hz1 := pw_cell_below HB3.out hz1
         have hca : w3.cell? ⟨w.heap.size, 1, none⟩ = some (.slice (some ad0) l0_1.length c0_1) := (blk_cell HBK3.out 1).trans rfl
         have HSL := Aside0.mk hsl
         obtain ⟨a0, ha0⟩ : ∃ a0, (rd_T43 l0_1 0).f1 = a0 := ⟨_, rfl⟩
         rw [ha0] at hz1 HFIN
         rw [show ad0.add ((0 : Int).toNat * 3) = ad0 by unfold Addr.add; simp] at hz1
         clear hz hz0 hz2 hsl ha0
         go_wp2
         go_loopg [17, 87] S.length (fun g v17 v87 w' => ∃ (x : Nat) (p : Int) (dn : List S43), v17 = .int .i64 p ∧ v87 = .int .i64 x ∧ Aside0 (g = S.length - x ∧ x ≤ S.length ∧ dn.length = x ∧ renum a0 S = dn ++ renum p (S.drop x)) ∧ Aside0 (Kd.R k43 43 w' w.heap.size (fun _ => True) (.slice (some ⟨gr, 0, none⟩) S.length c) (dn ++ S.drop x)) ∧ Aside0 (Below w.heap.size w w'))
         case atStart => exact ⟨0, a0, [], rfl, rfl, ⟨by simp, by omega, rfl, rfl⟩, HR3, HB3⟩
         clear HR3 HB3 HBK3 hz1 hca
         case round =>
          obtain ⟨x, p, dn, rfl, rfl, HG, HR, HB⟩ := hrel
          have hxb : S.length < 20 := by have := HL.out; have := HSL.out; omega
          by_cases hlt : x < S.length
          ·have hltz : (x : Int) < (S.length : Int) := by omega
           have p0 : 0 ≤ (x : Int) := by omega
           have hcl : (dn ++ S.drop x).length = S.length := by rw [List.length_append, List.length_drop]; have := HG.out; omega
           have hgx : (dn ++ S.drop x)[x]? = some S[x] := by
            rw [List.getElem?_append_right (by have := HG.out; omega), List.getElem?_drop]
            rw [show x + (x - dn.length) = x by have := HG.out; omega, List.getElem?_eq_getElem hlt]
           obtain ⟨gx, hgx2⟩ : ∃ gx, S[x] = gx := ⟨_, rfl⟩
           rw [hgx2] at hgx
           have HSX := Aside0.mk hgx2
           obtain ⟨hcs, hfz⟩ := Kd.R_cells (d := k43) (enc := encG) (k := 3) rfl (fun _ _ _ h => k43_open h) HR.out hgx
           have HCS := Aside0.mk hcs
           have HGX := Aside0.mk hgx
           have hy0 : wr.cell? ⟨gr, x * 3, none⟩ = some (.string gx.f0) := hcs 0 _ rfl
           have hy1 : wr.cell? ⟨gr, x * 3 + 1, none⟩ = some (.int .i64 gx.f1) := hcs 1 _ rfl
           have hy2 : wr.cell? ⟨gr, x * 3 + 2, none⟩ = some (.int .i64 gx.f2) := hcs 2 _ rfl
           clear hcs hfz hgx hgx2
           go_wp2
           have HR5 := Aside0.mk (Kd.R_below HR.out (below_alloc (Below.refl _ _) (.cells #[.string gx.f0, .int .i64 gx.f1, .int .i64 gx.f2] 43)))
           have HB5 := Aside0.mk (below_alloc HB.out (.cells #[.string gx.f0, .int .i64 gx.f1, .int .i64 gx.f2] 43))
           have hcp := blk_new wr (.cells #[.string gx.f0, .int .i64 gx.f1, .int .i64 gx.f2] 43)
           generalize wr.alloc (.cells #[.string gx.f0, .int .i64 gx.f1, .int .i64 gx.f2] 43) = w5 at HR5 HB5 hcp ⊢
           obtain ⟨hcs, hfz⟩ := Kd.R_cells (d := k43) (enc := encG) (k := 3) rfl (fun _ _ _ h => k43_open h) HR5.out HGX.out
           have hd1 : w5.cell? ⟨wr.heap.size, 1, none⟩ = some (.int .i64 gx.f1) := (blk_cell hcp 1).trans rfl
           have hd2 : w5.cell? ⟨wr.heap.size, 2, none⟩ = some (.int .i64 gx.f2) := (blk_cell hcp 2).trans rfl
           have hz1 : w5.cell? ⟨gr, x * 3 + 1, none⟩ = some (.int .i64 gx.f1) := hcs 1 _ rfl
           have hz2 : w5.cell? ⟨gr, x * 3 + 2, none⟩ = some (.int .i64 gx.f2) := hcs 2 _ rfl
           have hf1 := hfz (x * 3 + 1)
           have hf2 := hfz (x * 3 + 2)
           have hne : wr.heap.size ≠ gr := fun e => by
            obtain ⟨inner, ho⟩ := Kd.R_own HR.out
            have := own_lt ho gr rfl
            omega
           have hne2 : gr ≠ wr.heap.size := fun e => hne e.symm
           clear hcs hfz hcp hy0 hy1 hy2
           go_region
           obtain ⟨q, hq⟩ : ∃ q, wrap64 (wrap64 (p + gx.f2) - gx.f1) = q := ⟨_, rfl⟩
           rw [hq]
           have hseg := Kd.R_seg (d := k43) (i := (x : Int)) (c := encG gx) (seg := [.int .i64 p, .int .i64 q]) (j := 1) (x' := (⟨gx.f0, p, q⟩ : S43)) (okp := fun k => k ≠ gr) HR5.out p0 hltz rfl (fun j u hu => by rw [Int.toNat_natCast]; exact (Kd.R_cells (d := k43) (enc := encG) (k := 3) rfl (fun _ _ _ h => k43_open h) HR5.out HGX.out).1 j u hu) (by show 1 + 2 ≤ 3; omega) (k43_mkM _ _ _ (⟨gx.f0, p, q⟩ : S43)) (fun k hk => ⟨trivial, hk⟩)
           rw [Int.toNat_natCast] at hseg
           obtain ⟨hr6, hg6⟩ := hseg
           have hr6' : Kd.R k43 43 ((w5.setCell ⟨gr, x * 3 + 1, none⟩ (.int .i64 p)).setCell ⟨gr, x * 3 + 2, none⟩ (.int .i64 q)).drew w.heap.size (fun _ => True) (.slice (some ⟨gr, 0, none⟩) S.length c) ((dn ++ S.drop x).set x ⟨gx.f0, p, q⟩) := hr6
           have hb6 : Below w.heap.size w ((w5.setCell ⟨gr, x * 3 + 1, none⟩ (.int .i64 p)).setCell ⟨gr, x * 3 + 2, none⟩ (.int .i64 q)).drew := below_drew (HB5.out.grown hg6 HB5.out.size (fun j hj => by injection hj with hj; omega))
           clear hr6 hg6 hd1 hd2 hz1 hz2 hf1 hf2
           generalize ((w5.setCell ⟨gr, x * 3 + 1, none⟩ (.int .i64 p)).setCell ⟨gr, x * 3 + 2, none⟩ (.int .i64 q)).drew = w6 at hr6' hb6 ⊢
           have hset : (dn ++ S.drop x).set x ⟨gx.f0, p, q⟩ = (dn ++ [⟨gx.f0, p, q⟩]) ++ S.drop (x + 1) := by
            rw [List.drop_eq_getElem_cons hlt, List.set_append_right _ _ (by have := HG.out; omega), show x - dn.length = 0 by have := HG.out; omega, List.set_cons_zero]
            simp
           have HRN : Aside0 (renum a0 S = (dn ++ [⟨gx.f0, p, q⟩]) ++ renum (wrap64 (q + 1)) (S.drop (x + 1))) := ⟨by
            rw [HG.out.2.2.2, List.drop_eq_getElem_cons hlt, HSX.out]
            simp only [renum, hq]
            simp⟩
           rw [hset] at hr6'
           have HR6 := Aside0.mk hr6'
           have HB6 := Aside0.mk hb6
           have hgy : ((dn ++ [(⟨gx.f0, p, q⟩ : S43)]) ++ S.drop (x + 1))[x]? = some ⟨gx.f0, p, q⟩ := by
            rw [List.getElem?_append_left (by simp; have := HG.out; omega), List.getElem?_append_right (by have := HG.out; omega), show x - dn.length = 0 by have := HG.out; omega]
            rfl
           have hcq : w6.cell? ⟨gr, x * 3 + 2, none⟩ = some (.int .i64 q) := (Kd.R_cells (d := k43) (enc := encG) (k := 3) rfl (fun _ _ _ h => k43_open h) HR6.out hgy).1 2 _ rfl
           clear hq hset hr6' hb6 hgy
           go_wp2
           go_roundg (S.length - (x + 1))
           case measure => have := HG.out; omega
           case rel => exact ⟨x + 1, wrap64 (q + 1), dn ++ [⟨gx.f0, p, q⟩], rfl, by go_num, ⟨rfl, by omega, by simp; have := HG.out; omega, HRN.out⟩, HR6, HB6⟩
          ·have hxe : x = S.length := by have := HG.out; omega
           have HD : Aside0 (dn ++ S.drop x = renum a0 S) := ⟨by rw [HG.out.2.2.2, hxe, List.drop_length]; simp [renum]⟩
           clear hxe
           go_wp2
           go_ret2
           obtain ⟨rfl, rfl⟩ := HFIN.out
           exact ⟨_, rfl, by have h := HR.out; rw [HD.out] at h; exact h, HB.out⟩
 ·have H2 := Aside0.mk (by have h := H.out; rw [if_neg he] at h; exact h)
  have he2 : (e0 != 0) = true := bne_iff_ne.2 he
  clear H
  go_wp2
  go_ret2
  obtain ⟨rfl, rfl⟩ : [] = r1 ∧ e0 = r2 := by
   have h := Option.some.inj H2.out
   exact ⟨congrArg Prod.fst h, congrArg Prod.snd h⟩
  exact ⟨_, rfl, Kd.R_nil _ _ _ _ _, HB.out⟩
end Go.Proofs.YtfcpebjjcijgcaaGreatDoor.G
-- '==' of structs: printed by gprint.py
namespace Go.Proofs.YtfcpebjjcijgcaaGreatDoor.G
open Go.RowKit Go.Proofs.YtfcpebjjcijgcaaGreatDoorW.PrintWords Go.Proofs.YtfcpebjjcijgcaaGreatDoorW.PrintLast Go.Proofs.YtfcpebjjcijgcaaGreatDoorW.PrintMore
attribute [local go_sem] max2_int min2_int max_two min_two max_three min_three max_four min_four   -- for this text's walks alone
set_option linter.unusedVariables false
set_option linter.unusedSimpArgs false
theorem eqA43 (d : Nat) (w : World) (x0 y0 : ByteArray) (x1 y1 : Int) (x2 y2 : Int) :
    (Op.equalIn (d + 2) 43 (.agg #[.string x0, .int .i64 x1, .int .i64 x2]) (.agg #[.string y0, .int .i64 y1, .int .i64 y2])).run Tryz.prog w = .ok (x0.toList == y0.toList && (x1 == y1 && (x2 == y2))) w := by
  refine eqA_of Tryz.underlying43 (by kernel_rfl) ?_
  refine eqf_cons (by rfl) (by go_simp; rfl) (by go_simp; rfl) (by go_simp) ?_
  refine eqf_cons (by rfl) (by go_simp; rfl) (by go_simp; rfl) (by go_simp) ?_
  exact eqf_last (by rfl) (by go_simp; rfl) (by go_simp; rfl) (by go_simp)
end Go.Proofs.YtfcpebjjcijgcaaGreatDoor.G
-- unicodetext/unicodetextref47.SameGroups: printed by gprint.py
namespace Go.Proofs.YtfcpebjjcijgcaaGreatDoor.G
open Go.RowKit Go.Proofs.YtfcpebjjcijgcaaGreatDoorW.PrintWords Go.Proofs.YtfcpebjjcijgcaaGreatDoorW.PrintLast Go.Proofs.YtfcpebjjcijgcaaGreatDoorW.PrintMore
attribute [local go_sem] max2_int min2_int max_two min_two max_three min_three max_four min_four   -- for this text's walks alone
set_option linter.unusedVariables false
set_option linter.unusedSimpArgs false
attribute [local go_sem high] eqA43
/-! ### unicodetextref47_SameGroups: function 15 -/
def unicodetextref47_SameGroups.l0 : Nat → List (S43) → List (S43) → Int → Option (Bool)
  | 0, _, _, _ => none
  | k + 1, x0, x1, x5 => if x5 < (x0.length : Int) then (if 0 ≤ x5 then (if x5 < (x1.length : Int) then (if (!((((rd_T43 x0 x5).f0).toList) == (((rd_T43 x1 x5).f0).toList)) || (!(((rd_T43 x0 x5).f1) == ((rd_T43 x1 x5).f1)) || (!(((rd_T43 x0 x5).f2) == ((rd_T43 x1 x5).f2))))) = true then (some false) else (unicodetextref47_SameGroups.l0 k x0 x1 (wrap64 (x5 + 1)))) else (none)) else (none)) else (some true)
def unicodetextref47_SameGroups.f (k : Nat) (l0 : List (S43)) (l1 : List (S43)) : Option (Bool) := if (l0.length : Int) = (l1.length : Int) then (unicodetextref47_SameGroups.l0 k l0 l1 0) else (some false)
set_option maxHeartbeats 8000000 in
set_option maxRecDepth 100000 in
theorem unicodetextref47_SameGroups.calls (k : Nat) (A0 : Option Addr) (c0 : Nat) (l0 : List (S43)) (A1 : Option Addr) (c1 : Nat) (l1 : List (S43)) (r : Bool) (w : World) (hr0 : Kd.C k43 w A0 l0.length l0) (hc0 : l0.length ≤ c0) (hr1 : Kd.C k43 w A1 l1.length l1) (hc1 : l1.length ≤ c1) (h : unicodetextref47_SameGroups.f k l0 l1 = some r) :
    Calls Tryz.prog 15 #[.slice A0 l0.length c0, .slice A1 l1.length c1] w fun e w' => e = .returned (.bool r) ∧ Drawn0 w w' := by
  have hu43 := Tryz.underlying43
  have HR0 := Aside0.mk hr0
  have HC0 := Aside0.mk hc0
  clear hr0 hc0
  have HR1 := Aside0.mk hr1
  have HC1 := Aside0.mk hc1
  clear hr1 hc1
  have H : (if (l0.length : Int) = (l1.length : Int) then (unicodetextref47_SameGroups.l0 k l0 l1 0) else (some false)) = some r := h
  clear h
  by_cases c3 : (l0.length : Int) = (l1.length : Int)
  · rw [if_pos c3] at H
    have c3b0 : ((l0.length : Int) == (l1.length : Int)) = true := beq_iff_eq.mpr c3
    have c3b1 : ((l0.length : Int) != (l1.length : Int)) = false := bne_eq_false_iff_eq.mpr c3
    have c3b2 : (l0.length == l1.length) = true := by first | simpa using c3 | (simp at c3 ⊢; omega)
    clear c3
    have H' := Aside0.mk H
    clear H
    go_enter Tryz.func15, Tryz.ntmps15
    go_wp2
    repeat (go_quiet (fail); try go_wp2)
    go_loopg [5] k (fun kq v5 w' => ∃ (x5_1 : Int), v5 = .int .i64 x5_1 ∧ Aside0 (unicodetextref47_SameGroups.l0 kq l0 l1 x5_1 = some r) ∧ Aside0 (kq ≤ k) ∧ Drawn0 w w')
    case atStart => exact ⟨(0), (by first | rfl | (simp; done) | (simp [*]; done)), H', ⟨Nat.le_refl _⟩, by repeat (first | exact Drawn0.refl _ | apply Drawn0.step)⟩
    case round =>
      clear H'
      try clear c1
      try clear p2
      try clear c3
      try clear c3b0
      try clear c3b1
      try clear c3b2
      obtain ⟨x5_1, rfl, HA, HK1, ⟨m1, rfl⟩⟩ := hrel
      cases gk with
      | zero => exact absurd HA.out (by simp [unicodetextref47_SameGroups.l0])
      | succ k1 =>
        have H := HA.out
        clear HA
        simp only [unicodetextref47_SameGroups.l0] at H
        by_cases c4 : x5_1 < (l0.length : Int)
        · rw [if_pos c4] at H
          have c4b0 : decide (x5_1 < (l0.length : Int)) = true := decide_eq_true c4
          clear c4
          by_cases c5 : 0 ≤ x5_1
          · rw [if_pos c5] at H
            have c5b0 : decide (0 ≤ x5_1) = true := decide_eq_true c5
            clear c5
            by_cases c6 : x5_1 < (l1.length : Int)
            · rw [if_pos c6] at H
              have c6b0 : decide (x5_1 < (l1.length : Int)) = true := decide_eq_true c6
              clear c6
              by_cases c7 : (!((((rd_T43 l0 x5_1).f0).toList) == (((rd_T43 l1 x5_1).f0).toList)) || (!(((rd_T43 l0 x5_1).f1) == ((rd_T43 l1 x5_1).f1)) || (!(((rd_T43 l0 x5_1).f2) == ((rd_T43 l1 x5_1).f2))))) = true
              · rw [if_pos c7] at H
                have c7b0 : (!((((rd_T43 l0 x5_1).f0).toList) == (((rd_T43 l1 x5_1).f0).toList)) || (!(((rd_T43 l0 x5_1).f1) == ((rd_T43 l1 x5_1).f1)) || (!(((rd_T43 l0 x5_1).f2) == ((rd_T43 l1 x5_1).f2))))) = true := c7
                clear c7
                obtain rfl := Option.some.inj H
                have p101 : 0 ≤ (x5_1 : Int) := of_decide_eq_true (by first | (with_reducible assumption) | assumption)
                have q101 : x5_1 < (l0.length : Int) := of_decide_eq_true (by first | (with_reducible assumption) | assumption)
                obtain ⟨ad101, e101, hx101_0, hx101_1, hx101_2⟩ := at_T43 HR0.out x5_1 p101 q101
                cases e101
                replace p101 := eq_true p101
                replace q101 := eq_true q101
                have p102 : 0 ≤ (x5_1 : Int) := of_decide_eq_true (by first | (with_reducible assumption) | assumption)
                have q102 : x5_1 < (l1.length : Int) := of_decide_eq_true (by first | (with_reducible assumption) | assumption)
                obtain ⟨ad102, e102, hx102_0, hx102_1, hx102_2⟩ := at_T43 HR1.out x5_1 p102 q102
                cases e102
                replace p102 := eq_true p102
                replace q102 := eq_true q102
                go_wp2
                repeat (go_quiet (fail); try go_wp2)
                go_ret
                exact ⟨by first | rfl | (simp; done) | (simp [*]; done), by repeat (first | exact Drawn0.refl _ | apply Drawn0.step)⟩
              · rw [if_neg c7] at H
                have c7b0 : (!((((rd_T43 l0 x5_1).f0).toList) == (((rd_T43 l1 x5_1).f0).toList)) || (!(((rd_T43 l0 x5_1).f1) == ((rd_T43 l1 x5_1).f1)) || (!(((rd_T43 l0 x5_1).f2) == ((rd_T43 l1 x5_1).f2))))) = false := by simpa using c7
                clear c7
                have H' := Aside0.mk H
                clear H
                have p101 : 0 ≤ (x5_1 : Int) := of_decide_eq_true (by first | (with_reducible assumption) | assumption)
                have q101 : x5_1 < (l0.length : Int) := of_decide_eq_true (by first | (with_reducible assumption) | assumption)
                obtain ⟨ad101, e101, hx101_0, hx101_1, hx101_2⟩ := at_T43 HR0.out x5_1 p101 q101
                cases e101
                replace p101 := eq_true p101
                replace q101 := eq_true q101
                have p102 : 0 ≤ (x5_1 : Int) := of_decide_eq_true (by first | (with_reducible assumption) | assumption)
                have q102 : x5_1 < (l1.length : Int) := of_decide_eq_true (by first | (with_reducible assumption) | assumption)
                obtain ⟨ad102, e102, hx102_0, hx102_1, hx102_2⟩ := at_T43 HR1.out x5_1 p102 q102
                cases e102
                replace p102 := eq_true p102
                replace q102 := eq_true q102
                go_wp2
                repeat (go_quiet (fail); try go_wp2)
                go_roundg k1
                case measure => have := HK1.out; omega
                case rel => exact ⟨(wrap64 (x5_1 + 1)), (by first | rfl | (simp; done) | (simp [*]; done)), H', ⟨by have := HK1.out; omega⟩, by repeat (first | exact Drawn0.refl _ | apply Drawn0.step)⟩
            · rw [if_neg c6] at H
              exact absurd H (by simp)
          · rw [if_neg c5] at H
            exact absurd H (by simp)
        · rw [if_neg c4] at H
          have c4b0 : decide (x5_1 < (l0.length : Int)) = false := decide_eq_false c4
          clear c4
          obtain rfl := Option.some.inj H
          go_wp2
          repeat (go_quiet (fail); try go_wp2)
          go_ret
          exact ⟨by first | rfl | (simp; done) | (simp [*]; done), by repeat (first | exact Drawn0.refl _ | apply Drawn0.step)⟩
  · rw [if_neg c3] at H
    have c3b0 : ((l0.length : Int) == (l1.length : Int)) = false := beq_eq_false_iff_ne.mpr c3
    have c3b1 : ((l0.length : Int) != (l1.length : Int)) = true := bne_iff_ne.mpr c3
    have c3b2 : (l0.length == l1.length) = false := by first | simpa using c3 | (simp at c3 ⊢; omega)
    obtain rfl := Option.some.inj H
    go_enter Tryz.func15, Tryz.ntmps15
    go_wp2
    repeat (go_quiet (fail); try go_wp2)
    go_ret
    exact ⟨by first | rfl | (simp; done) | (simp [*]; done), by repeat (first | exact Drawn0.refl _ | apply Drawn0.step)⟩
end Go.Proofs.YtfcpebjjcijgcaaGreatDoor.G
-- unicodetext/groups.mover: by hand
namespace Go.Proofs.YtfcpebjjcijgcaaGreatDoor.G
open Go.RowKit Go.Proofs.YtfcpebjjcijgcaaGreatDoorW.PrintWords Go.Proofs.YtfcpebjjcijgcaaGreatDoorW.PrintLast Go.Proofs.YtfcpebjjcijgcaaGreatDoorW.PrintMore
attribute [local go_sem] max2_int min2_int max_two min_two max_three min_three max_four min_four   -- for this text's walks alone
set_option linter.unusedVariables false
set_option linter.unusedSimpArgs false
/-- Where a group of that name begins (the last of that name). -/
def loL (l : List S43) (s : ByteArray) : Int := l.foldl (fun acc g => if g.f0 = s then g.f1 else acc) 0
theorem loL_snoc (l : List S43) (g : S43) (s : ByteArray) : loL (l ++ [g]) s = if g.f0 = s then g.f1 else loL l s := by simp [loL]
def lov (l : List S43) (s : ByteArray) : Value := .int .i64 (loL l s)
theorem mapOf_lo (l : List S43) (g : S43) : upd (mapOf l (lov l)) (sk g.f0) (.int .i64 g.f1) = mapOf (l ++ [g]) (lov (l ++ [g])) := by
  refine mapOf_ext fun s => ?_
  rw [memB_snoc]
  unfold lov
  rw [loL_snoc]
  by_cases e : s = g.f0
  · subst e
    simp
  · have h : decide (g.f0 = s) = false := decide_eq_false (fun z => e z.symm)
    rw [if_neg e, h, Bool.or_false, if_neg (show ¬ g.f0 = s from fun z => e z.symm)]
/-- The weight in its new place. -/
def moveP (old fresh : List S43) (x : Int) : Int :=
  match old.find? fun g => decide (g.f1 ≤ x) && decide (x ≤ g.f2) with
  | some g => wrap64 (wrap64 (x - g.f1) + if memB g.f0 (nms fresh) = true then loL fresh g.f0 else 0)
  | none => x
/-- What a mover leans on. -/
structure MoverAt (W : World) (gO gK gM : Nat) (A0 : Option Addr) (c0 : Nat) (old fresh : List S43) : Prop where
  o : W.heap[gO]? = some (.cells #[.slice A0 old.length c0] 23 (0, 0))
  k : W.heap[gK]? = some (.cells #[.map (some gM)] 66 (0, 0))
  m : MapV Tryz.prog 9 W gM fresh.length (mapOf fresh (lov fresh))
  c : Kd.C k43 W A0 old.length old
set_option maxHeartbeats 1000000 in
theorem mover1_calls (W : World) (gO gK gM : Nat) (A0 : Option Addr) (c0 : Nat) (old fresh : List S43) (hf : fits old = true) (x : Int) (h : MoverAt W gO gK gM A0 c0 old fresh) :
    Calls Tryz.prog 48 #[.int .i64 x, .pointer (some ⟨gO, 0, none⟩), .pointer (some ⟨gK, 0, none⟩)] W fun e w' => e = .returned (.int .i64 (moveP old fresh x)) ∧ Below W.heap.size W w' := by
  have H := Aside0.mk h
  have HF := Aside0.mk hf
  have hln := fits_len hf
  have hc0 : W.cell? ⟨gO, 0, none⟩ = some (.slice A0 old.length c0) := (blk_cell h.o 0).trans rfl
  clear h hf
  go_enter Tryz.func48, Tryz.ntmps48
  go_wp2
  go_loopg [9] old.length (fun g v9 w' => ∃ i : Nat, v9 = .int .i64 i ∧ Aside0 (g = old.length - i ∧ i ≤ old.length ∧ ∀ g, g ∈ old.take i → (decide (g.f1 ≤ x) && decide (x ≤ g.f2)) = false) ∧ Aside0 (Below W.heap.size W w'))
  case atStart => exact ⟨0, rfl, ⟨by simp, by omega, fun g hg => by simp at hg⟩, ⟨Below.refl _ _⟩⟩
  clear hc0
  case round =>
    obtain ⟨i, rfl, HG, HB⟩ := hrel
    by_cases hlt : i < old.length
    · have hltz : (i : Int) < (old.length : Int) := by omega
      have p0 : 0 ≤ (i : Int) := by omega
      obtain ⟨ad, e, hx0, hx1, hx2⟩ := at_T43 H.out.c (i : Int) p0 hltz
      cases e
      replace hx0 := pw_cell_below HB.out hx0
      replace hx1 := pw_cell_below HB.out hx1
      replace hx2 := pw_cell_below HB.out hx2
      have hs := fits_size HF.out (rd_mem p0 hltz)
      have htk := take_rd p0 hltz
      have hgt := rd_get p0 hltz
      rw [show ((i : Int) + 1).toNat = i + 1 by omega, Int.toNat_natCast] at htk
      rw [Int.toNat_natCast] at hx0 hx1 hx2 hgt
      obtain ⟨gx, hgx⟩ : ∃ gx, rd_T43 old (i : Int) = gx := ⟨_, rfl⟩
      rw [hgx] at hx0 hx1 hx2 hs htk hgt
      have HTK := Aside0.mk htk
      have HGT := Aside0.mk hgt
      clear hgx htk hgt
      have hfind : (decide (gx.f1 ≤ x) && decide (x ≤ gx.f2)) = true → old.find? (fun g => decide (g.f1 ≤ x) && decide (x ≤ g.f2)) = some gx := fun hp => by
        rw [List.find?_eq_some_iff_getElem]
        obtain ⟨hi2, he⟩ := List.getElem?_eq_some_iff.1 HGT.out
        refine ⟨hp, i, hi2, he, fun j hj => ?_⟩
        have := HG.out.2.2 old[j] (by
          have h2 : j < (old.take i).length := by rw [List.length_take]; omega
          have := List.getElem_mem h2
          rwa [List.getElem_take] at this)
        rw [this]
        rfl
      have HFD := Aside0.mk hfind
      clear hfind
      have hkey := Aside0.mk (keyOf_sk (P := Tryz.prog) Tryz.underlying9 (s := gx.f0) (by unfold maxLen; omega))
      by_cases h1 : gx.f1 ≤ x
      · have h1' : decide (gx.f1 ≤ x) = true := decide_eq_true h1
        by_cases h2 : x ≤ gx.f2
        · have h2' : decide (x ≤ gx.f2) = true := decide_eq_true h2
          have hcK : (wr.alloc (Obj.cells #[Value.string gx.f0, Value.int IntKind.i64 gx.f1, Value.int IntKind.i64 gx.f2] 43)).cell? ⟨gK, 0, none⟩ = some (.map (some gM)) := (blk_cell (blk_alloc (blk_below H.out.k HB.out) _) 0).trans rfl
          have HM := Aside0.mk ((H.out.m.below HB.out).alloc (Obj.cells #[Value.string gx.f0, Value.int IntKind.i64 gx.f1, Value.int IntKind.i64 gx.f2] 43))
          obtain ⟨q, hq⟩ : ∃ q, (if memB gx.f0 (nms fresh) = true then loL fresh gx.f0 else 0) = q := ⟨_, rfl⟩
          have HV := Aside0.mk (show (mapOf fresh (lov fresh) (sk gx.f0)).getD (.int .i64 0) = .int .i64 q by
            rw [mapOf_sk, ← hq]
            unfold lov
            split <;> rfl)
          have HRES := Aside0.mk (show moveP old fresh x = wrap64 (wrap64 (x - gx.f1) + q) by
            unfold moveP
            rw [HFD.out (by rw [h1', h2']; rfl)]
            show wrap64 _ = _
            rw [hq])
          clear hq hs
          go_wp2_with (at_lookup; refine wpl_look rfl _ _ 66 rfl 3 strK Tryz.underlying66 (zero_int _) rfl HM.out _ (sk gx.f0) rfl hkey.out _ HV.out ?_)
          go_ret
          exact ⟨by rw [HRES.out]; rfl, below_alloc HB.out _⟩
        · have h2' : decide (x ≤ gx.f2) = false := decide_eq_false h2
          go_wp2
          go_roundg (old.length - (i + 1))
          case measure => have := HG.out; omega
          case rel =>
            refine ⟨i + 1, by go_num, ⟨rfl, by omega, fun g hg => ?_⟩, ⟨below_alloc HB.out _⟩⟩
            rw [HTK.out] at hg
            rcases List.mem_append.1 hg with hg | hg
            · exact HG.out.2.2 g hg
            · rw [List.mem_singleton.1 hg, h2', Bool.and_false]
      · have h1' : decide (gx.f1 ≤ x) = false := decide_eq_false h1
        go_wp2
        go_roundg (old.length - (i + 1))
        case measure => have := HG.out; omega
        case rel =>
          refine ⟨i + 1, by go_num, ⟨rfl, by omega, fun g hg => ?_⟩, ⟨below_alloc HB.out _⟩⟩
          rw [HTK.out] at hg
          rcases List.mem_append.1 hg with hg | hg
          · exact HG.out.2.2 g hg
          · rw [List.mem_singleton.1 hg, h1', Bool.false_and]
    · have HRES := Aside0.mk (show moveP old fresh x = x by
        unfold moveP
        rw [List.find?_eq_none.2 (fun g hg => by
          rw [HG.out.2.2 g (by rw [List.take_of_length_le (by have := HG.out; omega)]; exact hg)]
          simp)])
      go_wp2
      go_ret
      exact ⟨by rw [HRES.out]; rfl, HB.out⟩
set_option maxHeartbeats 1000000 in
theorem mover_calls (A0 : Option Addr) (c0 : Nat) (old : List S43) (A1 : Option Addr) (c1 : Nat) (fresh : List S43) (w : World) (hr0 : Kd.C k43 w A0 old.length old) (hr1 : Kd.C k43 w A1 fresh.length fresh) (hf : fits fresh = true) :
    Calls Tryz.prog 30 #[.slice A0 old.length c0, .slice A1 fresh.length c1] w fun e w' => ∃ gO gK gM : Nat, e = .returned (.func (.func 48) #[] #[.pointer (some ⟨gO, 0, none⟩), .pointer (some ⟨gK, 0, none⟩)]) ∧ MoverAt w' gO gK gM A0 c0 old fresh ∧ w.heap.size ≤ gO ∧ w.heap.size ≤ gK ∧ w.heap.size ≤ gM ∧ Below w.heap.size w w' := by
  have HR0 := Aside0.mk hr0
  have HR1 := Aside0.mk hr1
  have HF := Aside0.mk hf
  have hln := fits_len hf
  have hmm := @run_makeMap Tryz.prog
  clear hr0 hr1 hf
  go_enter Tryz.func30, Tryz.ntmps30
  go_wp2
  go_loopg [11] fresh.length (fun g v11 w' => ∃ x : Nat, v11 = .int .i64 x ∧ Aside0 (g = fresh.length - x ∧ x ≤ fresh.length) ∧ Aside0 (MapV Tryz.prog 9 w' (w.heap.size + 1) x (mapOf (fresh.take x) (lov (fresh.take x)))) ∧ Aside0 (w'.heap[w.heap.size + 2]? = some (.cells #[.map (some (w.heap.size + 1))] 66 (0, 0))) ∧ Aside0 (w'.heap[w.heap.size]? = some (.cells #[.slice A0 old.length c0] 23 (0, 0))) ∧ Aside0 (Below w.heap.size w w'))
  case atStart =>
    refine ⟨0, rfl, ⟨by simp, by omega⟩, ⟨?_⟩, ⟨?_⟩, ⟨blk_alloc (blk_alloc (blk_new w _) _) _⟩, ⟨below_alloc (below_alloc (below_alloc (Below.refl _ _) _) _) _⟩⟩
    · rw [List.take_zero, mapOf_nil]
      have := (MapV.made (w.alloc (.cells #[.slice A0 old.length c0] 23)) Tryz.prog 9).alloc (.cells #[.map (some (w.heap.size + 1))] 66)
      simpa using this
    · have := blk_new ((w.alloc (.cells #[.slice A0 old.length c0] 23)).alloc (.map #[] 0)) (.cells #[.map (some (w.heap.size + 1))] 66)
      simpa using this
  case round =>
    obtain ⟨x, rfl, HG, HM, HVK, HBK, HB⟩ := hrel
    by_cases hlt : x < fresh.length
    · have hltz : (x : Int) < (fresh.length : Int) := by omega
      have p0 : 0 ≤ (x : Int) := by omega
      obtain ⟨ad, e, hx0, hx1, hx2⟩ := at_T43 HR1.out (x : Int) p0 hltz
      cases e
      replace hx0 := pw_cell_below HB.out hx0
      replace hx1 := pw_cell_below HB.out hx1
      replace hx2 := pw_cell_below HB.out hx2
      have hs := fits_size HF.out (rd_mem p0 hltz)
      have htk := take_rd p0 hltz
      rw [show ((x : Int) + 1).toNat = x + 1 by omega, Int.toNat_natCast] at htk
      have HTK := Aside0.mk htk
      obtain ⟨gx, hgx⟩ : ∃ gx, rd_T43 fresh (x : Int) = gx := ⟨_, rfl⟩
      rw [hgx] at hx0 hx1 hx2 hs HTK
      rw [Int.toNat_natCast] at hx0 hx1 hx2
      clear hgx htk
      have hkey := Aside0.mk (keyOf_sk (P := Tryz.prog) Tryz.underlying9 (s := gx.f0) (by unfold maxLen; omega))
      have hxm : x < maxLen := by unfold maxLen; omega
      have hcK : (wr.alloc (Obj.cells #[Value.string gx.f0, Value.int IntKind.i64 gx.f1, Value.int IntKind.i64 gx.f2] 43)).cell? ⟨w.heap.size + 2, 0, none⟩ = some (.map (some (w.heap.size + 1))) := (blk_cell (blk_alloc HVK.out _) 0).trans rfl
      have HM' := Aside0.mk (HM.out.alloc (Obj.cells #[Value.string gx.f0, Value.int IntKind.i64 gx.f1, Value.int IntKind.i64 gx.f2] 43))
      have HVK' := Aside0.mk (blk_alloc HVK.out (Obj.cells #[Value.string gx.f0, Value.int IntKind.i64 gx.f1, Value.int IntKind.i64 gx.f2] 43))
      have HBK' := Aside0.mk (blk_alloc HBK.out (Obj.cells #[Value.string gx.f0, Value.int IntKind.i64 gx.f1, Value.int IntKind.i64 gx.f2] 43))
      have HB' := Aside0.mk (below_alloc HB.out (Obj.cells #[Value.string gx.f0, Value.int IntKind.i64 gx.f1, Value.int IntKind.i64 gx.f2] 43))
      clear hs
      go_wp2_with (at_mapUpdate; refine wpl_put rfl _ _ _ 66 rfl 3 strK Tryz.underlying66 rfl HM'.out hxm _ _ (sk gx.f0) rfl rfl hkey.out ?_; intro w3 hm3 hg3; have HM3 := Aside0.mk hm3; have HG3 := Aside0.mk hg3; clear hm3 hg3)
      go_roundg (fresh.length - (x + 1))
      case measure => have := HG.out; omega
      case rel =>
        refine ⟨x + 1, by go_num, ⟨rfl, by omega⟩, ⟨?_⟩, ⟨(HG3.out.block _ (blk_lt HVK'.out) (by simp)).trans HVK'.out⟩, ⟨(HG3.out.block _ (blk_lt HBK'.out) (fun e => by injection e with e; omega)).trans HBK'.out⟩, ⟨HB'.out.grown HG3.out (Nat.le_of_lt (blk_lt HBK'.out)) (fun j hj => by injection hj with hj; omega)⟩⟩
        rw [HTK.out, ← mapOf_lo]
        exact HM3.out
    · have hxe : x = fresh.length := by have := HG.out; omega
      subst hxe
      rw [List.take_length] at HM
      clear hlt
      go_wp2
      go_ret
      exact ⟨_, _, _, rfl, ⟨HBK.out, HVK.out, HM.out, Kd.C_below HR0.out HB.out⟩, by omega, by omega, by omega, HB.out⟩
end Go.Proofs.YtfcpebjjcijgcaaGreatDoor.G
-- unicodetext/groups.Move: by hand
namespace Go.Proofs.YtfcpebjjcijgcaaGreatDoor.G
open Go.RowKit Go.Proofs.YtfcpebjjcijgcaaGreatDoorW.PrintWords Go.Proofs.YtfcpebjjcijgcaaGreatDoorW.PrintLast Go.Proofs.YtfcpebjjcijgcaaGreatDoorW.PrintMore
attribute [local go_sem] max2_int min2_int max_two min_two max_three min_three max_four min_four   -- for this text's walks alone
set_option linter.unusedVariables false
set_option linter.unusedSimpArgs false
-- BY HAND: function 16 (groups_Move)
def groups_Move.f (k : Nat) (l0_0 : List (S50)) (l0_1 : List (S43)) (a0_2 : Int) (a0_3 : Int) (a0_4 : Int) (l1 : List ByteArray) (a2 : Int) : Option (Int) := (groups_Order.f k l0_0 l0_1 a0_2 a0_3 a0_4 l1).bind fun b => if b.2 = 0 then (if fits l0_1 = true ∧ fits b.1 = true then some (moveP l0_1 b.1 a2) else none) else some a2
set_option maxHeartbeats 1000000 in
theorem groups_Move.calls (k : Nat) (A0_0 : Option Addr) (c0_0 : Nat) (l0_0 : List (S50)) (A0_1 : Option Addr) (c0_1 : Nat) (l0_1 : List (S43)) (a0_2 : Int) (a0_3 : Int) (a0_4 : Int) (A1 : Option Addr) (c1 : Nat) (l1 : List ByteArray) (a2 : Int) (r : Int) (w : World) (hr0_0 : Kd.C k50 w A0_0 l0_0.length l0_0) (hc0_0 : l0_0.length ≤ c0_0) (hr0_1 : Kd.C k43 w A0_1 l0_1.length l0_1) (hc0_1 : l0_1.length ≤ c0_1) (hr1 : Kd.C Kd.string w A1 l1.length l1) (hc1 : l1.length ≤ c1) (h : groups_Move.f k l0_0 l0_1 a0_2 a0_3 a0_4 l1 a2 = some r) :
    Calls Tryz.prog 16 #[.agg #[.slice A0_0 l0_0.length c0_0, .slice A0_1 l0_1.length c0_1, .int .i64 a0_2, .int .i64 a0_3, .int .i64 a0_4], .slice A1 l1.length c1, .int .i64 a2] w fun e w' => e = .returned (.int .i64 r) ∧ Below w.heap.size w w' := by
  unfold groups_Move.f at h
  obtain ⟨⟨lo, eo⟩, hE, h⟩ := Option.bind_eq_some_iff.mp h
  have HE := Aside0.mk hE
  have H := Aside0.mk h
  have HR0 := Aside0.mk hr0_0
  have HC0 := Aside0.mk hc0_0
  have HR1 := Aside0.mk hr0_1
  have HC1 := Aside0.mk hc0_1
  have HRN := Aside0.mk hr1
  have HCN := Aside0.mk hc1
  clear hE h hr0_0 hc0_0 hr0_1 hc0_1 hr1 hc1
  go_enter Tryz.func16, Tryz.ntmps16
  go_wp2_with fail
  have hb0 : Below w.heap.size w (w.alloc (.cells #[.slice A0_0 l0_0.length c0_0, .slice A0_1 l0_1.length c0_1, .int .i64 a0_2, .int .i64 a0_3, .int .i64 a0_4] 25)) := below_alloc (Below.refl _ _) _
  have hk0 := blk_new w (.cells #[.slice A0_0 l0_0.length c0_0, .slice A0_1 l0_1.length c0_1, .int .i64 a0_2, .int .i64 a0_3, .int .i64 a0_4] 25)
  refine (groups_Order.calls k _ _ l0_0 _ _ l0_1 a0_2 a0_3 a0_4 _ _ l1 lo eo _ (Kd.C_below HR0.out hb0) HC0.out (Kd.C_below HR1.out hb0) HC1.out (Kd.C_below HRN.out hb0) HCN.out HE.out).mono ?_
  rintro e w1 ⟨v0, rfl, hR, hbc⟩
  have HB := Aside0.mk (below_step hb0 hbc)
  have HBK := Aside0.mk (blk_below hk0 hbc)
  obtain ⟨A, c, rfl, _, hC⟩ := Kd.R_reads hR
  have HC := Aside0.mk hC
  clear hb0 hk0 hbc hR hC
  by_cases he : eo = 0
  · subst he
    obtain ⟨hcond, hres⟩ : (fits l0_1 = true ∧ fits lo = true) ∧ moveP l0_1 lo a2 = r := by
      have h := H.out
      rw [if_pos rfl] at h
      split at h
      · rename_i hc
        exact ⟨hc, Option.some.inj h⟩
      · cases h
    have HF := Aside0.mk hcond
    have HRES := Aside0.mk hres
    have hca : w1.cell? ⟨w.heap.size, 1, none⟩ = some (.slice A0_1 l0_1.length c0_1) := (blk_cell HBK.out 1).trans rfl
    clear H hcond hres
    go_wp2_with fail
    refine (mover_calls A0_1 c0_1 l0_1 A c lo _ (Kd.C_below HR1.out HB.out) HC.out HF.out.2).mono ?_
    rintro e w2 ⟨gO, gK, gM, rfl, hmv, _, _, _, hb2⟩
    have HMV := Aside0.mk hmv
    have HB2 := Aside0.mk (below_step HB.out hb2)
    have HM1 := Aside0.mk (fun (x : Int) => mover1_calls w2 gO gK gM A0_1 c0_1 l0_1 lo HF.out.1 x HMV.out)
    have heg := enters_of Tryz.func48 (by kernel_rfl) rfl
    clear hmv hb2 hca
    go_wp2_with fail
    refine (HM1.out _).mono ?_
    rintro e w3 ⟨rfl, hb3⟩
    have HB3 := Aside0.mk (below_step HB2.out hb3)
    clear hb3
    go_wp2
    go_ret
    exact ⟨by rw [HRES.out]; rfl, HB3.out⟩
  · have hres : a2 = r := by
      have h := H.out
      rw [if_neg he] at h
      exact Option.some.inj h
    have he2 : (eo != 0) = true := bne_iff_ne.2 he
    have HRES := Aside0.mk hres
    clear H he hres
    go_wp2
    go_ret
    exact ⟨by rw [← HRES.out]; rfl, HB.out⟩
end Go.Proofs.YtfcpebjjcijgcaaGreatDoor.G
-- unicodetext/unicodetextlaw47.alive: by hand
namespace Go.Proofs.YtfcpebjjcijgcaaGreatDoor.G
open Go.RowKit Go.Proofs.YtfcpebjjcijgcaaGreatDoorW.PrintWords Go.Proofs.YtfcpebjjcijgcaaGreatDoorW.PrintLast Go.Proofs.YtfcpebjjcijgcaaGreatDoorW.PrintMore
attribute [local go_sem] max2_int min2_int max_two min_two max_three min_three max_four min_four   -- for this text's walks alone
set_option linter.unusedVariables false
set_option linter.unusedSimpArgs false
-- BY HAND: function 8 (unicodetextlaw47_alive)
/-- The example's groups, their new order, the name. -/
def aliveG : List S43 := [⟨⟨#[97]⟩, 1, 9⟩, ⟨⟨#[98]⟩, 10, 29⟩]
def aliveR : List S43 := [⟨⟨#[98]⟩, 1, 20⟩, ⟨⟨#[97]⟩, 21, 29⟩]
def aliveN : List ByteArray := [⟨#[98]⟩]
/-- The example is answered as the document says. -/
structure AliveAt (k : Nat) (lo : List S43) : Prop where
  o : groups_Order.f k [] aliveG 100 1 1 aliveN = some (lo, 0)
  s : unicodetextref47_SameGroups.f k lo aliveR = some true
  m0 : groups_Move.f k [] aliveG 100 1 1 aliveN 12 = some 3
  m1 : groups_Move.f k [] aliveG 100 1 1 aliveN 9 = some 29
  m2 : groups_Move.f k [] aliveG 100 1 1 aliveN 30 = some 30
def unicodetextlaw47_alive.f (k : Nat)  : Option (Bool) := (groups_Order.f k [] aliveG 100 1 1 aliveN).bind fun b => if b.2 = 0 then (unicodetextref47_SameGroups.f k b.1 aliveR).bind fun t => if t = true then (groups_Move.f k [] aliveG 100 1 1 aliveN 12).bind fun x => if x = 3 then (groups_Move.f k [] aliveG 100 1 1 aliveN 9).bind fun y => if y = 29 then (groups_Move.f k [] aliveG 100 1 1 aliveN 30).bind fun z => if z = 30 then some true else none else none else none else none else none
theorem alive_at {k : Nat} {r : Bool} (h : unicodetextlaw47_alive.f k = some r) : r = true ∧ ∃ lo, AliveAt k lo := by
  unfold unicodetextlaw47_alive.f at h
  obtain ⟨⟨lo, e⟩, h1, h⟩ := Option.bind_eq_some_iff.mp h
  split at h
  case isFalse => cases h
  rename_i h2
  obtain ⟨t, h3, h⟩ := Option.bind_eq_some_iff.mp h
  split at h
  case isFalse => cases h
  rename_i h4
  obtain ⟨x, h5, h⟩ := Option.bind_eq_some_iff.mp h
  split at h
  case isFalse => cases h
  rename_i h6
  obtain ⟨y, h7, h⟩ := Option.bind_eq_some_iff.mp h
  split at h
  case isFalse => cases h
  rename_i h8
  obtain ⟨z, h9, h⟩ := Option.bind_eq_some_iff.mp h
  split at h
  case isFalse => cases h
  rename_i h10
  have hr := (Option.some.inj h).symm
  subst h4 h6 h8 h10
  have h2 : e = 0 := h2
  subst h2
  exact ⟨hr, lo, ⟨h1, h3, h5, h7, h9⟩⟩
theorem aliveN_C {w : World} {g : Nat} (h : w.heap[g]? = some (.cells #[.string ⟨#[98]⟩] 9 (0, 0))) : Kd.string.C w (some ⟨g, 0, none⟩) 1 aliveN := by
  refine ⟨rfl, by omega, fun _ => ⟨_, rfl, fun j p hp => ?_⟩⟩
  cases j with
  | zero =>
    obtain rfl := Option.some.inj hp
    refine ⟨[.string ⟨#[98]⟩], rfl, rfl, fun i u hu => ?_⟩
    cases i with
    | zero =>
      obtain rfl := Option.some.inj hu
      exact (blk_cell h 0).trans rfl
    | succ i => simp at hu
  | succ j => simp [aliveN] at hp
set_option maxHeartbeats 1000000 in
theorem unicodetextlaw47_alive.calls (k : Nat)  (r : Bool) (w : World) (h : unicodetextlaw47_alive.f k  = some r) :
    Calls Tryz.prog 8 #[] w fun e w' => e = .returned (.bool r) ∧ Below w.heap.size w w' := by
  obtain ⟨rfl, lo, hA⟩ := alive_at h
  have HA := Aside0.mk hA
  clear hA h
  go_enter Tryz.func8, Tryz.ntmps8
  go_wp2_with ((with_reducible refine gate_dst (N := 6) rfl ?_); refine Kd.R_lit k43 _ 43 ?hg (N := 6) ?hd (xs := aliveG) (inner := [.string (⟨#[97]⟩ : ByteArray), .int .i64 1, .int .i64 9, .string (⟨#[98]⟩ : ByteArray), .int .i64 10, .int .i64 29]) (ok := fun _ => True) (okp := fun _ => True) ?hr ?hp (fun _ hk => hk) trivial (Below.refl _ _) (Nat.le_refl _) (by decide) ?_; (case hd => rfl); (case hg => rfl); (case hr => first | (go_simp; done) | (go_simp; rfl)); (case hp => exact (Reps.c3 (show Kd.M k43 _ _ _ (⟨(⟨#[97]⟩ : ByteArray), 1, 9⟩ : S43) [.string (⟨#[97]⟩ : ByteArray), .int .i64 1, .int .i64 9] from (k43_mkM _ _ _ (⟨(⟨#[97]⟩ : ByteArray), 1, 9⟩ : S43) )) (Reps.c3 (show Kd.M k43 _ _ _ (⟨(⟨#[98]⟩ : ByteArray), 10, 29⟩ : S43) [.string (⟨#[98]⟩ : ByteArray), .int .i64 10, .int .i64 29] from (k43_mkM _ _ _ (⟨(⟨#[98]⟩ : ByteArray), 10, 29⟩ : S43) )) (Reps.none _ _)))); intro v1 w1 ho1 hb1 hg_ hnew_; clear hg_ hnew_; obtain ⟨A1, c1, e1, hl1, hC1⟩ := Kd.R_reads ho1; have HC1 := Aside0.mk hC1; have HL1 := Aside0.mk hl1; have HB1 := Aside0.mk hb1; subst e1; clear hC1 hl1 hb1 ho1)
  have hb2 : Below w.heap.size w ((w1.alloc (.cells #[.slice none 0 0, .slice A1 aliveG.length c1, .int .i64 100, .int .i64 1, .int .i64 1] 25)).alloc (.cells #[.string ⟨#[98]⟩] 9)) := below_alloc (below_alloc HB1.out _) _
  have hC2 := Kd.C_below HC1.out (below_alloc (below_alloc (Below.refl w1.heap.size w1) (.cells #[.slice none 0 0, .slice A1 aliveG.length c1, .int .i64 100, .int .i64 1, .int .i64 1] 25)) (.cells #[.string ⟨#[98]⟩] 9))
  have hK2 := blk_alloc (blk_new w1 (.cells #[.slice none 0 0, .slice A1 aliveG.length c1, .int .i64 100, .int .i64 1, .int .i64 1] 25)) (.cells #[.string ⟨#[98]⟩] 9)
  have hN2 := blk_new (w1.alloc (.cells #[.slice none 0 0, .slice A1 aliveG.length c1, .int .i64 100, .int .i64 1, .int .i64 1] 25)) (.cells #[.string ⟨#[98]⟩] 9)
  rw [show (w1.alloc (.cells #[.slice none 0 0, .slice A1 aliveG.length c1, .int .i64 100, .int .i64 1, .int .i64 1] 25)).heap.size = w1.heap.size + 1 by simp] at hN2
  generalize hW : ((w1.alloc (.cells #[.slice none 0 0, .slice A1 aliveG.length c1, .int .i64 100, .int .i64 1, .int .i64 1] 25)).alloc (.cells #[.string ⟨#[98]⟩] 9)) = w2 at hb2 hC2 hK2 hN2 ⊢
  clear hW
  have hNC := aliveN_C hN2
  refine (groups_Order.calls k _ _ [] _ _ aliveG 100 1 1 _ _ aliveN lo 0 w2 (Kd.C_nil _ _) (Nat.le_refl _) hC2 HL1.out hNC (Nat.le_refl _) HA.out.o).mono ?_
  rintro e w3 ⟨v3, rfl, hR3, hb3⟩
  obtain ⟨A3, c3, rfl, hl3, hC3⟩ := Kd.R_reads hR3
  have HB3 := Aside0.mk (below_step hb2 hb3)
  have HC3 := Aside0.mk hC3
  have HL3 := Aside0.mk hl3
  have HK3 := Aside0.mk (blk_below hK2 hb3)
  have HG3 := Aside0.mk (Kd.C_below hC2 hb3)
  clear hb2 hC2 hK2 hN2 hNC hR3 hb3 hC3 hl3 HB1 HC1
  go_wp2_with ((with_reducible refine gate_dst (N := 20) rfl ?_); (try (refine gate_guard (by rfl) ?_; dsimp only)); refine Kd.R_lit k43 _ 43 ?hg (N := 20) ?hd (xs := aliveR) (inner := [.string (⟨#[98]⟩ : ByteArray), .int .i64 1, .int .i64 20, .string (⟨#[97]⟩ : ByteArray), .int .i64 21, .int .i64 29]) (ok := fun _ => True) (okp := fun _ => True) ?hr ?hp (fun _ hk => hk) trivial (Below.refl _ _) (Nat.le_refl _) (by decide) ?_; (case hd => rfl); (case hg => rfl); (case hr => first | (go_simp; done) | (go_simp; rfl)); (case hp => exact (Reps.c3 (show Kd.M k43 _ _ _ (⟨(⟨#[98]⟩ : ByteArray), 1, 20⟩ : S43) [.string (⟨#[98]⟩ : ByteArray), .int .i64 1, .int .i64 20] from (k43_mkM _ _ _ (⟨(⟨#[98]⟩ : ByteArray), 1, 20⟩ : S43) )) (Reps.c3 (show Kd.M k43 _ _ _ (⟨(⟨#[97]⟩ : ByteArray), 21, 29⟩ : S43) [.string (⟨#[97]⟩ : ByteArray), .int .i64 21, .int .i64 29] from (k43_mkM _ _ _ (⟨(⟨#[97]⟩ : ByteArray), 21, 29⟩ : S43) )) (Reps.none _ _)))); intro v4 w4 ho4 hb4 hg_ hnew_; clear hg_ hnew_; obtain ⟨A4, c4, e4, hl4, hC4⟩ := Kd.R_reads ho4; subst e4)
  refine (unicodetextref47_SameGroups.calls k _ _ lo _ _ aliveR true w4 (Kd.C_below HC3.out hb4) HL3.out hC4 hl4 HA.out.s).mono ?_
  rintro e w' ⟨rfl, ⟨nd, rfl⟩⟩
  have hx4 : Below w3.heap.size w3 (w4.drewN nd) := pw_below_drewN hb4 nd
  have hB5 : Below w.heap.size w (w4.drewN nd) := below_step HB3.out hx4
  have hK5 := blk_below HK3.out hx4
  have hG5 := Kd.C_below HG3.out hx4
  generalize w4.drewN nd = w5 at hB5 hK5 hG5 ⊢
  clear ho4 hb4 hl4 hC4 hx4
  have HB5 := Aside0.mk hB5
  have HK5 := Aside0.mk hK5
  have HG5 := Aside0.mk hG5
  have hz0 : w5.cell? ⟨w1.heap.size, 0, none⟩ = some (.slice none 0 0) := (blk_cell hK5 0).trans rfl
  have hz1 : w5.cell? ⟨w1.heap.size, 1, none⟩ = some (.slice A1 aliveG.length c1) := (blk_cell hK5 1).trans rfl
  have hz2 : w5.cell? ⟨w1.heap.size, 2, none⟩ = some (.int .i64 100) := (blk_cell hK5 2).trans rfl
  have hz3 : w5.cell? ⟨w1.heap.size, 3, none⟩ = some (.int .i64 1) := (blk_cell hK5 3).trans rfl
  have hz4 : w5.cell? ⟨w1.heap.size, 4, none⟩ = some (.int .i64 1) := (blk_cell hK5 4).trans rfl
  clear hB5 hK5 hG5
  go_wp2_with fail
  clear hz0 hz1 hz2 hz3 hz4
  have hb6 : Below w5.heap.size w5 (w5.alloc (.cells #[.string ⟨#[98]⟩] 9)) := below_alloc (Below.refl _ _) _
  have hN6 := blk_new w5 (.cells #[.string ⟨#[98]⟩] 9)
  refine (groups_Move.calls k _ _ [] _ _ aliveG 100 1 1 _ _ aliveN 12 3 _ (Kd.C_nil _ _) (Nat.le_refl _) (Kd.C_below HG5.out hb6) HL1.out (aliveN_C hN6) (Nat.le_refl _) HA.out.m0).mono ?_
  rintro e w6 ⟨rfl, hbb⟩
  have hbx := below_step hb6 hbb
  have hB6 := below_step HB5.out hbx
  have hK6 := blk_below HK5.out hbx
  have hG6 := Kd.C_below HG5.out hbx
  clear hb6 hN6 hbb hbx
  have HB6 := Aside0.mk hB6
  have HK6 := Aside0.mk hK6
  have HG6 := Aside0.mk hG6
  have hz0 : w6.cell? ⟨w1.heap.size, 0, none⟩ = some (.slice none 0 0) := (blk_cell hK6 0).trans rfl
  have hz1 : w6.cell? ⟨w1.heap.size, 1, none⟩ = some (.slice A1 aliveG.length c1) := (blk_cell hK6 1).trans rfl
  have hz2 : w6.cell? ⟨w1.heap.size, 2, none⟩ = some (.int .i64 100) := (blk_cell hK6 2).trans rfl
  have hz3 : w6.cell? ⟨w1.heap.size, 3, none⟩ = some (.int .i64 1) := (blk_cell hK6 3).trans rfl
  have hz4 : w6.cell? ⟨w1.heap.size, 4, none⟩ = some (.int .i64 1) := (blk_cell hK6 4).trans rfl
  clear hB6 hK6 hG6
  go_wp2_with fail
  clear hz0 hz1 hz2 hz3 hz4
  have hb7 : Below w6.heap.size w6 (w6.alloc (.cells #[.string ⟨#[98]⟩] 9)) := below_alloc (Below.refl _ _) _
  have hN7 := blk_new w6 (.cells #[.string ⟨#[98]⟩] 9)
  refine (groups_Move.calls k _ _ [] _ _ aliveG 100 1 1 _ _ aliveN 9 29 _ (Kd.C_nil _ _) (Nat.le_refl _) (Kd.C_below HG6.out hb7) HL1.out (aliveN_C hN7) (Nat.le_refl _) HA.out.m1).mono ?_
  rintro e w7 ⟨rfl, hbb⟩
  have hbx := below_step hb7 hbb
  have hB7 := below_step HB6.out hbx
  have hK7 := blk_below HK6.out hbx
  have hG7 := Kd.C_below HG6.out hbx
  clear hb7 hN7 hbb hbx
  have HB7 := Aside0.mk hB7
  have HK7 := Aside0.mk hK7
  have HG7 := Aside0.mk hG7
  have hz0 : w7.cell? ⟨w1.heap.size, 0, none⟩ = some (.slice none 0 0) := (blk_cell hK7 0).trans rfl
  have hz1 : w7.cell? ⟨w1.heap.size, 1, none⟩ = some (.slice A1 aliveG.length c1) := (blk_cell hK7 1).trans rfl
  have hz2 : w7.cell? ⟨w1.heap.size, 2, none⟩ = some (.int .i64 100) := (blk_cell hK7 2).trans rfl
  have hz3 : w7.cell? ⟨w1.heap.size, 3, none⟩ = some (.int .i64 1) := (blk_cell hK7 3).trans rfl
  have hz4 : w7.cell? ⟨w1.heap.size, 4, none⟩ = some (.int .i64 1) := (blk_cell hK7 4).trans rfl
  clear hB7 hK7 hG7
  go_wp2_with fail
  clear hz0 hz1 hz2 hz3 hz4
  have hb8 : Below w7.heap.size w7 (w7.alloc (.cells #[.string ⟨#[98]⟩] 9)) := below_alloc (Below.refl _ _) _
  have hN8 := blk_new w7 (.cells #[.string ⟨#[98]⟩] 9)
  refine (groups_Move.calls k _ _ [] _ _ aliveG 100 1 1 _ _ aliveN 30 30 _ (Kd.C_nil _ _) (Nat.le_refl _) (Kd.C_below HG7.out hb8) HL1.out (aliveN_C hN8) (Nat.le_refl _) HA.out.m2).mono ?_
  rintro e w8 ⟨rfl, hbb⟩
  have hbx := below_step hb8 hbb
  have hB8 := below_step HB7.out hbx
  have hK8 := blk_below HK7.out hbx
  have hG8 := Kd.C_below HG7.out hbx
  clear hb8 hN8 hbb hbx
  have HB8 := Aside0.mk hB8
  clear hB8 hK8 hG8
  go_wp2
  go_ret
  exact ⟨rfl, HB8.out⟩
end Go.Proofs.YtfcpebjjcijgcaaGreatDoor.G
-- by hand: lemmas
namespace Go.Proofs.YtfcpebjjcijgcaaGreatDoor.G
open Go.RowKit Go.Proofs.YtfcpebjjcijgcaaGreatDoorW.PrintWords Go.Proofs.YtfcpebjjcijgcaaGreatDoorW.PrintLast Go.Proofs.YtfcpebjjcijgcaaGreatDoorW.PrintMore
attribute [local go_sem] max2_int min2_int max_two min_two max_three min_three max_four min_four   -- for this text's walks alone
set_option linter.unusedVariables false
set_option linter.unusedSimpArgs false
/-! The law's walk. -/
def ofT : Bool × List (List Nat × List Nat) := (true, [([], []), ([0], [0]), ([1], [1]), ([2, 1], [2]), ([3], [3]), ([4, 3], [3, 4]), ([5, 3], [3, 5]), ([3, 6], [3, 6]), ([7, 3], [7]), ([8], [8]), ([8], [8]), ([9, 10, 8, 8], [8, 9, 10]), ([8], [8]), ([8], [8]), ([12, 13, 11, 8], [8, 12, 13]), ([11, 14, 14, 8], [8, 11, 14]), ([8, 15], [8, 15]), ([16, 15], [16]), ([17, 17], [17]), ([17, 18], [17, 18]), ([19, 18, 0, 1, 2, 3, 4, 5, 6, 7, 8, 9, 10, 11, 12, 13, 14, 15, 16, 17, 18, 19], [19])])
def ofB : List Nat := [0, 1, 3, 7, 15, 31, 63, 127, 255, 511, 511, 2047, 511, 511, 16383, 32767, 65535, 131071, 262143, 524287, 1048575]
theorem ofTab : rtab .any (opsOf Tryz.f3 1) = ofT := by kernel_rfl
theorem ofBits : waitsOk ofT.2 ofB = true := by kernel_rfl
set_option maxHeartbeats 4000000 in
set_option maxRecDepth 100000 in
theorem ofWalk (k : Nat) (A0 : Option Addr) (c0 : Nat) (E : List S50) (A1 : Option Addr) (c1 : Nat) (G : List S43) (b2 b3 b4 : Int) (A : Option Addr) (c : Nat) (text : List Int) (b : Bool) (N : List ByteArray) (w : World) (hr0 : Kd.C k50 w A0 E.length E) (hc0 : E.length ≤ c0) (hr1 : Kd.C k43 w A1 G.length G) (hc1 : G.length ≤ c1)
  (hfew : unicodetextlaw47_few.f k E G b2 b3 b4 [] = some b) (hal : unicodetextlaw47_alive.f k = some true) (hst : unicodetextref09_Strings.f k N N = some true)
  (hgo : b = true → text.length ≤ 40 → ∀ W : World, Below w.heap.size w W → Calls Tryz.prog 6 #[.agg #[.slice A0 E.length c0, .slice A1 G.length c1, .int .i64 b2, .int .i64 b3, .int .i64 b4], .slice A text.length c] W fun e w' => ∃ v, e = .returned v ∧ Kd.R Kd.string 9 w' W.heap.size (fun _ => True) v N ∧ Below W.heap.size W w')
  (hro : b = true → text.length ≤ 40 → ∀ W : World, Below w.heap.size w W → Calls Tryz.prog 7 #[.agg #[.slice A0 E.length c0, .slice A1 G.length c1, .int .i64 b2, .int .i64 b3, .int .i64 b4], .slice A text.length c] W fun e w' => ∃ v, e = .returned v ∧ Kd.R Kd.string 9 w' W.heap.size (fun _ => True) v N ∧ Below W.heap.size W w') :
  Calls Tryz.prog 3 #[.agg #[.slice A0 E.length c0, .slice A1 G.length c1, .int .i64 b2, .int .i64 b3, .int .i64 b4], .slice A text.length c] w fun e w' => e = .returned (.bool true) ∧ Below w.heap.size w w' := by
 have HFEW := Aside0.mk (fun (W : World) (hb : Below w.heap.size w W) => unicodetextlaw47_few.calls k A0 c0 E A1 c1 G b2 b3 b4 none 0 [] b W (Kd.C_below hr0 hb) hc0 (Kd.C_below hr1 hb) hc1 (Kd.C_nil _ _) (Nat.le_refl _) hfew)
 have HAL := Aside0.mk (fun (W : World) => unicodetextlaw47_alive.calls k true W hal)
 have HST := Aside0.mk (fun (W : World) (X Y : Option Addr) (cx cy : Nat) (h1 : Kd.C Kd.string W X N.length N) (h2 : N.length ≤ cx) (h3 : Kd.C Kd.string W Y N.length N) (h4 : N.length ≤ cy) => unicodetextref09_Strings.calls k X cx N Y cy N true W h1 h2 h3 h4 hst)
 have HGO := Aside0.mk hgo
 have HRO := Aside0.mk hro
 have hba := below_alloc (Below.refl w.heap.size w) (.cells #[.slice A0 E.length c0, .slice A1 G.length c1, .int .i64 b2, .int .i64 b3, .int .i64 b4] 25)
 have HKA := Aside0.mk (blk_new w (.cells #[.slice A0 E.length c0, .slice A1 G.length c1, .int .i64 b2, .int .i64 b3, .int .i64 b4] 25))
 have HBA := Aside0.mk hba
 clear hr0 hc0 hr1 hc1 hfew hal hst hgo hro hba
 go_enter Tryz.func3, Tryz.ntmps3
 go_wp2_with fail
 generalize w.alloc (.cells #[.slice A0 E.length c0, .slice A1 G.length c1, .int .i64 b2, .int .i64 b3, .int .i64 b4] 25) = wa at HKA HBA ⊢
 have hS : ∀ W : World, Below wa.heap.size wa W → (W.cell? ⟨w.heap.size, 0, none⟩ = some (.slice A0 E.length c0) ∧ W.cell? ⟨w.heap.size, 1, none⟩ = some (.slice A1 G.length c1) ∧ W.cell? ⟨w.heap.size, 2, none⟩ = some (.int .i64 b2) ∧ W.cell? ⟨w.heap.size, 3, none⟩ = some (.int .i64 b3) ∧ W.cell? ⟨w.heap.size, 4, none⟩ = some (.int .i64 b4)) := fun W h => ⟨(blk_cell (blk_below HKA.out h) 0).trans rfl, (blk_cell (blk_below HKA.out h) 1).trans rfl, (blk_cell (blk_below HKA.out h) 2).trans rfl, (blk_cell (blk_below HKA.out h) 3).trans rfl, (blk_cell (blk_below HKA.out h) 4).trans rfl⟩
 have bd := below_drew (Below.refl wa.heap.size wa)
 cases b with
 | false =>
  refine start_ (n := 21) (S := fun w' => w'.cell? ⟨w.heap.size, 0, none⟩ = some (.slice A0 E.length c0) ∧ w'.cell? ⟨w.heap.size, 1, none⟩ = some (.slice A1 G.length c1) ∧ w'.cell? ⟨w.heap.size, 2, none⟩ = some (.int .i64 b2) ∧ w'.cell? ⟨w.heap.size, 3, none⟩ = some (.int .i64 b3) ∧ w'.cell? ⟨w.heap.size, 4, none⟩ = some (.int .i64 b4)) (ds := []) #[false, false, false, false, false, false, false, false, false, false, false, false, false, false, false, false, false, false, false, false, false] (by kernel_rfl) rfl rfl (hS _ bd) (fun hHeld => ?_)
  refine with_tabW ofTab ofBits (fun HT_ HW_ => ?_)
  refine take_ (i := 0) (N := some 5) (v := ?_) (a' := ?_) #[true, false, false, false, false, false, false, false, false, false, false, false, false, false, false, false, false, false, false, false, false] rfl rfl (take_ofW HT_.out HW_.out (by kernel_rfl)) (fun _ _ _ h => h) (Or.inl ⟨by rfl, ?_⟩) hHeld ?_ ?_
  rotate_left
  ·rintro w' ⟨s0, s1, s2, s3, s4⟩
   go_simp
   with_reducible rfl
  rotate_left
  ·simp only [Act.put, List.setIfInBounds_toArray, List.set_cons_zero, List.set_cons_succ, i64_w, i32_w]
   rfl
  refine one_ (i := 1) (N := some 6) #[true, true, false, false, false, false, false, false, false, false, false, false, false, false, false, false, false, false, false, false, false] rfl rfl (one_of HT_.out (by kernel_rfl)) (by decide) (fun K hK => ?_)
  refine goes_ Tryz.func4 (by kernel_rfl) rfl #[.agg #[.slice A0 E.length c0, .slice A1 G.length c1, .int .i64 b2, .int .i64 b3, .int .i64 b4], .slice none 0 0] (by rfl) rfl rfl (by (try simp only [List.map_toArray, List.map_cons, List.map_nil]); first | done | rfl) ?_
  refine (HFEW.out _ (below_step HBA.out bd)).mono ?_
  rintro e w1 ⟨rfl, hb1⟩
  have b1 := below_step bd hb1
  clear hb1
  refine ⟨_, rfl, ?_⟩
  refine hK.out _ _ (hS _ b1) (fun hHeld => ?_)
  clear hK K
  refine norm_ (a' := ?_) ?_ ?_
  rotate_left
  ·show Act.put _ (some 6) _ = _
   simp only [Act.put, List.setIfInBounds_toArray, List.set_cons_zero, List.set_cons_succ, i64_w, i32_w]
   rfl
  refine pure_ (i := 2) (N := some 7) (v := ?_) (a' := ?_) #[true, true, true, false, false, false, false, false, false, false, false, false, false, false, false, false, false, false, false, false, false] rfl rfl (any_of HT_.out (by kernel_rfl)) (fun _ _ _ h => h) (Or.inl ⟨by rfl, ?_⟩) ?_ ?_
  rotate_left
  ·intro w'
   go_simp
   with_reducible rfl
  rotate_left
  ·simp only [Act.put, List.setIfInBounds_toArray, List.set_cons_zero, List.set_cons_succ, i64_w, i32_w]
   rfl
  refine pure_ (i := 3) (N := some 8) (v := ?_) (a' := ?_) #[true, true, true, true, false, false, false, false, false, false, false, false, false, false, false, false, false, false, false, false, false] rfl rfl (any_of HT_.out (by kernel_rfl)) (fun _ _ _ h => h) (Or.inl ⟨by rfl, ?_⟩) ?_ ?_
  rotate_left
  ·intro w'
   go_simp
   with_reducible rfl
  rotate_left
  ·simp only [Act.put, List.setIfInBounds_toArray, List.set_cons_zero, List.set_cons_succ, i64_w, i32_w]
   rfl
  refine pure_ (i := 4) (N := some 9) (v := undef) (a' := ?_) #[true, true, true, true, true, false, false, false, false, false, false, false, false, false, false, false, false, false, false, false, false] rfl rfl (any_of HT_.out (by kernel_rfl)) (fun _ _ _ h => h) (Or.inr ⟨by rfl, rfl⟩) ?_ ?_
  rotate_left
  ·simp only [Act.put, List.setIfInBounds_toArray, List.set_cons_zero, List.set_cons_succ, i64_w, i32_w]
   rfl
  refine pure_ (i := 5) (N := some 10) (v := undef) (a' := ?_) #[true, true, true, true, true, true, false, false, false, false, false, false, false, false, false, false, false, false, false, false, false] rfl rfl (any_of HT_.out (by kernel_rfl)) (fun _ _ _ h => h) (Or.inr ⟨by rfl, rfl⟩) ?_ ?_
  rotate_left
  ·simp only [Act.put, List.setIfInBounds_toArray, List.set_cons_zero, List.set_cons_succ, i64_w, i32_w]
   rfl
  refine pure_ (i := 6) (N := some 11) (v := undef) (a' := ?_) #[true, true, true, true, true, true, true, false, false, false, false, false, false, false, false, false, false, false, false, false, false] rfl rfl (any_of HT_.out (by kernel_rfl)) (fun _ _ _ h => h) (Or.inr ⟨by rfl, rfl⟩) ?_ ?_
  rotate_left
  ·simp only [Act.put, List.setIfInBounds_toArray, List.set_cons_zero, List.set_cons_succ, i64_w, i32_w]
   rfl
  refine pure_ (i := 7) (N := some 12) (v := ?_) (a' := ?_) #[true, true, true, true, true, true, true, true, false, false, false, false, false, false, false, false, false, false, false, false, false] rfl rfl (any_of HT_.out (by kernel_rfl)) (fun _ _ _ h => h) (Or.inl ⟨by rfl, ?_⟩) ?_ ?_
  rotate_left
  ·intro w'
   go_simp
   with_reducible rfl
  rotate_left
  ·simp only [Act.put, List.setIfInBounds_toArray, List.set_cons_zero, List.set_cons_succ, i64_w, i32_w]
   rfl
  refine pure_ (i := 8) (N := some 13) (v := ?_) (a' := ?_) #[true, true, true, true, true, true, true, true, true, false, false, false, false, false, false, false, false, false, false, false, false] rfl rfl (any_of HT_.out (by kernel_rfl)) (fun _ _ _ h => h) (Or.inl ⟨by rfl, ?_⟩) ?_ ?_
  rotate_left
  ·intro w'
   go_simp
   with_reducible rfl
  rotate_left
  ·simp only [Act.put, List.setIfInBounds_toArray, List.set_cons_zero, List.set_cons_succ, i64_w, i32_w]
   rfl
  refine pure_ (i := 9) (N := some 14) (v := undef) (a' := ?_) #[true, true, true, true, true, true, true, true, true, true, false, false, false, false, false, false, false, false, false, false, false] rfl rfl (any_of HT_.out (by kernel_rfl)) (fun _ _ _ h => h) (Or.inr ⟨by rfl, rfl⟩) ?_ ?_
  rotate_left
  ·simp only [Act.put, List.setIfInBounds_toArray, List.set_cons_zero, List.set_cons_succ, i64_w, i32_w]
   rfl
  refine pure_ (i := 10) (N := some 15) (v := undef) (a' := ?_) #[true, true, true, true, true, true, true, true, true, true, true, false, false, false, false, false, false, false, false, false, false] rfl rfl (any_of HT_.out (by kernel_rfl)) (fun _ _ _ h => h) (Or.inr ⟨by rfl, rfl⟩) ?_ ?_
  rotate_left
  ·simp only [Act.put, List.setIfInBounds_toArray, List.set_cons_zero, List.set_cons_succ, i64_w, i32_w]
   rfl
  refine pure_ (i := 12) (N := some 17) (v := undef) (a' := ?_) #[true, true, true, true, true, true, true, true, true, true, true, false, true, false, false, false, false, false, false, false, false] rfl rfl (any_of HT_.out (by kernel_rfl)) (fun _ _ _ h => h) (Or.inr ⟨by rfl, rfl⟩) ?_ ?_
  rotate_left
  ·simp only [Act.put, List.setIfInBounds_toArray, List.set_cons_zero, List.set_cons_succ, i64_w, i32_w]
   rfl
  refine pure_ (i := 13) (N := some 18) (v := undef) (a' := ?_) #[true, true, true, true, true, true, true, true, true, true, true, false, true, true, false, false, false, false, false, false, false] rfl rfl (any_of HT_.out (by kernel_rfl)) (fun _ _ _ h => h) (Or.inr ⟨by rfl, rfl⟩) ?_ ?_
  rotate_left
  ·simp only [Act.put, List.setIfInBounds_toArray, List.set_cons_zero, List.set_cons_succ, i64_w, i32_w]
   rfl
  refine pure_ (i := 11) (N := some 16) (v := undef) (a' := ?_) #[true, true, true, true, true, true, true, true, true, true, true, true, true, true, false, false, false, false, false, false, false] rfl rfl (any_of HT_.out (by kernel_rfl)) (fun _ _ _ h => h) (Or.inr ⟨by rfl, rfl⟩) ?_ ?_
  rotate_left
  ·simp only [Act.put, List.setIfInBounds_toArray, List.set_cons_zero, List.set_cons_succ, i64_w, i32_w]
   rfl
  refine pure_ (i := 14) (N := some 19) (v := undef) (a' := ?_) #[true, true, true, true, true, true, true, true, true, true, true, true, true, true, true, false, false, false, false, false, false] rfl rfl (any_of HT_.out (by kernel_rfl)) (fun _ _ _ h => h) (Or.inr ⟨by rfl, rfl⟩) ?_ ?_
  rotate_left
  ·simp only [Act.put, List.setIfInBounds_toArray, List.set_cons_zero, List.set_cons_succ, i64_w, i32_w]
   rfl
  refine pure_ (i := 15) (N := some 20) (v := undef) (a' := ?_) #[true, true, true, true, true, true, true, true, true, true, true, true, true, true, true, true, false, false, false, false, false] rfl rfl (any_of HT_.out (by kernel_rfl)) (fun _ _ _ h => h) (Or.inr ⟨by rfl, rfl⟩) ?_ ?_
  rotate_left
  ·simp only [Act.put, List.setIfInBounds_toArray, List.set_cons_zero, List.set_cons_succ, i64_w, i32_w]
   rfl
  refine pure_ (i := 16) (N := some 21) (v := ?_) (a' := ?_) #[true, true, true, true, true, true, true, true, true, true, true, true, true, true, true, true, true, false, false, false, false] rfl rfl (any_of HT_.out (by kernel_rfl)) (fun _ _ _ h => h) (Or.inl ⟨by rfl, ?_⟩) ?_ ?_
  rotate_left
  ·intro w'
   go_simp
   with_reducible rfl
  rotate_left
  ·simp only [Act.put, List.setIfInBounds_toArray, List.set_cons_zero, List.set_cons_succ, i64_w, i32_w]
   rfl
  refine pure_ (i := 17) (N := some 22) (v := ?_) (a' := ?_) #[true, true, true, true, true, true, true, true, true, true, true, true, true, true, true, true, true, true, false, false, false] rfl rfl (any_of HT_.out (by kernel_rfl)) (fun _ _ _ h => h) (Or.inl ⟨by rfl, ?_⟩) ?_ ?_
  rotate_left
  ·intro w'
   go_simp
   with_reducible rfl
  rotate_left
  ·simp only [Act.put, List.setIfInBounds_toArray, List.set_cons_zero, List.set_cons_succ, i64_w, i32_w]
   rfl
  refine one_ (i := 18) (N := some 23) #[true, true, true, true, true, true, true, true, true, true, true, true, true, true, true, true, true, true, true, false, false] rfl rfl (one_of HT_.out (by kernel_rfl)) (by decide) (fun K hK => ?_)
  refine goes_ Tryz.func8 (by kernel_rfl) rfl #[] (by rfl) rfl rfl (by (try simp only [List.map_toArray, List.map_cons, List.map_nil]); first | done | rfl) ?_
  refine (HAL.out _).mono ?_
  rintro e w5 ⟨rfl, hb5⟩
  have b5 := below_step b1 hb5
  clear hb5
  refine ⟨_, rfl, ?_⟩
  refine hK.out _ _ (hS _ b5) (fun hHeld => ?_)
  clear hK K
  refine norm_ (a' := ?_) ?_ ?_
  rotate_left
  ·show Act.put _ (some 23) _ = _
   simp only [Act.put, List.setIfInBounds_toArray, List.set_cons_zero, List.set_cons_succ, i64_w, i32_w]
   rfl
  refine pure_ (i := 19) (N := some 24) (v := ?_) (a' := ?_) #[true, true, true, true, true, true, true, true, true, true, true, true, true, true, true, true, true, true, true, true, false] rfl rfl (any_of HT_.out (by kernel_rfl)) (fun _ _ _ h => h) (Or.inl ⟨by rfl, ?_⟩) ?_ ?_
  rotate_left
  ·intro w'
   go_simp
   with_reducible rfl
  rotate_left
  ·simp only [Act.put, List.setIfInBounds_toArray, List.set_cons_zero, List.set_cons_succ, i64_w, i32_w]
   rfl
  refine pure_ (i := 20) (N := some 4) (v := ?_) (a' := ?_) #[true, true, true, true, true, true, true, true, true, true, true, true, true, true, true, true, true, true, true, true, true] rfl rfl (any_of HT_.out (by kernel_rfl)) (fun _ _ _ h => h) (Or.inl ⟨by rfl, ?_⟩) ?_ ?_
  rotate_left
  ·intro w'
   go_simp
   with_reducible rfl
  rotate_left
  ·simp only [Act.put, List.setIfInBounds_toArray, List.set_cons_zero, List.set_cons_succ, i64_w, i32_w]
   rfl
  refine done_ (done_of HT_.out (by kernel_rfl)) ?_
  have HB5 := Aside0.mk (below_step HBA.out b5)
  clear hHeld b5 bd
  go_wp2
  go_ret
  exact ⟨rfl, HB5.out⟩
 | true =>
  by_cases hlt : (40 : Int) < (text.length : Int)
  ·have hltb : decide ((40 : Int) < (text.length : Int)) = true := decide_eq_true hlt
   refine start_ (n := 21) (S := fun w' => w'.cell? ⟨w.heap.size, 0, none⟩ = some (.slice A0 E.length c0) ∧ w'.cell? ⟨w.heap.size, 1, none⟩ = some (.slice A1 G.length c1) ∧ w'.cell? ⟨w.heap.size, 2, none⟩ = some (.int .i64 b2) ∧ w'.cell? ⟨w.heap.size, 3, none⟩ = some (.int .i64 b3) ∧ w'.cell? ⟨w.heap.size, 4, none⟩ = some (.int .i64 b4)) (ds := []) #[false, false, false, false, false, false, false, false, false, false, false, false, false, false, false, false, false, false, false, false, false] (by kernel_rfl) rfl rfl (hS _ bd) (fun hHeld => ?_)
   refine with_tabW ofTab ofBits (fun HT_ HW_ => ?_)
   refine take_ (i := 0) (N := some 5) (v := ?_) (a' := ?_) #[true, false, false, false, false, false, false, false, false, false, false, false, false, false, false, false, false, false, false, false, false] rfl rfl (take_ofW HT_.out HW_.out (by kernel_rfl)) (fun _ _ _ h => h) (Or.inl ⟨by rfl, ?_⟩) hHeld ?_ ?_
   rotate_left
   ·rintro w' ⟨s0, s1, s2, s3, s4⟩
    go_simp
    with_reducible rfl
   rotate_left
   ·simp only [Act.put, List.setIfInBounds_toArray, List.set_cons_zero, List.set_cons_succ, i64_w, i32_w]
    rfl
   refine one_ (i := 1) (N := some 6) #[true, true, false, false, false, false, false, false, false, false, false, false, false, false, false, false, false, false, false, false, false] rfl rfl (one_of HT_.out (by kernel_rfl)) (by decide) (fun K hK => ?_)
   refine goes_ Tryz.func4 (by kernel_rfl) rfl #[.agg #[.slice A0 E.length c0, .slice A1 G.length c1, .int .i64 b2, .int .i64 b3, .int .i64 b4], .slice none 0 0] (by rfl) rfl rfl (by (try simp only [List.map_toArray, List.map_cons, List.map_nil]); first | done | rfl) ?_
   refine (HFEW.out _ (below_step HBA.out bd)).mono ?_
   rintro e w1 ⟨rfl, hb1⟩
   have b1 := below_step bd hb1
   clear hb1
   refine ⟨_, rfl, ?_⟩
   refine hK.out _ _ (hS _ b1) (fun hHeld => ?_)
   clear hK K
   refine norm_ (a' := ?_) ?_ ?_
   rotate_left
   ·show Act.put _ (some 6) _ = _
    simp only [Act.put, List.setIfInBounds_toArray, List.set_cons_zero, List.set_cons_succ, i64_w, i32_w]
    rfl
   refine pure_ (i := 2) (N := some 7) (v := ?_) (a' := ?_) #[true, true, true, false, false, false, false, false, false, false, false, false, false, false, false, false, false, false, false, false, false] rfl rfl (any_of HT_.out (by kernel_rfl)) (fun _ _ _ h => h) (Or.inl ⟨by rfl, ?_⟩) ?_ ?_
   rotate_left
   ·intro w'
    go_simp
    with_reducible rfl
   rotate_left
   ·simp only [Act.put, List.setIfInBounds_toArray, List.set_cons_zero, List.set_cons_succ, i64_w, i32_w]
    rfl
   refine pure_ (i := 3) (N := some 8) (v := ?_) (a' := ?_) #[true, true, true, true, false, false, false, false, false, false, false, false, false, false, false, false, false, false, false, false, false] rfl rfl (any_of HT_.out (by kernel_rfl)) (fun _ _ _ h => h) (Or.inl ⟨by rfl, ?_⟩) ?_ ?_
   rotate_left
   ·intro w'
    go_simp
    with_reducible rfl
   rotate_left
   ·simp only [Act.put, List.setIfInBounds_toArray, List.set_cons_zero, List.set_cons_succ, i64_w, i32_w]
    rfl
   refine pure_ (i := 4) (N := some 9) (v := ?_) (a' := ?_) #[true, true, true, true, true, false, false, false, false, false, false, false, false, false, false, false, false, false, false, false, false] rfl rfl (any_of HT_.out (by kernel_rfl)) (fun _ _ _ h => h) (Or.inl ⟨by rfl, ?_⟩) ?_ ?_
   rotate_left
   ·intro w'
    go_simp
    with_reducible rfl
   rotate_left
   ·simp only [Act.put, List.setIfInBounds_toArray, List.set_cons_zero, List.set_cons_succ, i64_w, i32_w]
    rfl
   refine pure_ (i := 5) (N := some 10) (v := ?_) (a' := ?_) #[true, true, true, true, true, true, false, false, false, false, false, false, false, false, false, false, false, false, false, false, false] rfl rfl (any_of HT_.out (by kernel_rfl)) (fun _ _ _ h => h) (Or.inl ⟨by rfl, ?_⟩) ?_ ?_
   rotate_left
   ·intro w'
    go_simp
    with_reducible rfl
   rotate_left
   ·simp only [Act.put, List.setIfInBounds_toArray, List.set_cons_zero, List.set_cons_succ, i64_w, i32_w]
    rfl
   refine pure_ (i := 6) (N := some 11) (v := ?_) (a' := ?_) #[true, true, true, true, true, true, true, false, false, false, false, false, false, false, false, false, false, false, false, false, false] rfl rfl (any_of HT_.out (by kernel_rfl)) (fun _ _ _ h => h) (Or.inl ⟨by rfl, ?_⟩) ?_ ?_
   rotate_left
   ·intro w'
    go_simp
    with_reducible rfl
   rotate_left
   ·simp only [Act.put, List.setIfInBounds_toArray, List.set_cons_zero, List.set_cons_succ, i64_w, i32_w]
    rfl
   refine pure_ (i := 7) (N := some 12) (v := ?_) (a' := ?_) #[true, true, true, true, true, true, true, true, false, false, false, false, false, false, false, false, false, false, false, false, false] rfl rfl (any_of HT_.out (by kernel_rfl)) (fun _ _ _ h => h) (Or.inl ⟨by rfl, ?_⟩) ?_ ?_
   rotate_left
   ·intro w'
    go_simp
    with_reducible rfl
   rotate_left
   ·simp only [Act.put, List.setIfInBounds_toArray, List.set_cons_zero, List.set_cons_succ, i64_w, i32_w]
    rfl
   refine pure_ (i := 8) (N := some 13) (v := ?_) (a' := ?_) #[true, true, true, true, true, true, true, true, true, false, false, false, false, false, false, false, false, false, false, false, false] rfl rfl (any_of HT_.out (by kernel_rfl)) (fun _ _ _ h => h) (Or.inl ⟨by rfl, ?_⟩) ?_ ?_
   rotate_left
   ·intro w'
    go_simp
    with_reducible rfl
   rotate_left
   ·simp only [Act.put, List.setIfInBounds_toArray, List.set_cons_zero, List.set_cons_succ, i64_w, i32_w]
    rfl
   refine pure_ (i := 9) (N := some 14) (v := undef) (a' := ?_) #[true, true, true, true, true, true, true, true, true, true, false, false, false, false, false, false, false, false, false, false, false] rfl rfl (any_of HT_.out (by kernel_rfl)) (fun _ _ _ h => h) (Or.inr ⟨by rfl, rfl⟩) ?_ ?_
   rotate_left
   ·simp only [Act.put, List.setIfInBounds_toArray, List.set_cons_zero, List.set_cons_succ, i64_w, i32_w]
    rfl
   refine pure_ (i := 10) (N := some 15) (v := undef) (a' := ?_) #[true, true, true, true, true, true, true, true, true, true, true, false, false, false, false, false, false, false, false, false, false] rfl rfl (any_of HT_.out (by kernel_rfl)) (fun _ _ _ h => h) (Or.inr ⟨by rfl, rfl⟩) ?_ ?_
   rotate_left
   ·simp only [Act.put, List.setIfInBounds_toArray, List.set_cons_zero, List.set_cons_succ, i64_w, i32_w]
    rfl
   refine pure_ (i := 12) (N := some 17) (v := undef) (a' := ?_) #[true, true, true, true, true, true, true, true, true, true, true, false, true, false, false, false, false, false, false, false, false] rfl rfl (any_of HT_.out (by kernel_rfl)) (fun _ _ _ h => h) (Or.inr ⟨by rfl, rfl⟩) ?_ ?_
   rotate_left
   ·simp only [Act.put, List.setIfInBounds_toArray, List.set_cons_zero, List.set_cons_succ, i64_w, i32_w]
    rfl
   refine pure_ (i := 13) (N := some 18) (v := undef) (a' := ?_) #[true, true, true, true, true, true, true, true, true, true, true, false, true, true, false, false, false, false, false, false, false] rfl rfl (any_of HT_.out (by kernel_rfl)) (fun _ _ _ h => h) (Or.inr ⟨by rfl, rfl⟩) ?_ ?_
   rotate_left
   ·simp only [Act.put, List.setIfInBounds_toArray, List.set_cons_zero, List.set_cons_succ, i64_w, i32_w]
    rfl
   refine pure_ (i := 11) (N := some 16) (v := undef) (a' := ?_) #[true, true, true, true, true, true, true, true, true, true, true, true, true, true, false, false, false, false, false, false, false] rfl rfl (any_of HT_.out (by kernel_rfl)) (fun _ _ _ h => h) (Or.inr ⟨by rfl, rfl⟩) ?_ ?_
   rotate_left
   ·simp only [Act.put, List.setIfInBounds_toArray, List.set_cons_zero, List.set_cons_succ, i64_w, i32_w]
    rfl
   refine pure_ (i := 14) (N := some 19) (v := undef) (a' := ?_) #[true, true, true, true, true, true, true, true, true, true, true, true, true, true, true, false, false, false, false, false, false] rfl rfl (any_of HT_.out (by kernel_rfl)) (fun _ _ _ h => h) (Or.inr ⟨by rfl, rfl⟩) ?_ ?_
   rotate_left
   ·simp only [Act.put, List.setIfInBounds_toArray, List.set_cons_zero, List.set_cons_succ, i64_w, i32_w]
    rfl
   refine pure_ (i := 15) (N := some 20) (v := undef) (a' := ?_) #[true, true, true, true, true, true, true, true, true, true, true, true, true, true, true, true, false, false, false, false, false] rfl rfl (any_of HT_.out (by kernel_rfl)) (fun _ _ _ h => h) (Or.inr ⟨by rfl, rfl⟩) ?_ ?_
   rotate_left
   ·simp only [Act.put, List.setIfInBounds_toArray, List.set_cons_zero, List.set_cons_succ, i64_w, i32_w]
    rfl
   refine pure_ (i := 16) (N := some 21) (v := ?_) (a' := ?_) #[true, true, true, true, true, true, true, true, true, true, true, true, true, true, true, true, true, false, false, false, false] rfl rfl (any_of HT_.out (by kernel_rfl)) (fun _ _ _ h => h) (Or.inl ⟨by rfl, ?_⟩) ?_ ?_
   rotate_left
   ·intro w'
    go_simp
    with_reducible rfl
   rotate_left
   ·simp only [Act.put, List.setIfInBounds_toArray, List.set_cons_zero, List.set_cons_succ, i64_w, i32_w]
    rfl
   refine pure_ (i := 17) (N := some 22) (v := ?_) (a' := ?_) #[true, true, true, true, true, true, true, true, true, true, true, true, true, true, true, true, true, true, false, false, false] rfl rfl (any_of HT_.out (by kernel_rfl)) (fun _ _ _ h => h) (Or.inl ⟨by rfl, ?_⟩) ?_ ?_
   rotate_left
   ·intro w'
    go_simp
    with_reducible rfl
   rotate_left
   ·simp only [Act.put, List.setIfInBounds_toArray, List.set_cons_zero, List.set_cons_succ, i64_w, i32_w]
    rfl
   refine one_ (i := 18) (N := some 23) #[true, true, true, true, true, true, true, true, true, true, true, true, true, true, true, true, true, true, true, false, false] rfl rfl (one_of HT_.out (by kernel_rfl)) (by decide) (fun K hK => ?_)
   refine goes_ Tryz.func8 (by kernel_rfl) rfl #[] (by rfl) rfl rfl (by (try simp only [List.map_toArray, List.map_cons, List.map_nil]); first | done | rfl) ?_
   refine (HAL.out _).mono ?_
   rintro e w5 ⟨rfl, hb5⟩
   have b5 := below_step b1 hb5
   clear hb5
   refine ⟨_, rfl, ?_⟩
   refine hK.out _ _ (hS _ b5) (fun hHeld => ?_)
   clear hK K
   refine norm_ (a' := ?_) ?_ ?_
   rotate_left
   ·show Act.put _ (some 23) _ = _
    simp only [Act.put, List.setIfInBounds_toArray, List.set_cons_zero, List.set_cons_succ, i64_w, i32_w]
    rfl
   refine pure_ (i := 19) (N := some 24) (v := ?_) (a' := ?_) #[true, true, true, true, true, true, true, true, true, true, true, true, true, true, true, true, true, true, true, true, false] rfl rfl (any_of HT_.out (by kernel_rfl)) (fun _ _ _ h => h) (Or.inl ⟨by rfl, ?_⟩) ?_ ?_
   rotate_left
   ·intro w'
    go_simp
    with_reducible rfl
   rotate_left
   ·simp only [Act.put, List.setIfInBounds_toArray, List.set_cons_zero, List.set_cons_succ, i64_w, i32_w]
    rfl
   refine pure_ (i := 20) (N := some 4) (v := ?_) (a' := ?_) #[true, true, true, true, true, true, true, true, true, true, true, true, true, true, true, true, true, true, true, true, true] rfl rfl (any_of HT_.out (by kernel_rfl)) (fun _ _ _ h => h) (Or.inl ⟨by rfl, ?_⟩) ?_ ?_
   rotate_left
   ·intro w'
    go_simp
    with_reducible rfl
   rotate_left
   ·simp only [Act.put, List.setIfInBounds_toArray, List.set_cons_zero, List.set_cons_succ, i64_w, i32_w]
    rfl
   refine done_ (done_of HT_.out (by kernel_rfl)) ?_
   have HB5 := Aside0.mk (below_step HBA.out b5)
   clear hHeld b5 bd
   go_wp2
   go_ret
   exact ⟨rfl, HB5.out⟩
  ·have hltb : decide ((40 : Int) < (text.length : Int)) = false := decide_eq_false hlt
   have HLE : text.length ≤ 40 := by omega
   have HGO2 := Aside0.mk (HGO.out rfl HLE)
   have HRO2 := Aside0.mk (HRO.out rfl HLE)
   clear HLE HGO HRO
   refine start_ (n := 21) (S := fun w' => w'.cell? ⟨w.heap.size, 0, none⟩ = some (.slice A0 E.length c0) ∧ w'.cell? ⟨w.heap.size, 1, none⟩ = some (.slice A1 G.length c1) ∧ w'.cell? ⟨w.heap.size, 2, none⟩ = some (.int .i64 b2) ∧ w'.cell? ⟨w.heap.size, 3, none⟩ = some (.int .i64 b3) ∧ w'.cell? ⟨w.heap.size, 4, none⟩ = some (.int .i64 b4)) (ds := []) #[false, false, false, false, false, false, false, false, false, false, false, false, false, false, false, false, false, false, false, false, false] (by kernel_rfl) rfl rfl (hS _ bd) (fun hHeld => ?_)
   refine with_tabW ofTab ofBits (fun HT_ HW_ => ?_)
   refine take_ (i := 0) (N := some 5) (v := ?_) (a' := ?_) #[true, false, false, false, false, false, false, false, false, false, false, false, false, false, false, false, false, false, false, false, false] rfl rfl (take_ofW HT_.out HW_.out (by kernel_rfl)) (fun _ _ _ h => h) (Or.inl ⟨by rfl, ?_⟩) hHeld ?_ ?_
   rotate_left
   ·rintro w' ⟨s0, s1, s2, s3, s4⟩
    go_simp
    with_reducible rfl
   rotate_left
   ·simp only [Act.put, List.setIfInBounds_toArray, List.set_cons_zero, List.set_cons_succ, i64_w, i32_w]
    rfl
   refine one_ (i := 1) (N := some 6) #[true, true, false, false, false, false, false, false, false, false, false, false, false, false, false, false, false, false, false, false, false] rfl rfl (one_of HT_.out (by kernel_rfl)) (by decide) (fun K hK => ?_)
   refine goes_ Tryz.func4 (by kernel_rfl) rfl #[.agg #[.slice A0 E.length c0, .slice A1 G.length c1, .int .i64 b2, .int .i64 b3, .int .i64 b4], .slice none 0 0] (by rfl) rfl rfl (by (try simp only [List.map_toArray, List.map_cons, List.map_nil]); first | done | rfl) ?_
   refine (HFEW.out _ (below_step HBA.out bd)).mono ?_
   rintro e w1 ⟨rfl, hb1⟩
   have b1 := below_step bd hb1
   clear hb1
   refine ⟨_, rfl, ?_⟩
   refine hK.out _ _ (hS _ b1) (fun hHeld => ?_)
   clear hK K
   refine norm_ (a' := ?_) ?_ ?_
   rotate_left
   ·show Act.put _ (some 6) _ = _
    simp only [Act.put, List.setIfInBounds_toArray, List.set_cons_zero, List.set_cons_succ, i64_w, i32_w]
    rfl
   refine pure_ (i := 2) (N := some 7) (v := ?_) (a' := ?_) #[true, true, true, false, false, false, false, false, false, false, false, false, false, false, false, false, false, false, false, false, false] rfl rfl (any_of HT_.out (by kernel_rfl)) (fun _ _ _ h => h) (Or.inl ⟨by rfl, ?_⟩) ?_ ?_
   rotate_left
   ·intro w'
    go_simp
    with_reducible rfl
   rotate_left
   ·simp only [Act.put, List.setIfInBounds_toArray, List.set_cons_zero, List.set_cons_succ, i64_w, i32_w]
    rfl
   refine pure_ (i := 3) (N := some 8) (v := ?_) (a' := ?_) #[true, true, true, true, false, false, false, false, false, false, false, false, false, false, false, false, false, false, false, false, false] rfl rfl (any_of HT_.out (by kernel_rfl)) (fun _ _ _ h => h) (Or.inl ⟨by rfl, ?_⟩) ?_ ?_
   rotate_left
   ·intro w'
    go_simp
    with_reducible rfl
   rotate_left
   ·simp only [Act.put, List.setIfInBounds_toArray, List.set_cons_zero, List.set_cons_succ, i64_w, i32_w]
    rfl
   refine pure_ (i := 4) (N := some 9) (v := ?_) (a' := ?_) #[true, true, true, true, true, false, false, false, false, false, false, false, false, false, false, false, false, false, false, false, false] rfl rfl (any_of HT_.out (by kernel_rfl)) (fun _ _ _ h => h) (Or.inl ⟨by rfl, ?_⟩) ?_ ?_
   rotate_left
   ·intro w'
    go_simp
    with_reducible rfl
   rotate_left
   ·simp only [Act.put, List.setIfInBounds_toArray, List.set_cons_zero, List.set_cons_succ, i64_w, i32_w]
    rfl
   refine pure_ (i := 5) (N := some 10) (v := ?_) (a' := ?_) #[true, true, true, true, true, true, false, false, false, false, false, false, false, false, false, false, false, false, false, false, false] rfl rfl (any_of HT_.out (by kernel_rfl)) (fun _ _ _ h => h) (Or.inl ⟨by rfl, ?_⟩) ?_ ?_
   rotate_left
   ·intro w'
    go_simp
    with_reducible rfl
   rotate_left
   ·simp only [Act.put, List.setIfInBounds_toArray, List.set_cons_zero, List.set_cons_succ, i64_w, i32_w]
    rfl
   refine pure_ (i := 6) (N := some 11) (v := ?_) (a' := ?_) #[true, true, true, true, true, true, true, false, false, false, false, false, false, false, false, false, false, false, false, false, false] rfl rfl (any_of HT_.out (by kernel_rfl)) (fun _ _ _ h => h) (Or.inl ⟨by rfl, ?_⟩) ?_ ?_
   rotate_left
   ·intro w'
    go_simp
    with_reducible rfl
   rotate_left
   ·simp only [Act.put, List.setIfInBounds_toArray, List.set_cons_zero, List.set_cons_succ, i64_w, i32_w]
    rfl
   refine pure_ (i := 7) (N := some 12) (v := ?_) (a' := ?_) #[true, true, true, true, true, true, true, true, false, false, false, false, false, false, false, false, false, false, false, false, false] rfl rfl (any_of HT_.out (by kernel_rfl)) (fun _ _ _ h => h) (Or.inl ⟨by rfl, ?_⟩) ?_ ?_
   rotate_left
   ·intro w'
    go_simp
    with_reducible rfl
   rotate_left
   ·simp only [Act.put, List.setIfInBounds_toArray, List.set_cons_zero, List.set_cons_succ, i64_w, i32_w]
    rfl
   refine pure_ (i := 8) (N := some 13) (v := ?_) (a' := ?_) #[true, true, true, true, true, true, true, true, true, false, false, false, false, false, false, false, false, false, false, false, false] rfl rfl (any_of HT_.out (by kernel_rfl)) (fun _ _ _ h => h) (Or.inl ⟨by rfl, ?_⟩) ?_ ?_
   rotate_left
   ·intro w'
    go_simp
    with_reducible rfl
   rotate_left
   ·simp only [Act.put, List.setIfInBounds_toArray, List.set_cons_zero, List.set_cons_succ, i64_w, i32_w]
    rfl
   refine take_ (i := 9) (N := some 14) (v := ?_) (a' := ?_) #[true, true, true, true, true, true, true, true, true, true, false, false, false, false, false, false, false, false, false, false, false] rfl rfl (take_ofW HT_.out HW_.out (by kernel_rfl)) (fun _ _ _ h => h) (Or.inl ⟨by rfl, ?_⟩) hHeld ?_ ?_
   rotate_left
   ·rintro w' ⟨s0, s1, s2, s3, s4⟩
    go_simp
    with_reducible rfl
   rotate_left
   ·simp only [Act.put, List.setIfInBounds_toArray, List.set_cons_zero, List.set_cons_succ, i64_w, i32_w]
    rfl
   refine pure_ (i := 10) (N := some 15) (v := ?_) (a' := ?_) #[true, true, true, true, true, true, true, true, true, true, true, false, false, false, false, false, false, false, false, false, false] rfl rfl (any_of HT_.out (by kernel_rfl)) (fun _ _ _ h => h) (Or.inl ⟨by rfl, ?_⟩) ?_ ?_
   rotate_left
   ·intro w'
    go_simp
    with_reducible rfl
   rotate_left
   ·simp only [Act.put, List.setIfInBounds_toArray, List.set_cons_zero, List.set_cons_succ, i64_w, i32_w]
    rfl
   refine take_ (i := 12) (N := some 17) (v := ?_) (a' := ?_) #[true, true, true, true, true, true, true, true, true, true, true, false, true, false, false, false, false, false, false, false, false] rfl rfl (take_ofW HT_.out HW_.out (by kernel_rfl)) (fun _ _ _ h => h) (Or.inl ⟨by rfl, ?_⟩) hHeld ?_ ?_
   rotate_left
   ·rintro w' ⟨s0, s1, s2, s3, s4⟩
    go_simp
    with_reducible rfl
   rotate_left
   ·simp only [Act.put, List.setIfInBounds_toArray, List.set_cons_zero, List.set_cons_succ, i64_w, i32_w]
    rfl
   refine pure_ (i := 13) (N := some 18) (v := ?_) (a' := ?_) #[true, true, true, true, true, true, true, true, true, true, true, false, true, true, false, false, false, false, false, false, false] rfl rfl (any_of HT_.out (by kernel_rfl)) (fun _ _ _ h => h) (Or.inl ⟨by rfl, ?_⟩) ?_ ?_
   rotate_left
   ·intro w'
    go_simp
    with_reducible rfl
   rotate_left
   ·simp only [Act.put, List.setIfInBounds_toArray, List.set_cons_zero, List.set_cons_succ, i64_w, i32_w]
    rfl
   refine one_ (i := 11) (N := some 16) #[true, true, true, true, true, true, true, true, true, true, true, true, true, true, false, false, false, false, false, false, false] rfl rfl (one_of HT_.out (by kernel_rfl)) (by decide) (fun K hK => ?_)
   refine goes_ Tryz.func6 (by kernel_rfl) rfl #[.agg #[.slice A0 E.length c0, .slice A1 G.length c1, .int .i64 b2, .int .i64 b3, .int .i64 b4], .slice A text.length c] (by rfl) rfl rfl (by (try simp only [List.map_toArray, List.map_cons, List.map_nil]); first | done | rfl) ?_
   refine (HGO2.out _ (below_step HBA.out b1)).mono ?_
   rintro e w2 ⟨v2, rfl, hR2, hb2⟩
   have b2' := below_step b1 hb2
   obtain ⟨A2, c2, rfl, hle2, hC2⟩ := Kd.R_reads hR2
   clear hR2 hb2
   refine ⟨_, rfl, ?_⟩
   refine hK.out _ _ (hS _ b2') (fun hHeld => ?_)
   clear hK K
   refine norm_ (a' := ?_) ?_ ?_
   rotate_left
   ·show Act.put _ (some 16) _ = _
    simp only [Act.put, List.setIfInBounds_toArray, List.set_cons_zero, List.set_cons_succ, i64_w, i32_w]
    rfl
   refine one_ (i := 14) (N := some 19) #[true, true, true, true, true, true, true, true, true, true, true, true, true, true, true, false, false, false, false, false, false] rfl rfl (one_of HT_.out (by kernel_rfl)) (by decide) (fun K hK => ?_)
   refine goes_ Tryz.func7 (by kernel_rfl) rfl #[.agg #[.slice A0 E.length c0, .slice A1 G.length c1, .int .i64 b2, .int .i64 b3, .int .i64 b4], .slice A text.length c] (by rfl) rfl rfl (by (try simp only [List.map_toArray, List.map_cons, List.map_nil]); first | done | rfl) ?_
   refine (HRO2.out _ (below_step HBA.out b2')).mono ?_
   rintro e w3 ⟨v3, rfl, hR3, hb3⟩
   have b3' := below_step b2' hb3
   obtain ⟨A3, c3, rfl, hle3, hC3⟩ := Kd.R_reads hR3
   clear hR3
   refine ⟨_, rfl, ?_⟩
   refine hK.out _ _ (hS _ b3') (fun hHeld => ?_)
   clear hK K
   refine norm_ (a' := ?_) ?_ ?_
   rotate_left
   ·show Act.put _ (some 19) _ = _
    simp only [Act.put, List.setIfInBounds_toArray, List.set_cons_zero, List.set_cons_succ, i64_w, i32_w]
    rfl
   refine one_ (i := 15) (N := some 20) #[true, true, true, true, true, true, true, true, true, true, true, true, true, true, true, true, false, false, false, false, false] rfl rfl (one_of HT_.out (by kernel_rfl)) (by decide) (fun K hK => ?_)
   refine goes_ Tryz.func5 (by kernel_rfl) rfl #[.slice A2 N.length c2, .slice A3 N.length c3] (by rfl) rfl rfl (by (try simp only [List.map_toArray, List.map_cons, List.map_nil]); first | done | rfl) ?_
   refine (HST.out _ A2 A3 c2 c3 (Kd.C_below hC2 hb3) hle2 hC3 hle3).mono ?_
   rintro e w4 ⟨rfl, hd4⟩
   have b4' := below_step b3' hd4.below
   clear hd4 hb3 hC2 hC3 hle2 hle3
   refine ⟨_, rfl, ?_⟩
   refine hK.out _ _ (hS _ b4') (fun hHeld => ?_)
   clear hK K
   refine norm_ (a' := ?_) ?_ ?_
   rotate_left
   ·show Act.put _ (some 20) _ = _
    simp only [Act.put, List.setIfInBounds_toArray, List.set_cons_zero, List.set_cons_succ, i64_w, i32_w]
    rfl
   refine pure_ (i := 16) (N := some 21) (v := ?_) (a' := ?_) #[true, true, true, true, true, true, true, true, true, true, true, true, true, true, true, true, true, false, false, false, false] rfl rfl (any_of HT_.out (by kernel_rfl)) (fun _ _ _ h => h) (Or.inl ⟨by rfl, ?_⟩) ?_ ?_
   rotate_left
   ·intro w'
    go_simp
    with_reducible rfl
   rotate_left
   ·simp only [Act.put, List.setIfInBounds_toArray, List.set_cons_zero, List.set_cons_succ, i64_w, i32_w]
    rfl
   refine pure_ (i := 17) (N := some 22) (v := ?_) (a' := ?_) #[true, true, true, true, true, true, true, true, true, true, true, true, true, true, true, true, true, true, false, false, false] rfl rfl (any_of HT_.out (by kernel_rfl)) (fun _ _ _ h => h) (Or.inl ⟨by rfl, ?_⟩) ?_ ?_
   rotate_left
   ·intro w'
    go_simp
    with_reducible rfl
   rotate_left
   ·simp only [Act.put, List.setIfInBounds_toArray, List.set_cons_zero, List.set_cons_succ, i64_w, i32_w]
    rfl
   refine one_ (i := 18) (N := some 23) #[true, true, true, true, true, true, true, true, true, true, true, true, true, true, true, true, true, true, true, false, false] rfl rfl (one_of HT_.out (by kernel_rfl)) (by decide) (fun K hK => ?_)
   refine goes_ Tryz.func8 (by kernel_rfl) rfl #[] (by rfl) rfl rfl (by (try simp only [List.map_toArray, List.map_cons, List.map_nil]); first | done | rfl) ?_
   refine (HAL.out _).mono ?_
   rintro e w5 ⟨rfl, hb5⟩
   have b5 := below_step b4' hb5
   clear hb5
   refine ⟨_, rfl, ?_⟩
   refine hK.out _ _ (hS _ b5) (fun hHeld => ?_)
   clear hK K
   refine norm_ (a' := ?_) ?_ ?_
   rotate_left
   ·show Act.put _ (some 23) _ = _
    simp only [Act.put, List.setIfInBounds_toArray, List.set_cons_zero, List.set_cons_succ, i64_w, i32_w]
    rfl
   refine pure_ (i := 19) (N := some 24) (v := ?_) (a' := ?_) #[true, true, true, true, true, true, true, true, true, true, true, true, true, true, true, true, true, true, true, true, false] rfl rfl (any_of HT_.out (by kernel_rfl)) (fun _ _ _ h => h) (Or.inl ⟨by rfl, ?_⟩) ?_ ?_
   rotate_left
   ·intro w'
    go_simp
    with_reducible rfl
   rotate_left
   ·simp only [Act.put, List.setIfInBounds_toArray, List.set_cons_zero, List.set_cons_succ, i64_w, i32_w]
    rfl
   refine pure_ (i := 20) (N := some 4) (v := ?_) (a' := ?_) #[true, true, true, true, true, true, true, true, true, true, true, true, true, true, true, true, true, true, true, true, true] rfl rfl (any_of HT_.out (by kernel_rfl)) (fun _ _ _ h => h) (Or.inl ⟨by rfl, ?_⟩) ?_ ?_
   rotate_left
   ·intro w'
    go_simp
    with_reducible rfl
   rotate_left
   ·simp only [Act.put, List.setIfInBounds_toArray, List.set_cons_zero, List.set_cons_succ, i64_w, i32_w]
    rfl
   refine done_ (done_of HT_.out (by kernel_rfl)) ?_
   have HB5 := Aside0.mk (below_step HBA.out b5)
   clear hHeld b5 bd
   go_wp2
   go_ret
   exact ⟨rfl, HB5.out⟩
end Go.Proofs.YtfcpebjjcijgcaaGreatDoor.G
-- unicodetext/unicodetextref01.Equal: printed by gprint.py
namespace Go.Proofs.YtfcpebjjcijgcaaGreatDoor.G
open Go.RowKit Go.Proofs.YtfcpebjjcijgcaaGreatDoorW.PrintWords Go.Proofs.YtfcpebjjcijgcaaGreatDoorW.PrintLast Go.Proofs.YtfcpebjjcijgcaaGreatDoorW.PrintMore
attribute [local go_sem] max2_int min2_int max_two min_two max_three min_three max_four min_four   -- for this text's walks alone
set_option linter.unusedVariables false
set_option linter.unusedSimpArgs false
/-! ### unicodetextref01_Equal: function 63 -/
def unicodetextref01_Equal.f (k : Nat) (l0 : List Int) (l1 : List Int) : Option (Bool) := (unicodetextref01_Compare.f k l0 l1).bind fun t101 => (some (t101 == 0))
set_option maxHeartbeats 8000000 in
set_option maxRecDepth 100000 in
theorem unicodetextref01_Equal.calls (k : Nat) (A0 : Option Addr) (c0 : Nat) (l0 : List Int) (A1 : Option Addr) (c1 : Nat) (l1 : List Int) (r : Bool) (w : World) (hr0 : Kd.C (Kd.int .i64) w A0 l0.length l0) (hc0 : l0.length ≤ c0) (hr1 : Kd.C (Kd.int .i64) w A1 l1.length l1) (hc1 : l1.length ≤ c1) (h : unicodetextref01_Equal.f k l0 l1 = some r) :
    Calls Tryz.prog 63 #[.slice A0 l0.length c0, .slice A1 l1.length c1] w fun e w' => e = .returned (.bool r) ∧ Drawn0 w w' := by
  have HR0 := Aside0.mk hr0
  have HC0 := Aside0.mk hc0
  clear hr0 hc0
  have HR1 := Aside0.mk hr1
  have HC1 := Aside0.mk hc1
  clear hr1 hc1
  have H : ((unicodetextref01_Compare.f k l0 l1).bind fun t101 => (some (t101 == 0))) = some r := h
  clear h
  replace H := Option.bind_eq_some_iff.mp H
  obtain ⟨t101, A30, H⟩ := H
  replace H : (some (t101 == 0)) = some r := H
  have A3 := Aside0.mk A30
  clear A30
  obtain rfl := Option.some.inj H
  go_enter Tryz.func63, Tryz.ntmps63
  go_wp2_with (first | ((with_reducible refine gate_callee (f := 44) rfl ?_); refine goesL_ (some 7) rfl rfl Tryz.func44 (by kernel_rfl) rfl #[.slice A0 l0.length c0, .slice A1 l1.length c1] rfl (by (try simp only [List.map_toArray, List.map_cons, List.map_nil]); first | done | rfl | (simp only [List.length_drop, List.length_take]; rfl)) ?_; (with_reducible refine (unicodetextref01_Compare.calls k _ _ l0 _ _ l1 t101 _ ?side1 ?side2 ?side3 ?side4 A3.out).mono ?_); (case side1 => repeat (first | exact HR0.out | (with_reducible refine Kd.C_alloc ?_ _) | (with_reducible refine Kd.C_drewN ?_ _) | (with_reducible refine Kd.C_drew ?_))); (case side2 => exact HC0.out); (case side3 => repeat (first | exact HR1.out | (with_reducible refine Kd.C_alloc ?_ _) | (with_reducible refine Kd.C_drewN ?_ _) | (with_reducible refine Kd.C_drew ?_))); (case side4 => exact HC1.out); rintro e w' ⟨rfl, ⟨nd, rfl⟩⟩; refine ⟨_, rfl, ?_⟩))
  go_ret
  exact ⟨by first | rfl | (simp; done) | (simp [*]; done), by repeat (first | exact Drawn0.refl _ | apply Drawn0.step)⟩
end Go.Proofs.YtfcpebjjcijgcaaGreatDoor.G
-- unicodetext/unicodetextref43.find: printed by gprint.py
namespace Go.Proofs.YtfcpebjjcijgcaaGreatDoor.G
open Go.RowKit Go.Proofs.YtfcpebjjcijgcaaGreatDoorW.PrintWords Go.Proofs.YtfcpebjjcijgcaaGreatDoorW.PrintLast Go.Proofs.YtfcpebjjcijgcaaGreatDoorW.PrintMore
attribute [local go_sem] max2_int min2_int max_two min_two max_three min_three max_four min_four   -- for this text's walks alone
set_option linter.unusedVariables false
set_option linter.unusedSimpArgs false
/-! ### unicodetextref43_find: function 45 -/
def unicodetextref43_find.l0 : Nat → List Int → Int → List (S50) → List (S43) → Int → Int → Int → Option ((List (S41)) × Bool)
  | 0, _, _, _, _, _, _, _ => none
  | k + 1, x1, x6, x102000, x102001, x102002, x102003, x102004 => if x6 < (x102000.length : Int) then (if 0 ≤ x6 then ((unicodetextref01_Equal.f k ((rd_T50 x102000 x6).f0) x1).bind fun t103 => (if t103 = true then ((some (([] : List (S41)) : List (S41))).bind fun y104 => (if y104.length + ((rd_T50 x102000 x6).f1).length < 4398046511104 then (some ((y104 ++ ((rd_T50 x102000 x6).f1)), true)) else (none))) else (unicodetextref43_find.l0 k x1 (wrap64 (x6 + 1)) x102000 x102001 x102002 x102003 x102004))) else (none)) else (some (([] : List (S41)), false))
def unicodetextref43_find.f (k : Nat) (l0_0 : List (S50)) (l0_1 : List (S43)) (a0_2 : Int) (a0_3 : Int) (a0_4 : Int) (l1 : List Int) : Option ((List (S41)) × Bool) := unicodetextref43_find.l0 k l1 0 l0_0 l0_1 a0_2 a0_3 a0_4
set_option maxHeartbeats 8000000 in
set_option maxRecDepth 100000 in
theorem unicodetextref43_find.calls (k : Nat) (A0_0 : Option Addr) (c0_0 : Nat) (l0_0 : List (S50)) (A0_1 : Option Addr) (c0_1 : Nat) (l0_1 : List (S43)) (a0_2 : Int) (a0_3 : Int) (a0_4 : Int) (A1 : Option Addr) (c1 : Nat) (l1 : List Int) (r1 : List (S41)) (r2 : Bool) (w : World) (hr0_0 : Kd.C k50 w A0_0 l0_0.length l0_0) (hc0_0 : l0_0.length ≤ c0_0) (hr0_1 : Kd.C k43 w A0_1 l0_1.length l0_1) (hc0_1 : l0_1.length ≤ c0_1) (hr1 : Kd.C (Kd.int .i64) w A1 l1.length l1) (hc1 : l1.length ≤ c1) (h : unicodetextref43_find.f k l0_0 l0_1 a0_2 a0_3 a0_4 l1 = some (r1, r2)) :
    Calls Tryz.prog 45 #[.agg #[.slice A0_0 l0_0.length c0_0, .slice A0_1 l0_1.length c0_1, .int .i64 a0_2, .int .i64 a0_3, .int .i64 a0_4], .slice A1 l1.length c1] w fun e w' => ∃ v0_ : Value, e = .returned (.tuple #[v0_, .bool r2]) ∧ Kd.R k41 41 w' w.heap.size (fun _ => True) v0_ r1 ∧ Below w.heap.size w w' := by
  have hu25 := Tryz.underlying25
  have HR0_0 := Aside0.mk hr0_0
  have HC0_0 := Aside0.mk hc0_0
  clear hr0_0 hc0_0
  have HR0_1 := Aside0.mk hr0_1
  have HC0_1 := Aside0.mk hc0_1
  clear hr0_1 hc0_1
  have HR1 := Aside0.mk hr1
  have HC1 := Aside0.mk hc1
  clear hr1 hc1
  have HB := Aside0.mk (Below.refl w.heap.size w)
  have H : (unicodetextref43_find.l0 k l1 0 l0_0 l0_1 a0_2 a0_3 a0_4) = some (r1, r2) := h
  clear h
  have H' := Aside0.mk H
  clear H
  go_enter Tryz.func45, Tryz.ntmps45
  go_wp2_with (first | ((with_reducible refine gate_dst (N := 2) rfl ?_); refine box_event ?hg (N := 2) ?hd (cs := #[.slice A0_0 l0_0.length c0_0, .slice A0_1 l0_1.length c0_1, .int .i64 a0_2, .int .i64 a0_3, .int .i64 a0_4]) (t := 25) ?hr ?_; (case hd => rfl); (case hg => rfl); (case hr => first | (go_simp; done) | (go_simp; rfl)); intro gb101 hg w3 hbox hb; have n0_ := Aside0.mk (below_step (by repeat (first | (with_reducible first | exact HB.out | apply below_alloc | apply pw_below_drewN | apply below_drew1) | exact HB.out)) hb); have n1_ := Aside0.mk (hbox); have n2_ := Aside0.mk ((by rw [hg]; exact (below_size (by repeat (first | (with_reducible first | exact HB.out | apply below_alloc | apply pw_below_drewN | apply below_drew1) | exact HB.out))) : w.heap.size ≤ gb101)); have n3_ := Aside0.mk ((by rw [hg]; exact (below_size (by repeat (first | (with_reducible first | exact HB.out | apply below_alloc | apply pw_below_drewN | apply below_drew1) | exact HB.out))) : w.heap.size ≤ gb101)); clear HB; have HB := n0_; have BK101 := n1_; have GW101 := n2_; have GE101 := n3_; clear n0_ n1_ n2_ n3_; clear hb hbox hg))
  go_loopg [6] k (fun kq v6 w' => ∃ (x6_1 : Int), v6 = .int .i64 x6_1 ∧ Aside0 (unicodetextref43_find.l0 kq l1 x6_1 l0_0 l0_1 a0_2 a0_3 a0_4 = some (r1, r2)) ∧ Aside0 (kq ≤ k) ∧ Aside0 (w'.heap[gb101]? = some (.cells #[(.slice A0_0 l0_0.length c0_0), (.slice A0_1 l0_1.length c0_1), .int .i64 a0_2, .int .i64 a0_3, .int .i64 a0_4] 25 (0, 0))) ∧ Aside0 (Below w.heap.size w w'))
  case atStart => exact ⟨(0), (by first | rfl | (simp; done) | (simp [*]; done)), H', ⟨Nat.le_refl _⟩, ⟨by (with_reducible repeat (first | refine blk_drewN ?_ _ | refine blk_drew ?_ | refine blk_alloc ?_ _)); exact BK101.out⟩, ⟨by repeat (first | (with_reducible first | exact HB.out | apply below_alloc | apply pw_below_drewN | apply below_drew1 | refine below_set ?_ GE101.out) | exact HB.out)⟩⟩
  case round =>
    clear H'
    try clear c1
    try clear p2
    obtain ⟨x6_1, rfl, HA, HK1, BK101, HB⟩ := hrel
    cases gk with
    | zero => exact absurd HA.out (by simp [unicodetextref43_find.l0])
    | succ k1 =>
      have H := HA.out
      clear HA
      simp only [unicodetextref43_find.l0] at H
      by_cases c4 : x6_1 < (l0_0.length : Int)
      · rw [if_pos c4] at H
        have c4b0 : decide (x6_1 < (l0_0.length : Int)) = true := decide_eq_true c4
        clear c4
        by_cases c5 : 0 ≤ x6_1
        · rw [if_pos c5] at H
          have c5b0 : decide (0 ≤ x6_1) = true := decide_eq_true c5
          clear c5
          replace H := Option.bind_eq_some_iff.mp H
          obtain ⟨t103, A60, H⟩ := H
          replace H : (if t103 = true then ((some (([] : List (S41)) : List (S41))).bind fun y104 => (if y104.length + ((rd_T50 l0_0 x6_1).f1).length < 4398046511104 then (some ((y104 ++ ((rd_T50 l0_0 x6_1).f1)), true)) else (none))) else (unicodetextref43_find.l0 k1 l1 (wrap64 (x6_1 + 1)) l0_0 l0_1 a0_2 a0_3 a0_4)) = some (r1, r2) := H
          have A6 := Aside0.mk A60
          clear A60
          by_cases c7 : t103 = true
          · subst c7
            have H1 : ((some (([] : List (S41)) : List (S41))).bind fun y104 => (if y104.length + ((rd_T50 l0_0 x6_1).f1).length < 4398046511104 then (some ((y104 ++ ((rd_T50 l0_0 x6_1).f1)), true)) else (none))) = some (r1, r2) := by rw [if_pos rfl] at H; exact H
            clear H
            have H := H1
            clear H1
            obtain ⟨y104, hy104⟩ : ∃ y_ : List (S41), y_ = (([] : List (S41))) := ⟨_, rfl⟩
            replace H : (if y104.length + ((rd_T50 l0_0 x6_1).f1).length < 4398046511104 then (some ((y104 ++ ((rd_T50 l0_0 x6_1).f1)), true)) else (none)) = some (r1, r2) := by first | (rw [hy104]; with_reducible exact H) | (have H2_ := (Option.bind_some _ _).symm.trans H; rw [hy104]; with_reducible exact H2_) | (have H2_ := (Option.bind_some _ _).symm.trans H; with_reducible exact H2_) | with_reducible exact H | (rw [hy104]; exact H) | exact H
            have Ny104 := Aside0.mk hy104
            clear hy104
            by_cases c8 : y104.length + ((rd_T50 l0_0 x6_1).f1).length < 4398046511104
            · rw [if_pos c8] at H
              have LMc8 := Aside0.mk c8
              clear c8
              obtain ⟨y108, hy108⟩ : ∃ y_ : List (S41), y_ = (y104 ++ ((rd_T50 l0_0 x6_1).f1)) := ⟨_, rfl⟩
              replace H : (some (y108, true)) = some (r1, r2) := by first | (rw [hy108]; with_reducible exact H) | (have H2_ := (Option.bind_some _ _).symm.trans H; rw [hy108]; with_reducible exact H2_) | (have H2_ := (Option.bind_some _ _).symm.trans H; with_reducible exact H2_) | with_reducible exact H | (rw [hy108]; exact H) | exact H
              have Ny108 := Aside0.mk hy108
              clear hy108
              simp only [Option.some.injEq, Prod.mk.injEq] at H
              obtain ⟨rfl, rfl⟩ := H
              have hcz9_0 : wr.cell? ⟨gb101, 0, none⟩ = some (.slice A0_0 l0_0.length c0_0) := (blk_cell BK101.out 0).trans rfl
              have hcz9_1 : wr.cell? ⟨gb101, 1, none⟩ = some (.slice A0_1 l0_1.length c0_1) := (blk_cell BK101.out 1).trans rfl
              have hcz9_2 : wr.cell? ⟨gb101, 2, none⟩ = some (.int .i64 a0_2) := (blk_cell BK101.out 2).trans rfl
              have hcz9_3 : wr.cell? ⟨gb101, 3, none⟩ = some (.int .i64 a0_3) := (blk_cell BK101.out 3).trans rfl
              have hcz9_4 : wr.cell? ⟨gb101, 4, none⟩ = some (.int .i64 a0_4) := (blk_cell BK101.out 4).trans rfl
              have hfz9_0 := blk_frozen BK101.out 0
              have hfz9_1 := blk_frozen BK101.out 1
              have hfz9_2 := blk_frozen BK101.out 2
              have hfz9_3 := blk_frozen BK101.out 3
              have hfz9_4 := blk_frozen BK101.out 4
              have p102 : 0 ≤ (x6_1 : Int) := of_decide_eq_true (by first | (with_reducible assumption) | assumption)
              have q102 : x6_1 < (l0_0.length : Int) := of_decide_eq_true (by first | (with_reducible assumption) | assumption)
              obtain ⟨ad102, A102_0, c102_0, A102_1, c102_1, e102, hx102_0, hx102_1, hl102_0, hi102_0, hl102_1, hi102_1⟩ := at_T50 HR0_0.out x6_1 p102 q102
              cases e102
              replace hx102_0 := (HB.out.cell (World.block_lt_of_cell? w _ hx102_0)).trans hx102_0
              replace hx102_1 := (HB.out.cell (World.block_lt_of_cell? w _ hx102_1)).trans hx102_1
              have HR102_0 := Aside0.mk hi102_0
              have HC102_0 := Aside0.mk hl102_0
              clear hi102_0 hl102_0
              have HR102_1 := Aside0.mk hi102_1
              have HC102_1 := Aside0.mk hl102_1
              clear hi102_1 hl102_1
              replace p102 := eq_true p102
              replace q102 := eq_true q102
              go_wp2_with (first | ((with_reducible refine gate_callee (f := 63) rfl ?_); refine goesL_ (some 21) rfl rfl Tryz.func63 (by kernel_rfl) rfl #[.slice A102_0 ((rd_T50 l0_0 x6_1).f0).length c102_0, .slice A1 l1.length c1] rfl (by (try simp only [List.map_toArray, List.map_cons, List.map_nil]); first | done | rfl | (simp only [List.length_drop, List.length_take]; rfl)) ?_; (with_reducible refine (unicodetextref01_Equal.calls k1 _ _ ((rd_T50 l0_0 x6_1).f0) _ _ l1 true _ ?side1 ?side2 ?side3 ?side4 A6.out).mono ?_); (case side1 => repeat (first | exact (Kd.C_below HR102_0.out HB.out) | (with_reducible refine Kd.C_alloc ?_ _) | (with_reducible refine Kd.C_drewN ?_ _) | (with_reducible refine Kd.C_drew ?_))); (case side2 => exact HC102_0.out); (case side3 => repeat (first | exact (Kd.C_below HR1.out HB.out) | (with_reducible refine Kd.C_alloc ?_ _) | (with_reducible refine Kd.C_drewN ?_ _) | (with_reducible refine Kd.C_drew ?_))); (case side4 => exact HC1.out); rintro e w' ⟨rfl, ⟨nd, rfl⟩⟩; refine ⟨_, rfl, ?_⟩) | ((with_reducible refine gate_dst (N := 22) rfl ?_); refine Kd.R_lit k41 _ 41 ?hg (N := 22) ?hd (xs := ([] : List (S41))) (inner := []) (ok := fun _ => True) (okp := fun _ => True) ?hr ?hp (fun _ hk => hk) trivial (Below.refl _ _) (Nat.le_refl _) (by simp) ?_; (case hd => rfl); (case hg => rfl); (case hr => first | (go_simp; done) | (go_simp; rfl)); (case hp => exact (Reps.none _ _)); intro v105 w10 ho11 hb hg_ hnew_; clear hg_ hnew_; (first | rw [← Ny104.out] at ho11 | (simp only [Int.reduceToNat] at ho11; rw [← Ny104.out] at ho11)); have n0_ := Aside0.mk (Kd.R_lower ho11 (below_size (by repeat (first | (with_reducible first | exact HB.out | apply below_alloc | apply pw_below_drewN | apply below_drew1 | refine below_set ?_ GE101.out) | exact HB.out)))); have n1_ := Aside0.mk (blk_below (g := gb101) (o := .cells #[.slice (some ad102) l0_0.length c0_0, .slice A0_1 l0_1.length c0_1, .int .i64 a0_2, .int .i64 a0_3, .int .i64 a0_4] 25 (0, 0)) (by (with_reducible repeat (first | refine blk_drewN ?_ _ | refine blk_drew ?_ | refine blk_alloc ?_ _)); exact BK101.out) hb); have n2_ := Aside0.mk (below_step (by repeat (first | (with_reducible first | exact HB.out | apply below_alloc | apply pw_below_drewN | apply below_drew1 | refine below_set ?_ GE101.out) | exact HB.out)) hb); clear BK101; clear HB; have HO106 := n0_; have BK101 := n1_; have HB := n2_; clear n0_ n1_ n2_; clear hb ho11; have hcz12_0 : w10.cell? ⟨gb101, 0, none⟩ = some (.slice (some ad102) l0_0.length c0_0) := (blk_cell BK101.out 0).trans rfl; have hcz12_1 : w10.cell? ⟨gb101, 1, none⟩ = some (.slice A0_1 l0_1.length c0_1) := (blk_cell BK101.out 1).trans rfl; have hcz12_2 : w10.cell? ⟨gb101, 2, none⟩ = some (.int .i64 a0_2) := (blk_cell BK101.out 2).trans rfl; have hcz12_3 : w10.cell? ⟨gb101, 3, none⟩ = some (.int .i64 a0_3) := (blk_cell BK101.out 3).trans rfl; have hcz12_4 : w10.cell? ⟨gb101, 4, none⟩ = some (.int .i64 a0_4) := (blk_cell BK101.out 4).trans rfl; have hfz12_0 := blk_frozen BK101.out 0; have hfz12_1 := blk_frozen BK101.out 1; have hfz12_2 := blk_frozen BK101.out 2; have hfz12_3 := blk_frozen BK101.out 3; have hfz12_4 := blk_frozen BK101.out 4; have p107 : 0 ≤ (x6_1 : Int) := of_decide_eq_true (by first | (with_reducible assumption) | assumption); have q107 : x6_1 < (l0_0.length : Int) := of_decide_eq_true (by first | (with_reducible assumption) | assumption); obtain ⟨ad107, A107_0, c107_0, A107_1, c107_1, e107, hx107_0, hx107_1, hl107_0, hi107_0, hl107_1, hi107_1⟩ := at_T50 HR0_0.out x6_1 p107 q107; obtain rfl : ad102 = ad107 := (by injection e107); replace hx107_0 := (HB.out.cell (World.block_lt_of_cell? w _ hx107_0)).trans hx107_0; replace hx107_1 := (HB.out.cell (World.block_lt_of_cell? w _ hx107_1)).trans hx107_1; have HR107_0 := Aside0.mk hi107_0; have HC107_0 := Aside0.mk hl107_0; clear hi107_0 hl107_0; have HR107_1 := Aside0.mk hi107_1; have HC107_1 := Aside0.mk hl107_1; clear hi107_1 hl107_1; replace p107 := eq_true p107; replace q107 := eq_true q107) | ((with_reducible refine gate_builtin (b := .append) (xs := #[.tmp 22, .tmp 28]) rfl ?_); at_builtin; refine Kd.R_append_rows k41 (w0 := w) w.heap.size rfl (.tmp 22) (.tmp 28) 37 41 (.agg #[(.int .i64 0), (.int .i64 0), (.int .i64 0), (.bool false)]) 32 rfl Tryz.underlying37 info41 rfl (by decide) (by omega) v105 y104 ((rd_T50 l0_0 x6_1).f1) _ _ _ (fun _ => True) (fun _ => False) rfl rfl ?aO ?aR (fun _ _ h => h) (fun _ h => h.elim) ?aF ?aB ?aS ?aL ?_; (case aR => repeat (first | exact (Kd.C_below HR107_1.out HB.out) | (with_reducible refine Kd.C_alloc ?_ _) | (with_reducible refine Kd.C_drewN ?_ _) | (with_reducible refine Kd.C_drew ?_))); (case aB => exact (by repeat (first | (with_reducible first | exact HB.out | apply below_alloc | apply pw_below_drewN | apply below_drew1 | refine below_set ?_ GE101.out) | exact HB.out))); (case aF => exact (fun _ _ => trivial)); (case aO => exact (by (with_reducible repeat (first | apply Kd.R_alloc | apply Kd.R_drewN | apply Kd.R_drew)); exact HO106.out)); (case aS => exact (below_size (by repeat (first | (with_reducible first | exact HB.out | apply below_alloc | apply pw_below_drewN | apply below_drew1 | refine below_set ?_ GE101.out) | exact HB.out)))); (case aL => have := LMc8.out; omega); intro v109 w13 ho hb hg hat; rw [← Ny108.out] at ho; have n0_ := Aside0.mk (blk_grown (g := gb101) (o := .cells #[.slice (some ad102) l0_0.length c0_0, .slice A0_1 l0_1.length c0_1, .int .i64 a0_2, .int .i64 a0_3, .int .i64 a0_4] 25 (0, 0)) (by (with_reducible repeat (first | refine blk_drewN ?_ _ | refine blk_drew ?_ | refine blk_alloc ?_ _)); exact BK101.out) hg (Kd.R_ne HO106.out BK101.out (by decide))); have n1_ := Aside0.mk (hb); have n2_ := Aside0.mk (ho); clear BK101; clear HB; clear HO106; have BK101 := n0_; have HB := n1_; have HO110 := n2_; clear n0_ n1_ n2_; clear ho hb hg hat))
              go_ret2
              exact ⟨_, by first | rfl | (simp [errW_none, errW_some] <;> rfl) | (simp [*, errW_none, errW_some] <;> rfl), by (with_reducible repeat (first | apply Kd.R_alloc | apply Kd.R_drewN | apply Kd.R_drew)); exact HO110.out, by repeat (first | (with_reducible first | exact HB.out | apply below_alloc | apply pw_below_drewN | apply below_drew1 | refine below_set ?_ GE101.out) | exact HB.out)⟩
            · rw [if_neg c8] at H
              exact absurd H (by simp)
          · replace c7 := Bool.eq_false_iff.mpr c7
            subst c7
            have H1 : (unicodetextref43_find.l0 k1 l1 (wrap64 (x6_1 + 1)) l0_0 l0_1 a0_2 a0_3 a0_4) = some (r1, r2) := by rw [if_neg (show ¬ (false = true) by decide)] at H; exact H
            clear H
            have H := H1
            clear H1
            have H' := Aside0.mk H
            clear H
            have hcz14_0 : wr.cell? ⟨gb101, 0, none⟩ = some (.slice A0_0 l0_0.length c0_0) := (blk_cell BK101.out 0).trans rfl
            have hcz14_1 : wr.cell? ⟨gb101, 1, none⟩ = some (.slice A0_1 l0_1.length c0_1) := (blk_cell BK101.out 1).trans rfl
            have hcz14_2 : wr.cell? ⟨gb101, 2, none⟩ = some (.int .i64 a0_2) := (blk_cell BK101.out 2).trans rfl
            have hcz14_3 : wr.cell? ⟨gb101, 3, none⟩ = some (.int .i64 a0_3) := (blk_cell BK101.out 3).trans rfl
            have hcz14_4 : wr.cell? ⟨gb101, 4, none⟩ = some (.int .i64 a0_4) := (blk_cell BK101.out 4).trans rfl
            have hfz14_0 := blk_frozen BK101.out 0
            have hfz14_1 := blk_frozen BK101.out 1
            have hfz14_2 := blk_frozen BK101.out 2
            have hfz14_3 := blk_frozen BK101.out 3
            have hfz14_4 := blk_frozen BK101.out 4
            have p102 : 0 ≤ (x6_1 : Int) := of_decide_eq_true (by first | (with_reducible assumption) | assumption)
            have q102 : x6_1 < (l0_0.length : Int) := of_decide_eq_true (by first | (with_reducible assumption) | assumption)
            obtain ⟨ad102, A102_0, c102_0, A102_1, c102_1, e102, hx102_0, hx102_1, hl102_0, hi102_0, hl102_1, hi102_1⟩ := at_T50 HR0_0.out x6_1 p102 q102
            cases e102
            replace hx102_0 := (HB.out.cell (World.block_lt_of_cell? w _ hx102_0)).trans hx102_0
            replace hx102_1 := (HB.out.cell (World.block_lt_of_cell? w _ hx102_1)).trans hx102_1
            have HR102_0 := Aside0.mk hi102_0
            have HC102_0 := Aside0.mk hl102_0
            clear hi102_0 hl102_0
            have HR102_1 := Aside0.mk hi102_1
            have HC102_1 := Aside0.mk hl102_1
            clear hi102_1 hl102_1
            replace p102 := eq_true p102
            replace q102 := eq_true q102
            go_wp2_with (first | ((with_reducible refine gate_callee (f := 63) rfl ?_); refine goesL_ (some 21) rfl rfl Tryz.func63 (by kernel_rfl) rfl #[.slice A102_0 ((rd_T50 l0_0 x6_1).f0).length c102_0, .slice A1 l1.length c1] rfl (by (try simp only [List.map_toArray, List.map_cons, List.map_nil]); first | done | rfl | (simp only [List.length_drop, List.length_take]; rfl)) ?_; (with_reducible refine (unicodetextref01_Equal.calls k1 _ _ ((rd_T50 l0_0 x6_1).f0) _ _ l1 false _ ?side1 ?side2 ?side3 ?side4 A6.out).mono ?_); (case side1 => repeat (first | exact (Kd.C_below HR102_0.out HB.out) | (with_reducible refine Kd.C_alloc ?_ _) | (with_reducible refine Kd.C_drewN ?_ _) | (with_reducible refine Kd.C_drew ?_))); (case side2 => exact HC102_0.out); (case side3 => repeat (first | exact (Kd.C_below HR1.out HB.out) | (with_reducible refine Kd.C_alloc ?_ _) | (with_reducible refine Kd.C_drewN ?_ _) | (with_reducible refine Kd.C_drew ?_))); (case side4 => exact HC1.out); rintro e w' ⟨rfl, ⟨nd, rfl⟩⟩; refine ⟨_, rfl, ?_⟩))
            go_roundg k1
            case measure => have := HK1.out; omega
            case rel => exact ⟨(wrap64 (x6_1 + 1)), (by first | rfl | (simp; done) | (simp [*]; done)), H', ⟨by have := HK1.out; omega⟩, ⟨by (with_reducible repeat (first | refine blk_drewN ?_ _ | refine blk_drew ?_ | refine blk_alloc ?_ _)); exact BK101.out⟩, ⟨by repeat (first | (with_reducible first | exact HB.out | apply below_alloc | apply pw_below_drewN | apply below_drew1 | refine below_set ?_ GE101.out) | exact HB.out)⟩⟩
        · rw [if_neg c5] at H
          exact absurd H (by simp)
      · rw [if_neg c4] at H
        have c4b0 : decide (x6_1 < (l0_0.length : Int)) = false := decide_eq_false c4
        clear c4
        simp only [Option.some.injEq, Prod.mk.injEq] at H
        obtain ⟨rfl, rfl⟩ := H
        have hcz15_0 : wr.cell? ⟨gb101, 0, none⟩ = some (.slice A0_0 l0_0.length c0_0) := (blk_cell BK101.out 0).trans rfl
        have hcz15_1 : wr.cell? ⟨gb101, 1, none⟩ = some (.slice A0_1 l0_1.length c0_1) := (blk_cell BK101.out 1).trans rfl
        have hcz15_2 : wr.cell? ⟨gb101, 2, none⟩ = some (.int .i64 a0_2) := (blk_cell BK101.out 2).trans rfl
        have hcz15_3 : wr.cell? ⟨gb101, 3, none⟩ = some (.int .i64 a0_3) := (blk_cell BK101.out 3).trans rfl
        have hcz15_4 : wr.cell? ⟨gb101, 4, none⟩ = some (.int .i64 a0_4) := (blk_cell BK101.out 4).trans rfl
        have hfz15_0 := blk_frozen BK101.out 0
        have hfz15_1 := blk_frozen BK101.out 1
        have hfz15_2 := blk_frozen BK101.out 2
        have hfz15_3 := blk_frozen BK101.out 3
        have hfz15_4 := blk_frozen BK101.out 4
        go_wp2
        go_ret2
        exact ⟨_, by first | rfl | (simp [errW_none, errW_some] <;> rfl) | (simp [*, errW_none, errW_some] <;> rfl), by first | exact Kd.R_nil _ _ _ _ _ | exact Kd.N_nil _ _ _ _ _ | exact Kd.V_nil _ _ _ _ _ | exact Kd.Q_nil _ _ _ _ _ | exact Kd.S_nil _ _ _ _ _, by repeat (first | (with_reducible first | exact HB.out | apply below_alloc | apply pw_below_drewN | apply below_drew1 | refine below_set ?_ GE101.out) | exact HB.out)⟩
end Go.Proofs.YtfcpebjjcijgcaaGreatDoor.G
