/- PROVED HERE: the law GroupsBack of the groups (the names in their old order give back the collation) is true for every input. Conditions: none. Out of the printed and hand-made walks and of plain Lean laws. -/
import Derived.Below
import Derived.ChangeOld
import Derived.OpenShut
import Derived.ProofKit
import Derived.ShutString
import Derived.SizedLaws
import Derived.Test.YtfcpebjjcijgcaaB0
import Derived.Test.YtfcpebjjcijgcaaB1
import Derived.Test.YtfcpebjjcijgcaaB2
import Derived.Test.YtfcpebjjcijgcaaB3
import Derived.Test.YtfcpebjjcijgcaaRows
import Derived.WalkKit
-- by hand: lemmas
namespace Go.Proofs.Ytfcpebjjcijgcaa.G
open Go.RowKit Go.Proofs.YtfcpebjjcijgcaaW.PrintWords Go.Proofs.YtfcpebjjcijgcaaW.PrintLast Go.Proofs.YtfcpebjjcijgcaaW.PrintMore
attribute [local go_sem] max2_int min2_int max_two min_two max_three min_three max_four min_four   -- for this text's walks alone
set_option linter.unusedVariables false
set_option linter.unusedSimpArgs false
/-! GroupsBack -/
theorem grErr_of {l : List S36} {base : Int} (h1 : ∀ g, g ∈ l → nameP g.f0 = true) (h2 : (nms l).Nodup) (h3 : ∀ g, g ∈ l → 1 ≤ g.f1 ∧ g.f1 ≤ g.f2 ∧ g.f2 < base) (h4 : inRow l = true) : grErr l base = 0 := by
  have e1 : l.any (fun g => !nameP g.f0) = false := List.any_eq_false.2 fun g hg => by simp [h1 g hg]
  have e2 : dupG l = false := by simp [dupG, h2]
  have e3 : l.any (badR base) = false := List.any_eq_false.2 fun g hg => by
    have := h3 g hg
    simp only [badR, Bool.or_eq_true, decide_eq_true_eq, not_or]
    omega
  unfold grErr
  rw [e1, e2, e3, h4]
  rfl
theorem inRow_renumZ : ∀ (l : List S36) (p : Int), posW l → 0 ≤ p → p + sumW l ≤ 1000000 → inRow (renumZ p l) = true
  | [], _, _, _, _ => rfl
  | [_], _, _, _, _ => rfl
  | a :: b :: l, p, hp, h0, h1 => by
    have ha := hp a List.mem_cons_self
    have hp2 : posW (b :: l) := fun x hx => hp x (List.mem_cons_of_mem _ hx)
    have hs := sumW_pos hp2
    have h1' : p + (wid a + sumW (b :: l)) ≤ 1000000 := h1
    show (decide (p + wid a = wrap64 (p + a.f2 - a.f1 + 1)) && inRow (renumZ (p + wid a) (b :: l))) = true
    rw [inRow_renumZ (b :: l) (p + wid a) hp2 (by omega) (by omega), Bool.and_true, decide_eq_true_iff]
    unfold wid at *
    unfold wrap64
    omega
theorem renumZ_map (f : S36 → S36) : ∀ (l : List S36) (p : Int), (∀ g, g ∈ l → (f g).f0 = g.f0 ∧ wid (f g) = wid g) → renumZ p (l.map f) = renumZ p l ∧ sumW (l.map f) = sumW l
  | [], _, _ => ⟨rfl, rfl⟩
  | a :: l, p, h => by
    obtain ⟨h1, h2⟩ := h a List.mem_cons_self
    obtain ⟨i1, i2⟩ := renumZ_map f l (p + wid a) fun g hg => h g (List.mem_cons_of_mem _ hg)
    have e : p + (f a).f2 - (f a).f1 = p + a.f2 - a.f1 := by unfold wid at h2; omega
    constructor
    · show (⟨(f a).f0, p, p + (f a).f2 - (f a).f1⟩ : S36) :: renumZ (p + wid (f a)) (l.map f) = _
      rw [h1, e, h2, i1]
      rfl
    · show wid (f a) + sumW (l.map f) = _
      rw [h2, i2]
      rfl
/-- What a good Order brings, in numbers. -/
theorem ordered_Z {E : List S49} {a : S36} {l : List S36} {base b3 b4 : Int} {names : List ByteArray} {R : List S36} (h : Ordered E (a :: l) base b3 b4 names R) : a :: l = renumZ a.f1 (a :: l) ∧ posW (a :: l) ∧ posW (refRow (a :: l) names) ∧ R = renumZ a.f1 (refRow (a :: l) names) ∧ sumW (refRow (a :: l) names) = sumW (a :: l) ∧ 1 ≤ a.f1 ∧ a.f1 + sumW (a :: l) ≤ base ∧ base ≤ 65502 := by
  obtain ⟨_, hnd, hval, hrow⟩ := h.gr
  have hbase := (chk_zero h.c).2.1
  have hb : ∀ g, g ∈ a :: l → 1 ≤ g.f1 ∧ g.f1 ≤ g.f2 ∧ g.f2 < 1000000 := fun g hg => by
    have := hval g hg
    omega
  have hGZ := inRow_Z l a hb hrow
  have hpG : posW (a :: l) := fun g hg => by
    have := hb g hg
    unfold wid
    omega
  have hpR : posW (refRow (a :: l) names) := fun g hg => hpG g (refRow_mem h.all hg)
  have hsum := refRow_sum hnd h.nd h.all
  have ha := hb a List.mem_cons_self
  have hend : a.f1 + sumW (a :: l) ≤ base := by
    have := (Z_cov (p := a.f1) hpG (a.f1 + sumW (a :: l) - 1)).2 (by
      have : 1 ≤ sumW (a :: l) := by
        have h1 := hpG a List.mem_cons_self
        have h2 := sumW_pos (l := l) fun x hx => hpG x (List.mem_cons_of_mem _ hx)
        unfold sumW
        omega
      omega)
    rw [← hGZ] at this
    obtain ⟨i, hi, hx⟩ := this
    have h1 := (inG_iff.1 hx).2
    have h2 := hval _ (List.getElem_mem hi)
    omega
  have hRZ : R = renumZ a.f1 (refRow (a :: l) names) := by
    rw [h.r]
    exact renum_Z _ _ hpR (fun g hg => by
      have := hb g (refRow_mem h.all hg)
      omega) (by show 0 ≤ a.f1; omega) (by rw [hsum]; show a.f1 + _ ≤ _; omega)
  exact ⟨hGZ, hpG, hpR, hRZ, hsum, ha.1, hend, hbase⟩
/-- The groups of a good Order are good groups. -/
theorem ordered_grErr {E : List S49} {G : List S36} {base b3 b4 : Int} {names : List ByteArray} {R : List S36} (h : Ordered E G base b3 b4 names R) : grErr R base = 0 := by
  cases G with
  | nil =>
    have hl := h.len
    cases R with
    | nil => rfl
    | cons a l => cases hl
  | cons a l =>
    obtain ⟨_, _, hpR, hRZ, hsum, h1, hend, hbase⟩ := ordered_Z h
    refine grErr_of (fun g hg => ?_) h.nodup (fun g hg => ?_) ?_
    · have hm : memB g.f0 (nms (a :: l)) = true := by
        rw [← h.has]
        exact memB_iff.2 (List.mem_map.2 ⟨g, hg, rfl⟩)
      obtain ⟨g2, hg2, e⟩ := List.mem_map.1 (memB_iff.1 hm)
      rw [← e]
      exact h.gr.1 g2 hg2
    · rw [hRZ] at hg
      have := renumZ_mem _ _ hpR g hg
      omega
    · rw [hRZ]
      exact inRow_renumZ _ _ hpR (by omega) (by omega)
/-- A moved weight stays a weight. -/
theorem moved_fact {E : List S49} {G : List S36} {base b3 b4 : Int} {names : List ByteArray} {R : List S36} (h : Ordered E G base b3 b4 names R) (x : Int) (h0 : 0 ≤ x) (h1 : x < base) : 0 ≤ moveP G R x ∧ moveP G R x < base ∧ (moveP G R x = 0 ↔ x = 0) := by
  obtain ⟨a0, S, hM⟩ := ordered_moved' h
  by_cases hx : ∃ i, ∃ hi : i < G.length, inG x G[i] = true
  · obtain ⟨i, hi, hin⟩ := hx
    obtain ⟨j, hj, _, hin2, _⟩ := moved_in hM h.nodup hi hin
    have c1 := (hM.covR _).1 ⟨j, hj, hin2⟩
    obtain ⟨i2, hi2, hin3⟩ := (hM.cov _).2 c1
    have v1 := h.gr.2.2.1 _ (List.getElem_mem hi)
    have v2 := h.gr.2.2.1 _ (List.getElem_mem hi2)
    have w1 := inG_iff.1 hin
    have w2 := inG_iff.1 hin3
    omega
  · rw [(moved_out (R := R) hx).1]
    omega
theorem elErr_iff : ∀ l : List S51, elErr l = 0 ↔ ∀ x, x ∈ l → elemErr x = 0
  | [] => by simp [elErr]
  | e :: l => by
    have ih := elErr_iff l
    show (if elemErr e ≠ 0 then elemErr e else elErr l) = 0 ↔ _
    by_cases h : elemErr e = 0
    · rw [if_neg (by simp [h]), ih]
      simp [h]
    · rw [if_pos h]
      simp [h]
theorem enErr_map {base : Int} {mv : S51 → S51} (hmv : ∀ x, elemErr x = 0 → x.f0 < base → elemErr (mv x) = 0 ∧ (mv x).f0 < base) {cs : List Int} {es : List S51} (h : enErr base cs es = 0) : enErr base cs (es.map mv) = 0 := by
  unfold enErr at h ⊢
  rw [List.length_map]
  split at h
  · cases h
  · rename_i h1
    split at h
    · cases h
    · rename_i h2
      split at h
      · contradiction
      · rename_i h3
        split at h
        · cases h
        · rename_i h4
          rw [if_neg h1, if_neg h2]
          have hz := (elErr_iff es).1 (Classical.not_not.1 h3)
          have hb : ∀ x, x ∈ es → x.f0 < base := fun x hx => by
            have := List.any_eq_false.1 (Bool.eq_false_iff.2 h4) x hx
            simpa using this
          have hz2 : elErr (es.map mv) = 0 := (elErr_iff _).2 fun y hy => by
            obtain ⟨x, hx, rfl⟩ := List.mem_map.1 hy
            exact (hmv x (hz x hx) (hb x hx)).1
          rw [if_neg (by simp [hz2]), if_neg]
          rw [Bool.not_eq_true]
          refine List.any_eq_false.2 fun y hy => ?_
          obtain ⟨x, hx, rfl⟩ := List.mem_map.1 hy
          have := (hmv x (hz x hx) (hb x hx)).2
          simp only [decide_eq_true_eq]
          omega
theorem entErrs_map {base : Int} {mv : S51 → S51} (hmv : ∀ x, elemErr x = 0 → x.f0 < base → elemErr (mv x) = 0 ∧ (mv x).f0 < base) : ∀ (E : List S49) (p : Option S49), entErrs base p E = 0 → entErrs base (p.map fun e => ⟨e.f0, e.f1.map mv⟩) (E.map fun e => ⟨e.f0, e.f1.map mv⟩) = 0
  | [], p, _ => by cases p <;> rfl
  | e :: E, p, h => by
    by_cases he : enErr base e.f0 e.f1 = 0
    · have he2 := enErr_map hmv he
      cases p with
      | none =>
        have h' : entErrs base (some e) E = 0 := by
          unfold entErrs at h
          rw [if_neg (by simp [he])] at h
          exact h
        have ih := entErrs_map hmv E (some e) h'
        show (if enErr base e.f0 (e.f1.map mv) ≠ 0 then _ else _) = 0
        rw [if_neg (by simp [he2])]
        exact ih
      | some q =>
        have h' : (if 0 ≤ cmpL q.f0 e.f0 then 4 else entErrs base (some e) E) = 0 := by
          unfold entErrs at h
          rw [if_neg (by simp [he])] at h
          exact h
        by_cases hc : 0 ≤ cmpL q.f0 e.f0
        · rw [if_pos hc] at h'
          cases h'
        · rw [if_neg hc] at h'
          have ih := entErrs_map hmv E (some e) h'
          show (if enErr base e.f0 (e.f1.map mv) ≠ 0 then _ else (if 0 ≤ cmpL q.f0 e.f0 then 4 else _)) = 0
          rw [if_neg (by simp [he2]), if_neg hc]
          exact ih
    · exfalso
      unfold entErrs at h
      rw [if_pos he] at h
      exact he h
/-- The moved collation is valid. -/
theorem chk_moved {E : List S49} {G : List S36} {base b3 b4 : Int} {names : List ByteArray} {R : List S36} (h : Ordered E G base b3 b4 names R) : chk (E.map (moveE G R)) R base b3 b4 = 0 := by
  have hc := h.c
  unfold chk at hc ⊢
  split at hc
  · cases hc
  · rename_i h1
    split at hc
    · rw [if_neg h1, if_pos (ordered_grErr h)]
      refine entErrs_map (fun x hx hb => ?_) E none hc
      unfold elemErr at hx ⊢
      split at hx
      · rename_i h3
        split at hx
        · cases hx
        · rename_i h4
          obtain ⟨m0, m1, m2⟩ := moved_fact h x.f0 (by omega) hb
          show (if 0 ≤ moveP G R x.f0 ∧ moveP G R x.f0 ≤ 65535 ∧ 0 ≤ x.f1 ∧ x.f1 ≤ 65535 ∧ 0 ≤ x.f2 ∧ x.f2 ≤ 65535 then (if (moveP G R x.f0 ≠ 0 ∧ x.f1 = 0) ∨ (1 ≤ moveP G R x.f0 + x.f1 ∧ x.f2 = 0) ∨ (x.f3 = true ∧ moveP G R x.f0 = 0) then 11 else 0) else 1) = 0 ∧ moveP G R x.f0 < base
          rw [if_pos (by omega), if_neg]
          · exact ⟨rfl, m1⟩
          · rintro (⟨q1, q2⟩ | ⟨q1, q2⟩ | ⟨q1, q2⟩)
            · exact h4 (Or.inl ⟨fun e => q1 (m2.2 e), q2⟩)
            · exact h4 (Or.inr (Or.inl ⟨by
                by_cases e : x.f0 = 0
                · have := m2.2 e
                  omega
                · omega, q2⟩))
            · exact h4 (Or.inr (Or.inr ⟨q1, m2.1 q2⟩))
      · cases hx
    · contradiction
theorem names_fit {G : List S36} (h : fits G = true) : namesFit (nms G) = true := by
  obtain ⟨h1, h2⟩ := fits_iff.1 h
  simp only [namesFit, Bool.and_eq_true, decide_eq_true_eq, List.all_eq_true]
  exact ⟨by simpa [nms] using h1, h2⟩
/-- Order gives the old groups back. -/
theorem order_back {E : List S49} {G : List S36} {base b3 b4 : Int} {names : List ByteArray} {R : List S36} (h : Ordered E G base b3 b4 names R) : ordA (E.map (moveE G R)) R base b3 b4 (nms G) = (G, 0) := by
  unfold ordA
  rw [if_pos (chk_moved h)]
  unfold rordP
  rw [if_neg, if_pos h.gr.2.1]
  · cases G with
    | nil =>
      have hl := h.len
      cases R with
      | nil => rfl
      | cons a l => cases hl
    | cons a l =>
      obtain ⟨hGZ, hpG, hpR, hRZ, hsum, h1, hend, hbase⟩ := ordered_Z h
      obtain ⟨a0, S, hM⟩ := ordered_moved' h
      have hlen := h.len
      have e0 : (rd_T36 R 0).f1 = a.f1 := by
        have hrl := h.row_len
        rw [hRZ]
        cases hr : refRow (a :: l) names with
        | nil => rw [hr] at hrl; cases hrl
        | cons g t => rfl
      have er : refRow R (nms (a :: l)) = (a :: l).map fun g => gOf R g.f0 := by
        unfold refRow
        have : (R.filter fun g => !memB g.f0 (nms (a :: l))) = [] := List.filter_eq_nil_iff.2 fun g hg => by
          have hm : memB g.f0 (nms R) = true := memB_iff.2 (List.mem_map.2 ⟨g, hg, rfl⟩)
          rw [← h.has, hm]
          simp
        rw [this, List.append_nil]
        unfold nms
        rw [List.map_map]
        rfl
      have hf : ∀ g, g ∈ a :: l → (gOf R g.f0).f0 = g.f0 ∧ wid (gOf R g.f0) = wid g := fun g hg => by
        obtain ⟨i, hi, rfl⟩ := List.mem_iff_getElem.1 hg
        obtain ⟨j, hj, e1, e2, e3, _⟩ := hM.same i hi
        unfold gOf
        rw [e3, rdT36 hj]
        exact ⟨e1, e2⟩
      obtain ⟨z1, z2⟩ := renumZ_map (fun g => gOf R g.f0) (a :: l) a.f1 hf
      rw [e0, er, renum_Z, z1, ← hGZ]
      · intro g hg
        obtain ⟨q, hq, rfl⟩ := List.mem_map.1 hg
        rw [(hf q hq).2]
        exact hpG q hq
      · intro g hg
        obtain ⟨q, hq, rfl⟩ := List.mem_map.1 hg
        have hm : memB q.f0 (nms R) = true := by
          rw [h.has]
          exact memB_iff.2 (List.mem_map.2 ⟨q, hq, rfl⟩)
        have hR := (gOf_mem hm).1
        have hz := grErr_zero (ordered_grErr h)
        have := hz.2.2.1 _ hR
        omega
      · omega
      · rw [z2]
        omega
  · rw [Bool.not_eq_true]
    refine List.any_eq_false.2 fun s hs => ?_
    rw [h.has, memB_iff.2 hs]
    simp
/-- A moved weight moves back. -/
theorem move_back {E : List S49} {G : List S36} {base b3 b4 : Int} {names : List ByteArray} {R : List S36} (h : Ordered E G base b3 b4 names R) (x : Int) : moveP R G (moveP G R x) = x := by
  have h2 : Ordered (E.map (moveE G R)) R base b3 b4 (nms G) G := by
    have := ordA_zero (E := E.map (moveE G R)) (G := R) (base := base) (b3 := b3) (b4 := b4) (names := nms G) (by rw [order_back h])
    rw [order_back h] at this
    exact this
  obtain ⟨a0, S, hM⟩ := ordered_moved' h
  obtain ⟨a1, S1, hM1⟩ := ordered_moved' h2
  by_cases hx : ∃ i, ∃ hi : i < G.length, inG x G[i] = true
  · obtain ⟨i, hi, hin⟩ := hx
    obtain ⟨j, hj, e1, hin2, f1, _⟩ := moved_in hM h.nodup hi hin
    obtain ⟨i2, hi2, e2, _, f2, _⟩ := moved_in hM1 h.gr.2.1 hj hin2
    have e := nms_inj h.gr.2.1 hi2 hi (by rw [f2, f1])
    subst e
    rw [e2, e1]
    omega
  · have hx2 : ¬ ∃ i, ∃ hi : i < R.length, inG x R[i] = true := fun e => hx ((hM.cov x).2 ((hM.covR x).1 e))
    rw [(moved_out (R := R) hx).1, (moved_out (R := G) hx2).1]
theorem order_same {E : List S49} {G : List S36} {base b3 b4 : Int} (hc : chk E G base b3 b4 = 0) : ordA E G base b3 b4 [] = (G, 0) := by
  have hg := grErr_zero (chk_zero hc).2.2
  have e : refRow G [] = G := by
    unfold refRow
    rw [List.map_nil, List.nil_append, List.filter_eq_self]
    intro g _
    rfl
  unfold ordA
  rw [if_pos hc]
  unfold rordP
  rw [if_neg (by simp), if_pos List.nodup_nil, e]
  cases G with
  | nil => rfl
  | cons a l =>
    have h : Ordered E (a :: l) base b3 b4 [] (renum (rd_T36 (a :: l) 0).f1 (refRow (a :: l) [])) := ⟨hc, fun s hs => by simp at hs, List.nodup_nil, rfl⟩
    obtain ⟨hGZ, _, _, hRZ, _⟩ := ordered_Z h
    rw [e] at hRZ
    rw [hRZ, ← hGZ]
theorem move_same {E : List S49} {G : List S36} {base b3 b4 : Int} (hc : chk E G base b3 b4 = 0) (x : Int) : moveP G G x = x := by
  have h : Ordered E G base b3 b4 [] G := by
    have := ordA_zero (E := E) (G := G) (base := base) (b3 := b3) (b4 := b4) (names := []) (by rw [order_same hc])
    rw [order_same hc] at this
    exact this
  obtain ⟨a0, S, hM⟩ := ordered_moved' h
  by_cases hx : ∃ i, ∃ hi : i < G.length, inG x G[i] = true
  · obtain ⟨i, hi, hin⟩ := hx
    obtain ⟨j, hj, e1, _, f1, _⟩ := moved_in hM h.nodup hi hin
    have e := nms_inj h.nodup hj hi f1
    subst e
    rw [e1]
    omega
  · exact (moved_out (R := G) hx).1
theorem map_id {old fresh : List S36} {E : List S49} (h : ∀ x, moveP old fresh x = x) : E.map (moveE old fresh) = E := by
  rw [show moveE old fresh = id from funext fun e => by
    obtain ⟨c, es⟩ := e
    simp only [moveE, h, id]
    congr 1
    exact List.map_id' es, List.map_id]
theorem map_back {G R : List S36} {E : List S49} (h : ∀ x, moveP R G (moveP G R x) = x) : (E.map (moveE G R)).map (moveE R G) = E := by
  rw [List.map_map, show moveE R G ∘ moveE G R = id from funext fun e => by
    obtain ⟨c, es⟩ := e
    simp only [moveE, Function.comp, List.map_map, id]
    congr 1
    refine (List.map_congr_left (g := id) fun x _ => ?_).trans (List.map_id es)
    show (⟨moveP R G (moveP G R x.f0), x.f1, x.f2, x.f3⟩ : S51) = x
    rw [h], List.map_id]
theorem rnames_loop (l : List S36) (hl : l.length ≤ 1000000) : ∀ (d i : Nat) (acc : List ByteArray), l.length - i = d → acc.length ≤ i → Ev (fun k => unicodetextref47_Names.l0 k l acc (i : Int)) (acc ++ nms (l.drop i)) := by
  intro d
  induction d with
  | zero =>
    intro i acc hd ha
    rw [List.drop_of_length_le (by omega)]
    refine Ev.step (f := fun _ => some acc) (fun k => ?_) (by simpa [nms] using Ev.now acc)
    simp only [unicodetextref47_Names.l0]
    rw [if_neg (by omega)]
  | succ d ih =>
    intro i acc hd ha
    have hi : i < l.length := by omega
    rw [List.drop_eq_getElem_cons hi]
    by_cases hs : acc.length < 8796093022208
    · refine Ev.step (f := fun k => unicodetextref47_Names.l0 k l (acc ++ [l[i].f0]) ((i + 1 : Nat) : Int)) (fun k => ?_) ?_
      · simp only [unicodetextref47_Names.l0]
        rw [if_pos (by omega), if_pos (by omega), if_pos hs, rdT36 hi, wrap_nat (by omega)]
      · have h := ih (i + 1) (acc ++ [l[i].f0]) (by omega) (by rw [List.length_append]; simp; omega)
        rw [List.append_assoc] at h
        exact h
    · exfalso
      omega
theorem rnames_ev (l : List S36) (hl : l.length ≤ 1000000) : Ev (fun k => unicodetextref47_Names.f k l) (nms l) := by
  have h := rnames_loop l hl _ 0 [] rfl (by simp)
  rw [List.nil_append, List.drop_zero] at h
  exact h
theorem moveE_fits {old fresh : List S36} {E : List S49} (h : eFits E) : eFits (E.map (moveE old fresh)) := by
  refine ⟨by rw [List.length_map]; exact h.1, fun e he => ?_⟩
  obtain ⟨x, hx, rfl⟩ := List.mem_map.1 he
  simpa [moveE] using h.2 x hx
theorem back_law (E : List S49) (G : List S36) (base b3 b4 : Int) (names : List ByteArray) (hsG : ∀ g, g ∈ G → g.f0.size ≤ 9223372036854775807) (hsN : ∀ s, s ∈ names → s.size ≤ 9223372036854775807) : ∃ k, unicodetextlaw47_GroupsBack.f k E G base b3 b4 names = some true := by
  refine Ev.rounds ?_
  refine Ev.bind (few_ev E G base b3 b4 names) ?_
  by_cases hf : (smallP E G && decide (names.length ≤ 12)) = true
  · simp only [hf, if_true]
    obtain ⟨hE, hG, h8, hN, hn⟩ := few_fits hsG hsN hf
    have hS := small_eSmall (Bool.and_eq_true_iff.1 hf).1
    refine Ev.bind (gapply_ev E G base b3 b4 names hE hG h8 hN hS) ?_
    by_cases ho : (ordA E G base b3 b4 names).2 = 0
    · have h := ordA_zero ho
      have hfr := ordA_fits E G base b3 b4 names hG
      have hap : aplA E G base b3 b4 names = (E.map (moveE G (ordA E G base b3 b4 names).1), (ordA E G base b3 b4 names).1, base, b3, b4, 0) := if_pos ho
      rw [hap]
      generalize (ordA E G base b3 b4 names).1 = R at h hfr
      simp only [if_true]
      refine Ev.bind (rnames_ev G (by omega)) ?_
      refine Ev.bind (gapply_ev (E.map (moveE G R)) R base b3 b4 (nms G) (moveE_fits hE) hfr (by rw [h.len]; exact h8) (names_fit hG) (moveE_small hS)) ?_
      have hap2 : aplA (E.map (moveE G R)) R base b3 b4 (nms G) = (E, G, base, b3, b4, 0) := by
        unfold aplA
        rw [order_back h, if_pos rfl, map_back (move_back h)]
      rw [hap2]
      refine Ev.bind (gapply_ev E G base b3 b4 [] hE hG h8 rfl hS) ?_
      have hap3 : aplA E G base b3 b4 [] = (E, G, base, b3, b4, 0) := by
        unfold aplA
        rw [order_same h.c, if_pos rfl, map_id (move_same h.c)]
      rw [hap3]
      simp only [if_true]
      refine Ev.bind (rsame_ev E G base b3 b4 hS (by omega)) ?_
      simp only [if_true]
      refine Ev.bind (rsame_ev E G base b3 b4 hS (by omega)) ?_
      simp only [if_true]
      refine Ev.bind (cchk_ev (E.map (moveE G R)) R base b3 b4 (moveE_fits hE) hfr) ?_
      rw [chk_moved h]
      simp only [if_true]
      exact Ev.bind alive_ev (Ev.now _)
    · have hap : aplA E G base b3 b4 names = ([], [], 0, 0, 0, (ordA E G base b3 b4 names).2) := if_neg ho
      rw [hap]
      simp only [ho, if_false]
      refine Ev.bind (rsame_ev [] [] 0 0 0 rfl (by simp)) ?_
      simp only [if_true]
      exact Ev.bind alive_ev (Ev.now _)
  · simp only [hf, if_false]
    exact Ev.bind alive_ev (Ev.now _)
end Go.Proofs.Ytfcpebjjcijgcaa.G
namespace Go.Proofs.Ytfcpebjjcijgcaa.groupsBack
open Go.ChangeShapes Go.WideShapes Go.ChangeAt Go.RowKit Go.Proofs.YtfcpebjjcijgcaaW.PrintWords Go.Proofs.YtfcpebjjcijgcaaW.PrintLast Go.Proofs.YtfcpebjjcijgcaaW.PrintMore Go.Proofs.Ytfcpebjjcijgcaa.G
theorem own : ownKnob Try.prog.godebug = none := by kernel_rfl
theorem laidOut : laidOutB Try.prog = true := by kernel_rfl
set_option maxRecDepth 100000 in
theorem lifted (os : Os) (started : os.Started) (H : Type) (enc : TypeId × Value → H) :
    ReturnsInHanded {} Try.checked os 8 .any (Rows.groupsBackSpec.pre6 enc Try.prog Try.f8 Rows.groupsBackRow.domain false) (Rows.groupsBackSpec.post enc Try.prog Try.f8 false true false false) := by
  refine returnsInHanded_of_change_sized (C := Try.checked) own started (by kernel_rfl) Try.func8
    (ChangeSpec.witness6 (enc := enc) (C := Try.checked) false ⟨#[], #[.agg #[.slice none 0 0, .slice none 0 0, .int .i64 0, .int .i64 0, .int .i64 0], .slice none 0 0], []⟩ 8 (by kernel_rfl) (by kernel_rfl) (by kernel_rfl) (by kernel_rfl)) ?_
  intro W base args ds gs before hval0 hW hcnd hsz0 _
  have hval : ∀ (j : Nat) t v, Try.f8.params[j]? = some t → args[j]? = some v → Value.okWide Try.prog W .any base t v := hval0
  have hW' := hW
  obtain ⟨p, q, hA0, hV, rfl, hfz, hnd⟩ := hW
  have hA : DataW.TrodAll enc Try.prog W 0 (fun _ => true) true Try.f8.params.toList args.toList ds p := hA0
  rw [Try.params8] at hA hval
  obtain ⟨v0, vs0, d0, ds0, p0, q0, hargs, rfl, rfl, h0, r0⟩ := trodAll_cons hA
  obtain ⟨v1, vs1, d1, ds1, p1, q1, rfl, rfl, rfl, h1, r1⟩ := trodAll_cons r0
  obtain ⟨rfl, rfl, rfl⟩ := trodAll_nil r1
  obtain rfl : args = #[v0, v1] := by cases args; simp_all
  obtain ⟨rfl, rfl⟩ := trodVars_none hV
  obtain ⟨cs0, rfl, _⟩ := okWide_struct Try.underlying25 (hval 0 25 v0 rfl rfl)
  have k0 := h0
  have lt0 : ∀ x ∈ p0, x.block < W.heap.size := by obtain ⟨m, hm⟩ := k0; exact DataW.trod_lt m _ _ _ hm
  obtain ⟨m0, hm0⟩ := h0
  obtain ⟨A0, c0, E, A1, c1, G, b2, b3, b4, hc0, l0, g0, l1, g1, hsG⟩ := opens_coll hm0
  obtain rfl : cs0 = #[.slice A0 E.length c0, .slice A1 G.length c1, .int .i64 b2, .int .i64 b3, .int .i64 b4] := Array.toList_inj.1 hc0
  obtain ⟨a1, len1, cap1, rfl⟩ := okWide_slice Try.underlying26 (hval 1 26 v1 rfl rfl)
  have k1 := h1
  have lt1 : ∀ x ∈ p1, x.block < W.heap.size := by obtain ⟨m, hm⟩ := k1; exact DataW.trod_lt m _ _ _ hm
  obtain ⟨m1, hm1⟩ := h1
  obtain ⟨A2, c2, L, hc1, l2, g2, hsN⟩ := opens_names hm1
  have hc1 : [Value.slice a1 len1 cap1] = [.slice A2 L.length c2] := hc1
  simp only [List.cons.injEq, Value.slice.injEq, and_true] at hc1
  obtain ⟨rfl, rfl, rfl⟩ := hc1
  clear hA0 hval0 hsz0
  obtain ⟨k, hk⟩ := back_law E G b2 b3 b4 L hsG hsN
  refine (unicodetextlaw47_GroupsBack.calls k A0 c0 E A1 c1 G b2 b3 b4 a1 cap1 L true W g0 l0 g1 l1 g2 l2 hk).mono fun e W' ⟨he, bel⟩ => ?_
  subst he
  exact ⟨_, rfl, _, _, _, [], _, [], hW', trodAll_mk1 (shut_bool Try.underlying4 _), (trodAll_cons_mk (Below.trod laidOut (by kernel_rfl) (of_decide_eq_true (by kernel_rfl)) k0 bel lt0) (trodAll_cons_mk (Below.trod laidOut (by kernel_rfl) (of_decide_eq_true (by kernel_rfl)) k1 bel lt1) trodAll_mk0)), rfl, bel.frame _, fun h => by cases h⟩
theorem over : Rows.groupsBackRow.holds Try.pinned (OpenSpec.ofChange Rows.groupsBackSpec) :=
  OpenClaim.holds_of_wide 8 Try.f8 rfl rfl rfl rfl rfl rfl rfl ⟨rfl, rfl, rfl, rfl, rfl⟩ rfl rfl rfl rfl rfl (by kernel_rfl) Try.func8 (by kernel_rfl)
    (of_decide_eq_true (by kernel_rfl)) (by unfold Func.isWrapper; first | (rw [if_pos (by decide +kernel)]; kernel_rfl) | (rw [if_neg (by decide +kernel)]; exact ⟨rfl, rfl⟩))
    (fun os started H enc _ => lifted os started H enc)
theorem proved : Rows.GroupsBackSaid := over
#print axioms proved
end Go.Proofs.Ytfcpebjjcijgcaa.groupsBack
namespace Go.Proofs.Ytfcpebjjcijgcaa
/-- The row, under a short name, for the claim. -/
theorem groupsBack_holds : Rows.GroupsBackSaid := groupsBack.proved
end Go.Proofs.Ytfcpebjjcijgcaa
