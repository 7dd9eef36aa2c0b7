/- PROVED HERE: the law GroupsApplies of the groups (Apply returns the collation that the document specifies, or the first error) is true for every input. Conditions: none. Out of the printed and hand-made walks and of plain Lean laws. -/
import Derived.Below
import Derived.ChangeArms
import Derived.ChangeOld
import Derived.DataReads
import Derived.OpenShut
import Derived.ProofKit
import Derived.ShutString
import Derived.SizedLaws
import Derived.Test.YtfcpebjjcijgcaaB0
import Derived.Test.YtfcpebjjcijgcaaB1
import Derived.Test.YtfcpebjjcijgcaaB2
import Derived.Test.YtfcpebjjcijgcaaB3
import Derived.Test.YtfcpebjjcijgcaaB4
import Derived.Test.YtfcpebjjcijgcaaB5
import Derived.Test.YtfcpebjjcijgcaaRows
import Derived.WalkKit
-- by hand: lemmas
namespace Go.Proofs.Ytfcpebjjcijgcaa.G
open Go.RowKit Go.Proofs.YtfcpebjjcijgcaaW.PrintWords Go.Proofs.YtfcpebjjcijgcaaW.PrintLast Go.Proofs.YtfcpebjjcijgcaaW.PrintMore
attribute [local go_sem] max2_int min2_int max_two min_two max_three min_three max_four min_four   -- for this text's walks alone
set_option linter.unusedVariables false
set_option linter.unusedSimpArgs false
/-! What a reading of an argument says of its cells -/
theorem skolem_list {α : Type} {Q : Nat → α → Prop} : ∀ n, (∀ i, i < n → ∃ x, Q i x) → ∃ xs : List α, xs.length = n ∧ ∀ i x, xs[i]? = some x → Q i x
  | 0, _ => ⟨[], rfl, fun i x h => by simp at h⟩
  | n + 1, h => by
    obtain ⟨xs, hl, hx⟩ := skolem_list n fun i hi => h i (by omega)
    obtain ⟨y, hy⟩ := h n (by omega)
    refine ⟨xs ++ [y], by simp [hl], fun i x hi => ?_⟩
    by_cases hlt : i < xs.length
    · rw [List.getElem?_append_left hlt] at hi
      exact hx i x hi
    · rw [List.getElem?_append_right (by omega)] at hi
      obtain ⟨h0, _⟩ := List.getElem?_eq_some_iff.1 hi
      have h0 : i - xs.length < 1 := h0
      have e : i = n := by omega
      subst e
      rw [hl, Nat.sub_self] at hi
      obtain rfl := Option.some.inj hi
      exact hy
section
variable {H : Type} {enc : TypeId × Value → H} {P : Program} {w : World} {sp : Nat → Bool} {held : Bool}
/-- Cells of a type read as something of the kind d. -/
def Opens {α : Type} (enc : TypeId × Value → H) (P : Program) (w : World) (sp : Nat → Bool) (held : Bool) (t : TypeId) (d : Kd α) (Good : α → Prop) : Prop :=
  ∀ fuel cs y, DataW.trod enc P w 0 sp held fuel t cs = some y → ∃ x, d.K w x cs ∧ Good x
theorem opens_int {t : TypeId} {k : IntKind} (ht : P.underlying t = some (.int k)) : Opens enc P w sp held t (Kd.int k) (fun n => (Lit.int k n).wf = true) := fun fuel cs y h => by
  obtain ⟨n, rfl, _, hw⟩ := DataW.trod_int ht h
  exact ⟨n, rfl, hw⟩
theorem opens_string {t : TypeId} (ht : P.underlying t = some .string) : Opens enc P w sp held t Kd.string (fun s => s.size ≤ 9223372036854775807) := fun fuel cs y h => by
  obtain ⟨s, rfl, _, hw⟩ := DataW.trod_string ht h
  exact ⟨s, rfl, hw⟩
theorem opens_bool {t : TypeId} (ht : P.underlying t = some .bool) : Opens enc P w sp held t Kd.bool (fun _ => True) := fun fuel cs y h => by
  obtain ⟨b, rfl, _⟩ := DataW.trod_bool ht h
  exact ⟨b, rfl, trivial⟩
theorem opens_rows {α : Type} {d : Kd α} {Good : α → Prop} {t e : TypeId} (ht : P.underlying t = some (.slice e)) (hc : P.cellsOf e = d.sz) (he : Opens enc P w sp held e d Good) {fuel : Nat} {cs : List Value} {y : DataW H × List MemPlace} (h : DataW.trod enc P w 0 sp held fuel t cs = some y) :
    ∃ A cap, ∃ xs : List α, cs = [.slice A xs.length cap] ∧ xs.length ≤ cap ∧ d.C w A xs.length xs ∧ ∀ x, x ∈ xs → Good x := by
  rcases DataW.trod_slice ht h with ⟨rfl, _⟩ | ⟨a, len, cap, elems, rest, n, _, rfl, rfl, hb, hl, hm, hlen, hel, _, _⟩
  · exact ⟨none, 0, [], rfl, Nat.le_refl _, Kd.C_nil d w, fun x hx => by cases hx⟩
  · obtain ⟨xs, hxl, hx⟩ := skolem_list (α := α) (Q := fun i x => (∃ c, c.length = d.sz ∧ d.K w x c ∧ ∀ j u, c[j]? = some u → w.cell? (a.add (i * d.sz + j)) = some u) ∧ Good x) len (fun i hi => by
      have h1 := hel i hi
      rw [List.getElem?_eq_getElem (by omega), Option.bind_eq_some_iff] at h1
      obtain ⟨c, h2, h3⟩ := h1
      obtain ⟨x, hK, hg⟩ := he _ _ _ h3
      obtain ⟨_, hcl, hcc⟩ := World.cells?_some h2
      refine ⟨x, ⟨c, by omega, hK, fun j u hu => ?_⟩, hg⟩
      obtain ⟨hj, _⟩ := List.getElem?_eq_some_iff.1 hu
      have := hcc j (by omega)
      rw [hu, hc] at this
      rw [← this, Addr.add_add])
    subst hxl
    refine ⟨some a, cap, xs, rfl, hl, ⟨rfl, by unfold maxLen at hm; omega, fun _ => ⟨a, rfl, fun j p hp => (hx j p hp).1⟩⟩, fun x hxm => ?_⟩
    obtain ⟨i, hi⟩ := List.getElem?_of_mem hxm
    exact (hx i x hi).2
theorem opens_slice {α : Type} {d : Kd α} {Good : α → Prop} {t e : TypeId} (ht : P.underlying t = some (.slice e)) (hc : P.cellsOf e = d.sz) (he : Opens enc P w sp held e d Good) : Opens enc P w sp held t (Kd.slice e d) (fun xs => ∀ x, x ∈ xs → Good x) := fun fuel cs y h => by
  obtain ⟨A, cap, xs, rfl, h1, h2, h3⟩ := opens_rows ht hc he h
  exact ⟨xs, ⟨A, cap, rfl, h1, h2⟩, h3⟩
/-- The part of a field. -/
theorem field_at {t : TypeId} {fs : Array Field} {fuel : Nat} {cs : List Value} {y : DataW H × List MemPlace} (ht : P.underlying t = some (.struct fs)) (h : DataW.trod enc P w 0 sp held fuel t cs = some y) :
    cs.length = P.cellsOf t ∧ ∀ (i : Nat) (f : Field), fs[i]? = some f → ∀ {α : Type} {d : Kd α} {Good : α → Prop}, Opens enc P w sp held f.type d Good → ∃ x, d.K w x ((cs.drop f.offset).take (P.cellsOf f.type)) ∧ Good x := by
  obtain ⟨xs, n, rfl, _, hl, hxl, hx⟩ := DataW.trod_struct ht h
  refine ⟨hl, fun i f hf α d Good hO => ?_⟩
  have h1 := hx i f hf
  have hi : i < fs.size := (Array.getElem?_eq_some_iff.1 hf).1
  rw [List.getElem?_eq_getElem (by omega)] at h1
  exact hO _ _ _ h1
end
section
variable {H : Type} {enc : TypeId × Value → H} {w : World} {sp : Nat → Bool} {held : Bool}
theorem opens_group : Opens enc Try.prog w sp held 36 k36 (fun g => g.f0.size ≤ 9223372036854775807) := fun fuel cs y h => by
  obtain ⟨hl, hf⟩ := field_at Try.underlying36 h
  have hl : cs.length = 3 := hl
  obtain ⟨s, h0, g0⟩ := hf 0 _ rfl (opens_string Try.underlying9)
  obtain ⟨a, h1, _⟩ := hf 1 _ rfl (opens_int Try.underlying3)
  obtain ⟨b, h2, _⟩ := hf 2 _ rfl (opens_int Try.underlying3)
  match cs, hl with
  | [c0, c1, c2], _ =>
    have h0 : [c0] = [.string s] := h0
    have h1 : [c1] = [.int .i64 a] := h1
    have h2 : [c2] = [.int .i64 b] := h2
    obtain ⟨rfl, _⟩ := List.cons.inj h0
    obtain ⟨rfl, _⟩ := List.cons.inj h1
    obtain ⟨rfl, _⟩ := List.cons.inj h2
    exact ⟨⟨s, a, b⟩, k36_mk w ⟨s, a, b⟩, g0⟩
theorem opens_element : Opens enc Try.prog w sp held 51 k51 (fun _ => True) := fun fuel cs y h => by
  obtain ⟨hl, hf⟩ := field_at Try.underlying51 h
  have hl : cs.length = 4 := hl
  obtain ⟨a, h0, _⟩ := hf 0 _ rfl (opens_int Try.underlying3)
  obtain ⟨b, h1, _⟩ := hf 1 _ rfl (opens_int Try.underlying3)
  obtain ⟨c, h2, _⟩ := hf 2 _ rfl (opens_int Try.underlying3)
  obtain ⟨v, h3, _⟩ := hf 3 _ rfl (opens_bool Try.underlying4)
  match cs, hl with
  | [c0, c1, c2, c3], _ =>
    have h0 : [c0] = [.int .i64 a] := h0
    have h1 : [c1] = [.int .i64 b] := h1
    have h2 : [c2] = [.int .i64 c] := h2
    have h3 : [c3] = [.bool v] := h3
    obtain ⟨rfl, _⟩ := List.cons.inj h0
    obtain ⟨rfl, _⟩ := List.cons.inj h1
    obtain ⟨rfl, _⟩ := List.cons.inj h2
    obtain ⟨rfl, _⟩ := List.cons.inj h3
    exact ⟨⟨a, b, c, v⟩, k51_mk w ⟨a, b, c, v⟩, trivial⟩
theorem opens_entry : Opens enc Try.prog w sp held 49 k49 (fun _ => True) := fun fuel cs y h => by
  obtain ⟨hl, hf⟩ := field_at Try.underlying49 h
  have hl : cs.length = 2 := hl
  obtain ⟨xs, h0, _⟩ := hf 0 _ rfl (opens_slice Try.underlying46 (by kernel_rfl) (opens_int Try.underlying3))
  obtain ⟨es, h1, _⟩ := hf 1 _ rfl (opens_slice Try.underlying47 (by kernel_rfl) opens_element)
  match cs, hl with
  | [c0, c1], _ =>
    obtain ⟨A0, p0, e0, l0, g0⟩ := h0
    obtain ⟨A1, p1, e1, l1, g1⟩ := h1
    have e0 : [c0] = [.slice A0 xs.length p0] := e0
    have e1 : [c1] = [.slice A1 es.length p1] := e1
    obtain ⟨rfl, _⟩ := List.cons.inj e0
    obtain ⟨rfl, _⟩ := List.cons.inj e1
    exact ⟨⟨xs, es⟩, k49_mk w ⟨xs, es⟩ l0 g0 l1 g1, trivial⟩
/-- A collation that came in. -/
theorem opens_coll {fuel : Nat} {cs : List Value} {y : DataW H × List MemPlace} (h : DataW.trod enc Try.prog w 0 sp held fuel 25 cs = some y) :
    ∃ A0 c0, ∃ E : List S49, ∃ A1 c1, ∃ G : List S36, ∃ b2 b3 b4 : Int, cs = [.slice A0 E.length c0, .slice A1 G.length c1, .int .i64 b2, .int .i64 b3, .int .i64 b4] ∧ E.length ≤ c0 ∧ Kd.C k49 w A0 E.length E ∧ G.length ≤ c1 ∧ Kd.C k36 w A1 G.length G ∧ ∀ g, g ∈ G → g.f0.size ≤ 9223372036854775807 := by
  obtain ⟨hl, hf⟩ := field_at Try.underlying25 h
  have hl : cs.length = 5 := hl
  obtain ⟨E, h0, _⟩ := hf 0 _ rfl (opens_slice Try.underlying22 (by kernel_rfl) opens_entry)
  obtain ⟨G, h1, hg⟩ := hf 1 _ rfl (opens_slice Try.underlying23 (by kernel_rfl) opens_group)
  obtain ⟨b2, h2, _⟩ := hf 2 _ rfl (opens_int Try.underlying3)
  obtain ⟨b3, h3, _⟩ := hf 3 _ rfl (opens_int Try.underlying3)
  obtain ⟨b4, h4, _⟩ := hf 4 _ rfl (opens_int Try.underlying3)
  match cs, hl with
  | [d0, d1, d2, d3, d4], _ =>
    obtain ⟨A0, p0, e0, l0, g0⟩ := h0
    obtain ⟨A1, p1, e1, l1, g1⟩ := h1
    have e0 : [d0] = [.slice A0 E.length p0] := e0
    have e1 : [d1] = [.slice A1 G.length p1] := e1
    have h2 : [d2] = [.int .i64 b2] := h2
    have h3 : [d3] = [.int .i64 b3] := h3
    have h4 : [d4] = [.int .i64 b4] := h4
    obtain ⟨rfl, _⟩ := List.cons.inj e0
    obtain ⟨rfl, _⟩ := List.cons.inj e1
    obtain ⟨rfl, _⟩ := List.cons.inj h2
    obtain ⟨rfl, _⟩ := List.cons.inj h3
    obtain ⟨rfl, _⟩ := List.cons.inj h4
    exact ⟨A0, p0, E, A1, p1, G, b2, b3, b4, rfl, l0, g0, l1, g1, hg⟩
/-- Names that came in. -/
theorem opens_names {fuel : Nat} {cs : List Value} {y : DataW H × List MemPlace} (h : DataW.trod enc Try.prog w 0 sp held fuel 26 cs = some y) :
    ∃ A c, ∃ l : List ByteArray, cs = [.slice A l.length c] ∧ l.length ≤ c ∧ Kd.C Kd.string w A l.length l ∧ ∀ s, s ∈ l → s.size ≤ 9223372036854775807 :=
  opens_rows Try.underlying26 (by kernel_rfl) (opens_string Try.underlying9) h
end
end Go.Proofs.Ytfcpebjjcijgcaa.G
-- by hand: lemmas
namespace Go.Proofs.Ytfcpebjjcijgcaa.G
open Go.RowKit Go.Proofs.YtfcpebjjcijgcaaW.PrintWords Go.Proofs.YtfcpebjjcijgcaaW.PrintLast Go.Proofs.YtfcpebjjcijgcaaW.PrintMore
attribute [local go_sem] max2_int min2_int max_two min_two max_three min_three max_four min_four   -- for this text's walks alone
set_option linter.unusedVariables false
set_option linter.unusedSimpArgs false
/-! The whole check, twice -/
section
variable (E : List S49) (G : List S36) (base b3 b4 : Int) (cs : List Int) (es : List S51) (x : Int)
theorem re_l2 (r : Int) (hes : es.length ≤ 1099511627776) (hN : Ev (fun k => if x > 0 then (if 0 ≤ wrap64 (x - 1) then (if wrap64 (x - 1) < (E.length : Int) then ((unicodetextref01_Compare.f k ((rd_T49 E (wrap64 (x - 1))).f0) cs).bind fun t110 => if t110 ≥ 0 then some 4 else some 0) else none) else none) else some 0) r) : ∀ (d i : Nat), es.length - i = d → Ev (fun k => unicodetextref43_entry.l2 k x (i : Int) E G base b3 b4 cs es) (if (es.drop i).any (fun e => decide (base ≤ e.f0)) = true then 1 else r) := by
  intro d
  induction d with
  | zero =>
    intro i hd
    rw [List.drop_of_length_le (by omega), List.any_nil, if_neg (by simp)]
    refine Ev.step (fun k => ?_) hN
    simp only [unicodetextref43_entry.l2]
    rw [if_neg (by omega)]
  | succ d ih =>
    intro i hd
    have hi : i < es.length := by omega
    rw [List.drop_eq_getElem_cons hi, List.any_cons]
    by_cases hb : base ≤ es[i].f0
    · rw [decide_eq_true hb, Bool.true_or, if_pos rfl]
      refine Ev.step (f := fun _ => some 1) (fun k => ?_) (Ev.now _)
      simp only [unicodetextref43_entry.l2]
      rw [rdT51 hi, if_pos (by omega), if_pos (by omega), if_pos (by omega)]
    · rw [decide_eq_false hb, Bool.false_or]
      refine Ev.step (f := fun k => unicodetextref43_entry.l2 k x ((i + 1 : Nat) : Int) E G base b3 b4 cs es) (fun k => ?_) (ih (i + 1) (by omega))
      simp only [unicodetextref43_entry.l2]
      rw [rdT51 hi, if_pos (by omega), if_pos (by omega), if_neg (by omega), wrap_nat (by omega)]
theorem re_l1 (r : Int) (hes : es.length ≤ 1099511627776) (hN : Ev (fun k => unicodetextref43_entry.l2 k x ((0 : Nat) : Int) E G base b3 b4 cs es) r) : ∀ (d i : Nat), es.length - i = d → Ev (fun k => unicodetextref43_entry.l1 k x (i : Int) E G base b3 b4 cs es) (if elErr (es.drop i) ≠ 0 then elErr (es.drop i) else r) := by
  intro d
  induction d with
  | zero =>
    intro i hd
    rw [List.drop_of_length_le (by omega), if_neg (by simp [elErr])]
    refine Ev.step (f := fun k => unicodetextref43_entry.l2 k x ((0 : Nat) : Int) E G base b3 b4 cs es) (fun k => ?_) hN
    simp only [unicodetextref43_entry.l1]
    rw [if_neg (by omega)]
    rfl
  | succ d ih =>
    intro i hd
    have hi : i < es.length := by omega
    rw [List.drop_eq_getElem_cons hi]
    have hC : Ev (fun k => unicodetextref42_Check.f k es[i].f0 es[i].f1 es[i].f2 es[i].f3) (elemErr es[i]) := Ev.step (f := fun _ => some (elemErr es[i])) (fun k => relem_at k _) (Ev.now _)
    refine Ev.step (f := fun k => (unicodetextref42_Check.f k es[i].f0 es[i].f1 es[i].f2 es[i].f3).bind fun t107 => if t107 = 0 then unicodetextref43_entry.l1 k x ((i + 1 : Nat) : Int) E G base b3 b4 cs es else some t107) (fun k => ?_) (Ev.bind hC ?_)
    · simp only [unicodetextref43_entry.l1]
      rw [rdT51 hi, if_pos (by omega), if_pos (by omega), wrap_nat (by omega)]
    · by_cases h0 : elemErr es[i] = 0
      · simp only [h0, if_true, elErr]
        simpa using ih (i + 1) (by omega)
      · simp only [h0, if_false, elErr, ne_eq, not_false_eq_true, if_true]
        exact Ev.now _
theorem re_l0 (r : Int) (hcs : cs.length ≤ 1099511627776) (hN : Ev (fun k => unicodetextref43_entry.l1 k x ((0 : Nat) : Int) E G base b3 b4 cs es) r) : ∀ (d i : Nat), cs.length - i = d → Ev (fun k => unicodetextref43_entry.l0 k x (i : Int) E G base b3 b4 cs es) (if (cs.drop i).any (fun n => !validP n) = true then 1 else r) := by
  intro d
  induction d with
  | zero =>
    intro i hd
    rw [List.drop_of_length_le (by omega), List.any_nil, if_neg (by simp)]
    refine Ev.step (f := fun k => unicodetextref43_entry.l1 k x ((0 : Nat) : Int) E G base b3 b4 cs es) (fun k => ?_) hN
    simp only [unicodetextref43_entry.l0]
    rw [if_neg (by omega)]
    rfl
  | succ d ih =>
    intro i hd
    have hi : i < cs.length := by omega
    rw [List.drop_eq_getElem_cons hi, List.any_cons]
    have hv : unicodetextref01_Valid.f cs[i] = some (validP cs[i]) := by
      unfold unicodetextref01_Valid.f validP
      split
      · rename_i h
        rw [decide_eq_true (show 0 ≤ cs[i] from h), Bool.true_and]
      · rename_i h
        rw [decide_eq_false (show ¬ 0 ≤ cs[i] from h), Bool.false_and]
    by_cases hb : validP cs[i] = true
    · rw [hb, Bool.not_true, Bool.false_or]
      refine Ev.step (f := fun k => unicodetextref43_entry.l0 k x ((i + 1 : Nat) : Int) E G base b3 b4 cs es) (fun k => ?_) (ih (i + 1) (by omega))
      simp only [unicodetextref43_entry.l0]
      rw [rdI hi, if_pos (by omega), if_pos (by omega), wrap_nat (by omega), hv, Option.bind_some, if_pos hb]
    · rw [Bool.eq_false_iff.2 hb, Bool.not_false, Bool.true_or, if_pos rfl]
      refine Ev.step (f := fun _ => some 1) (fun k => ?_) (Ev.now _)
      simp only [unicodetextref43_entry.l0]
      rw [rdI hi, if_pos (by omega), if_pos (by omega), hv, Option.bind_some, if_neg hb]
end
/-- The entry before entry i. -/
def prevOf (l : List S49) (i : Nat) : Option S49 := if i = 0 then none else l[i - 1]?
/-- The first error of entries behind p. -/
def entErrs (base : Int) : Option S49 → List S49 → Int
  | _, [] => 0
  | p, e :: l => if enErr base e.f0 e.f1 ≠ 0 then enErr base e.f0 e.f1 else match p with
    | some q => if 0 ≤ cmpL q.f0 e.f0 then 4 else entErrs base (some e) l
    | none => entErrs base (some e) l
/-- The first error of a collation. -/
def chk (E : List S49) (G : List S36) (base b3 b4 : Int) : Int :=
  if base < 1 ∨ 65502 < base ∨ b3 < 1 ∨ 65535 < b3 ∨ b4 < 1 ∨ 65535 < b4 then 1 else if grErr G base = 0 then entErrs base none E else grErr G base
/-- Nothing of the entries is longer than any machine bears. -/
def eFits (E : List S49) : Prop := E.length ≤ 1099511627776 ∧ ∀ e, e ∈ E → e.f0.length ≤ 1099511627776 ∧ e.f1.length ≤ 1099511627776
theorem prevOf_succ {l : List S49} {i : Nat} (h : i < l.length) : prevOf l (i + 1) = some l[i] := by
  unfold prevOf
  rw [if_neg (by omega), Nat.add_sub_cancel, List.getElem?_eq_getElem h]
theorem rentry_ev (E : List S49) (G : List S36) (base b3 b4 : Int) (hE : eFits E) (i : Nat) (hi : i < E.length) : Ev (fun k => unicodetextref43_entry.f k E G base b3 b4 (i : Int)) (if enErr base E[i].f0 E[i].f1 ≠ 0 then enErr base E[i].f0 E[i].f1 else match prevOf E i with | some q => if 0 ≤ cmpL q.f0 E[i].f0 then 4 else 0 | none => 0) := by
  obtain ⟨hc, he⟩ := hE.2 E[i] (List.getElem_mem hi)
  have hEl := hE.1
  have h0 : ∀ k, unicodetextref43_entry.f k E G base b3 b4 (i : Int) = unicodetextref43_entry.j0 k (i : Int) (decide (E[i].f0.length < 1 ∨ 8 < E[i].f0.length ∨ 16 < E[i].f1.length)) E G base b3 b4 E[i].f0 E[i].f1 := fun k => by
    unfold unicodetextref43_entry.f
    rw [rdT49 hi, if_pos (by omega), if_pos (by omega)]
    by_cases h1 : E[i].f0.length < 1
    · rw [if_pos (by omega), decide_eq_true (.inl h1)]
    · rw [if_neg (by omega)]
      by_cases h2 : 8 < E[i].f0.length
      · rw [if_pos (by omega), decide_eq_true (.inr (.inl h2))]
      · rw [if_neg (by omega)]
        congr 1
        rw [Bool.eq_iff_iff, decide_eq_true_iff, decide_eq_true_iff]
        omega
  refine Ev.congr h0 ?_
  unfold enErr
  by_cases hs : E[i].f0.length < 1 ∨ 8 < E[i].f0.length ∨ 16 < E[i].f1.length
  · rw [decide_eq_true hs, if_pos hs]
    refine Ev.step (f := fun _ => some 2) (fun k => ?_) (Ev.now _)
    simp only [unicodetextref43_entry.j0, if_true]
  · rw [decide_eq_false hs, if_neg hs]
    have hcmp : Ev (α := Int) (fun k => if (i : Int) > 0 then (if 0 ≤ wrap64 ((i : Int) - 1) then (if wrap64 ((i : Int) - 1) < (E.length : Int) then ((unicodetextref01_Compare.f k ((rd_T49 E (wrap64 ((i : Int) - 1))).f0) E[i].f0).bind fun t110 => if t110 ≥ 0 then some 4 else some 0) else none) else none) else some 0) (match prevOf E i with | some q => if 0 ≤ cmpL q.f0 E[i].f0 then 4 else 0 | none => 0) := by
      cases i with
      | zero => exact Ev.now _
      | succ j =>
        have hj : j < E.length := by omega
        rw [prevOf_succ hj]
        have := hE.2 E[j] (List.getElem_mem hj)
        refine Ev.congr (f := fun k => (unicodetextref01_Compare.f k E[j].f0 E[j + 1].f0).bind fun t110 => if t110 ≥ 0 then some 4 else some 0) (fun k => ?_) (Ev.bind (rcmp_ev _ _ this.1 hc) ?_)
        · rw [if_pos (by omega), wrap_pred (by omega), if_pos (by omega), if_pos (by omega), rdT49 hj]
        · by_cases hge : 0 ≤ cmpL E[j].f0 E[j + 1].f0
          · simp only [ge_iff_le, if_pos hge]
            exact Ev.now _
          · simp only [ge_iff_le, if_neg hge]
            exact Ev.now _
    have := re_l0 E G base b3 b4 E[i].f0 E[i].f1 (i : Int) _ hc (re_l1 E G base b3 b4 E[i].f0 E[i].f1 (i : Int) _ he (re_l2 E G base b3 b4 E[i].f0 E[i].f1 (i : Int) _ he hcmp _ 0 rfl) _ 0 rfl) _ 0 rfl
    simp only [List.drop_zero] at this
    refine Ev.step (f := fun k => unicodetextref43_entry.l0 k (i : Int) ((0 : Nat) : Int) E G base b3 b4 E[i].f0 E[i].f1) (fun k => ?_) ?_
    · simp only [unicodetextref43_entry.j0, Bool.false_eq_true, if_false]
      rfl
    · generalize (match prevOf E i with | some q => if 0 ≤ cmpL q.f0 E[i].f0 then (4 : Int) else 0 | none => 0) = q at this ⊢
      clear hcmp h0
      revert this
      repeat' split
      all_goals first | exact id | (intro _; exfalso; simp_all; done) | (intro h; simp_all)
section
variable (E : List S49) (G : List S36) (base b3 b4 : Int) (hE : eFits E)
include hE
theorem rchk_loop : ∀ (d i : Nat), E.length - i = d → Ev (fun k => unicodetextref43_Check.l0 k (i : Int) E G base b3 b4) (entErrs base (prevOf E i) (E.drop i)) := by
  have hl := hE.1
  intro d
  induction d with
  | zero =>
    intro i hd
    rw [List.drop_of_length_le (by omega)]
    refine Ev.step (f := fun _ => some 0) (fun k => ?_) (by unfold entErrs; exact Ev.now _)
    simp only [unicodetextref43_Check.l0]
    rw [if_neg (by omega)]
  | succ d ih =>
    intro i hd
    have hi : i < E.length := by omega
    rw [List.drop_eq_getElem_cons hi]
    refine Ev.step (f := fun k => (unicodetextref43_entry.f k E G base b3 b4 (i : Int)).bind fun t105 => if t105 = 0 then unicodetextref43_Check.l0 k ((i + 1 : Nat) : Int) E G base b3 b4 else some t105) (fun k => ?_) (Ev.bind (rentry_ev E G base b3 b4 hE i hi) ?_)
    · simp only [unicodetextref43_Check.l0]
      rw [if_pos (by omega), wrap_nat (by omega)]
    · have hn := ih (i + 1) (by omega)
      rw [prevOf_succ hi] at hn
      unfold entErrs
      by_cases he : enErr base E[i].f0 E[i].f1 = 0
      · simp only [he, ne_eq, not_true_eq_false, if_false]
        cases hp : prevOf E i with
        | none => simpa using hn
        | some q =>
          by_cases hc : 0 ≤ cmpL q.f0 E[i].f0
          · simp only [if_pos hc]
            exact Ev.now _
          · simp only [if_neg hc, if_true]
            exact hn
      · simp only [he, ne_eq, not_false_eq_true, if_true, if_false]
        exact Ev.now _
theorem cchk_loop : ∀ (d i : Nat), E.length - i = d → Ev (fun k => colltable_Check.l0 k E (E.length : Int) (i : Int) E G base b3 b4) (entErrs base (prevOf E i) (E.drop i)) := by
  have hl := hE.1
  intro d
  induction d with
  | zero =>
    intro i hd
    rw [List.drop_of_length_le (by omega)]
    refine Ev.step (f := fun _ => some 0) (fun k => ?_) (by unfold entErrs; exact Ev.now _)
    simp only [colltable_Check.l0]
    rw [if_neg (by omega)]
  | succ d ih =>
    intro i hd
    have hi : i < E.length := by omega
    rw [List.drop_eq_getElem_cons hi]
    have hn := ih (i + 1) (by omega)
    rw [prevOf_succ hi] at hn
    unfold entErrs
    by_cases he : enErr base E[i].f0 E[i].f1 = 0
    · rw [if_neg (by rw [he]; simp)]
      cases i with
      | zero =>
        have hp : prevOf E 0 = none := rfl
        rw [hp]
        refine Ev.step (f := fun k => colltable_Check.l0 k E (E.length : Int) ((0 + 1 : Nat) : Int) E G base b3 b4) (fun k => ?_) hn
        simp only [colltable_Check.l0]
        rw [rdT49 hi, if_pos (by omega), if_pos (by omega), if_pos (by omega), wrap_nat (by omega)]
        simp only [colltable_ofEntry.f, Option.bind_some]
        rw [if_pos he, if_neg (by omega)]
      | succ j =>
        have hj : j < E.length := by omega
        rw [prevOf_succ hj]
        by_cases hc : 0 ≤ cmpL E[j].f0 E[j + 1].f0
        · simp only [if_pos hc]
          refine Ev.step (f := fun _ => some 4) (fun k => ?_) (Ev.now _)
          simp only [colltable_Check.l0]
          rw [rdT49 hi, if_pos (by omega), if_pos (by omega), if_pos (by omega), wrap_pred (by omega), rdT49 hj]
          simp only [colltable_ofEntry.f, codepoint_Compare.f, Option.bind_some]
          rw [if_pos he, if_pos (by omega), if_pos (by omega), if_pos (by omega), if_pos hc]
        · simp only [if_neg hc]
          refine Ev.step (f := fun k => colltable_Check.l0 k E (E.length : Int) ((j + 1 + 1 : Nat) : Int) E G base b3 b4) (fun k => ?_) hn
          simp only [colltable_Check.l0]
          rw [rdT49 hi, if_pos (by omega), if_pos (by omega), if_pos (by omega), wrap_pred (by omega), rdT49 hj, wrap_nat (by omega)]
          simp only [colltable_ofEntry.f, codepoint_Compare.f, Option.bind_some]
          rw [if_pos he, if_pos (by omega), if_pos (by omega), if_pos (by omega), if_neg hc]
    · rw [if_pos he]
      refine Ev.step (f := fun _ => some (enErr base E[i].f0 E[i].f1)) (fun k => ?_) (Ev.now _)
      simp only [colltable_Check.l0]
      rw [rdT49 hi, if_pos (by omega), if_pos (by omega), if_pos (by omega)]
      simp only [colltable_ofEntry.f, Option.bind_some]
      rw [if_neg he]
theorem cchk_ev (hG : fits G = true) : Ev (fun k => colltable_Check.f k E G base b3 b4) (chk E G base b3 b4) := by
  have h0 : ∀ k, colltable_Check.f k E G base b3 b4 = colltable_Check.j0 k (decide (base < 1 ∨ 65502 < base ∨ b3 < 1 ∨ 65535 < b3 ∨ b4 < 1 ∨ 65535 < b4)) E G base b3 b4 := fun k => by
    unfold colltable_Check.f
    repeat' split
    all_goals first | (rw [decide_eq_true (by omega)]; done) | (congr 1; rw [Bool.eq_iff_iff, decide_eq_true_iff, decide_eq_true_iff]; omega)
  refine Ev.congr h0 ?_
  unfold chk
  by_cases hb : base < 1 ∨ 65502 < base ∨ b3 < 1 ∨ 65535 < b3 ∨ b4 < 1 ∨ 65535 < b4
  · rw [decide_eq_true hb, if_pos hb]
    refine Ev.step (f := fun _ => some 1) (fun k => ?_) (Ev.now _)
    simp only [colltable_Check.j0, if_true]
  · rw [decide_eq_false hb, if_neg hb]
    have hg : colltable_ofGroups.f E G base b3 b4 = some (grErr G base) := by
      unfold colltable_ofGroups.f
      rw [if_pos hG]
    by_cases hz : grErr G base = 0
    · rw [if_pos hz]
      refine Ev.step (f := fun k => colltable_Check.l0 k E (E.length : Int) ((0 : Nat) : Int) E G base b3 b4) (fun k => ?_) (cchk_loop E G base b3 b4 hE _ 0 rfl)
      simp only [colltable_Check.j0, Bool.false_eq_true, if_false]
      rw [hg, Option.bind_some, if_pos hz]
      rfl
    · rw [if_neg hz]
      refine Ev.step (f := fun _ => some (grErr G base)) (fun k => ?_) (Ev.now _)
      simp only [colltable_Check.j0, Bool.false_eq_true, if_false]
      rw [hg, Option.bind_some, if_neg hz]
theorem rchk_ev (hG : fits G = true) : Ev (fun k => unicodetextref43_Check.f k E G base b3 b4) (chk E G base b3 b4) := by
  have h0 : ∀ k, unicodetextref43_Check.f k E G base b3 b4 = unicodetextref43_Check.j0 k (decide (base < 1 ∨ 65502 < base ∨ b3 < 1 ∨ 65535 < b3 ∨ b4 < 1 ∨ 65535 < b4)) E G base b3 b4 := fun k => by
    unfold unicodetextref43_Check.f unicodetextref43_weight.f
    by_cases h1 : base < 1
    · rw [if_pos h1, decide_eq_true (by omega)]
    · rw [if_neg h1]
      by_cases h2 : base > 65502
      · rw [if_pos h2, decide_eq_true (by omega)]
      · rw [if_neg h2]
        by_cases h3 : b3 ≥ 1
        · rw [if_pos h3, Option.bind_some]
          by_cases h3' : b3 ≤ 65535
          · rw [decide_eq_true h3', if_pos rfl]
            by_cases h4 : b4 ≥ 1
            · rw [if_pos h4, Option.bind_some]
              congr 1
              rw [Bool.eq_iff_iff, Bool.not_eq_true', decide_eq_false_iff_not, decide_eq_true_iff]
              omega
            · rw [if_neg h4, Option.bind_some, decide_eq_true (by omega)]
              rfl
          · rw [decide_eq_false h3', if_neg (by simp), decide_eq_true (by omega)]
        · rw [if_neg h3, Option.bind_some, if_neg (by simp), decide_eq_true (by omega)]
  refine Ev.congr h0 ?_
  unfold chk
  by_cases hb : base < 1 ∨ 65502 < base ∨ b3 < 1 ∨ 65535 < b3 ∨ b4 < 1 ∨ 65535 < b4
  · rw [decide_eq_true hb, if_pos hb]
    refine Ev.step (f := fun _ => some 1) (fun k => ?_) (Ev.now _)
    simp only [unicodetextref43_Check.j0, if_true]
  · rw [decide_eq_false hb, if_neg hb]
    refine Ev.step (f := fun k => (unicodetextref43_groups.f k E G base b3 b4).bind fun t104 => if t104 = 0 then unicodetextref43_Check.l0 k ((0 : Nat) : Int) E G base b3 b4 else some t104) (fun k => ?_) (Ev.bind (rgroups_ev G hG E base b3 b4) ?_)
    · simp only [unicodetextref43_Check.j0, Bool.false_eq_true, if_false]
      rfl
    · by_cases hz : grErr G base = 0
      · simp only [hz, if_true]
        exact rchk_loop E G base b3 b4 hE _ 0 rfl
      · simp only [hz, if_false]
        exact Ev.now _
end
/-! small collations -/
def smallP (E : List S49) (G : List S36) : Bool := decide (E.length ≤ 12) && decide (G.length ≤ 8) && E.all fun e => decide (e.f0.length ≤ 10) && decide (e.f1.length ≤ 20)
theorem small_ev (E : List S49) (G : List S36) (base b3 b4 : Int) : Ev (fun k => unicodetextref43_Small.f k E G base b3 b4) (smallP E G) := by
  have h0 : ∀ k, unicodetextref43_Small.f k E G base b3 b4 = unicodetextref43_Small.j0 k (!(decide (E.length ≤ 12) && decide (G.length ≤ 8))) E G base b3 b4 := fun k => by
    unfold unicodetextref43_Small.f
    by_cases h1 : E.length ≤ 12
    · rw [if_neg (by omega), decide_eq_true h1, Bool.true_and]
      congr 1
      rw [Bool.eq_iff_iff, decide_eq_true_iff, Bool.not_eq_true', decide_eq_false_iff_not]
      omega
    · rw [if_pos (by omega), decide_eq_false h1]
      rfl
  refine Ev.congr h0 ?_
  unfold smallP
  by_cases h : E.length ≤ 12 ∧ G.length ≤ 8
  · obtain ⟨h1, h2⟩ := h
    rw [decide_eq_true h1, decide_eq_true h2]
    have loop : ∀ (d i : Nat), E.length - i = d → Ev (fun k => unicodetextref43_Small.l0 k (i : Int) E G base b3 b4) ((E.drop i).all fun e => decide (e.f0.length ≤ 10) && decide (e.f1.length ≤ 20)) := by
      intro d
      induction d with
      | zero =>
        intro i hd
        rw [List.drop_of_length_le (by omega)]
        refine Ev.step (f := fun _ => some true) (fun k => ?_) (Ev.now _)
        simp only [unicodetextref43_Small.l0]
        rw [if_neg (by omega)]
      | succ d ih =>
        intro i hd
        have hi : i < E.length := by omega
        rw [List.drop_eq_getElem_cons hi, List.all_cons]
        by_cases ha : E[i].f0.length ≤ 10 ∧ E[i].f1.length ≤ 20
        · rw [decide_eq_true ha.1, decide_eq_true ha.2]
          refine Ev.step (f := fun k => unicodetextref43_Small.l0 k ((i + 1 : Nat) : Int) E G base b3 b4) (fun k => ?_) (by simpa using ih (i + 1) (by omega))
          simp only [unicodetextref43_Small.l0]
          rw [rdT49 hi, if_pos (by omega), if_pos (by omega), if_neg (by omega), if_neg (by omega), wrap_nat (by omega)]
        · rw [show (decide (E[i].f0.length ≤ 10) && decide (E[i].f1.length ≤ 20)) = false by rw [← Bool.decide_and]; exact decide_eq_false ha, Bool.false_and]
          refine Ev.step (f := fun _ => some false) (fun k => ?_) (Ev.now _)
          simp only [unicodetextref43_Small.l0]
          rw [rdT49 hi, if_pos (by omega), if_pos (by omega)]
          repeat' split
          all_goals first | rfl | (exfalso; omega)
    have := loop _ 0 rfl
    rw [List.drop_zero] at this
    refine Ev.step (f := fun k => unicodetextref43_Small.l0 k ((0 : Nat) : Int) E G base b3 b4) (fun k => ?_) (by simpa using this)
    simp only [unicodetextref43_Small.j0, Bool.and_self, Bool.not_true, Bool.false_eq_true, if_false]
    rfl
  · rw [show (decide (E.length ≤ 12) && decide (G.length ≤ 8)) = false by rw [← Bool.decide_and]; exact decide_eq_false h]
    refine Ev.step (f := fun _ => some false) (fun k => ?_) (Ev.now _)
    simp only [unicodetextref43_Small.j0, Bool.not_false, if_true]
theorem small_fits {E : List S49} {G : List S36} (h : smallP E G = true) : eFits E ∧ G.length ≤ 8 := by
  simp only [smallP, Bool.and_eq_true, List.all_eq_true, decide_eq_true_eq] at h
  refine ⟨⟨by omega, fun e he => ?_⟩, h.1.2⟩
  have := h.2 e he
  omega
theorem few_ev (E : List S49) (G : List S36) (base b3 b4 : Int) (names : List ByteArray) : Ev (fun k => unicodetextlaw47_few.f k E G base b3 b4 names) (smallP E G && decide (names.length ≤ 12)) := by
  refine Ev.bind (small_ev E G base b3 b4) ?_
  by_cases h : smallP E G = true
  · simp only [h, if_true, Bool.true_and]
    rw [show decide (names.length ≤ 12) = decide ((names.length : Int) ≤ 12) by rw [Bool.eq_iff_iff, decide_eq_true_iff, decide_eq_true_iff]; omega]
    exact Ev.now _
  · simp only [Bool.eq_false_iff.2 h, Bool.false_eq_true, if_false, Bool.false_and]
    exact Ev.now _
end Go.Proofs.Ytfcpebjjcijgcaa.G
-- by hand: lemmas
namespace Go.Proofs.Ytfcpebjjcijgcaa.G
open Go.RowKit Go.Proofs.YtfcpebjjcijgcaaW.PrintWords Go.Proofs.YtfcpebjjcijgcaaW.PrintLast Go.Proofs.YtfcpebjjcijgcaaW.PrintMore
attribute [local go_sem] max2_int min2_int max_two min_two max_three min_three max_four min_four   -- for this text's walks alone
set_option linter.unusedVariables false
set_option linter.unusedSimpArgs false
/-! The plain answer of the document's Order -/
/-- Where a name stands, or -1. -/
def posI (l : List S36) (s : ByteArray) : Int := if memB s (nms l) = true then ((nms l).findIdx fun t => decide (t = s) : Nat) else -1
theorem rindex_loop (l : List S36) (s : ByteArray) (hl : l.length ≤ 1099511627776) : ∀ (d i : Nat), l.length - i = d → i ≤ l.length → Ev (fun k => unicodetextref47_index.l0 k l s (i : Int)) (if memB s (nms (l.drop i)) = true then (i + ((nms (l.drop i)).findIdx fun t => decide (t = s)) : Nat) else -1) := by
  intro d
  induction d with
  | zero =>
    intro i hd hi
    rw [List.drop_of_length_le (by omega), if_neg (by simp [nms, memB])]
    refine Ev.step (f := fun _ => some (-1)) (fun k => ?_) (Ev.now _)
    simp only [unicodetextref47_index.l0]
    rw [if_neg (by omega)]
  | succ d ih =>
    intro i hd hi
    have hi : i < l.length := by omega
    rw [List.drop_eq_getElem_cons hi]
    have e1 : nms (l[i] :: l.drop (i + 1)) = l[i].f0 :: nms (l.drop (i + 1)) := rfl
    rw [e1]
    by_cases he : l[i].f0 = s
    · rw [if_pos (by simp [memB, he]), List.findIdx_cons, decide_eq_true he]
      refine Ev.step (f := fun _ => some (i : Int)) (fun k => ?_) (by simpa using Ev.now _)
      simp only [unicodetextref47_index.l0]
      rw [rdT36 hi, if_pos (by omega), if_pos (by omega), if_pos (toL_iff.2 he)]
    · have := ih (i + 1) (by omega) (by omega)
      refine Ev.step (f := fun k => unicodetextref47_index.l0 k l s ((i + 1 : Nat) : Int)) (fun k => ?_) ?_
      · simp only [unicodetextref47_index.l0]
        rw [rdT36 hi, if_pos (by omega), if_pos (by omega), if_neg (fun e => he (toL_iff.1 e)), wrap_nat (by omega)]
      · rw [List.findIdx_cons, decide_eq_false he]
        rw [show memB s (l[i].f0 :: nms (l.drop (i + 1))) = memB s (nms (l.drop (i + 1))) by simp [memB, he]]
        refine cast (congrArg _ ?_) this
        simp only [cond_false]
        split
        · congr 1; omega
        · rfl
theorem rindex_ev (l : List S36) (s : ByteArray) (hl : l.length ≤ 1099511627776) : Ev (fun k => unicodetextref47_index.f k l s) (posI l s) := by
  have := rindex_loop l s hl _ 0 rfl (by omega)
  rw [List.drop_zero] at this
  simp only [Nat.zero_add] at this
  exact this
theorem rhas_loop (l : List ByteArray) (s : ByteArray) (hl : l.length ≤ 1099511627776) : ∀ (d i : Nat), l.length - i = d → Ev (fun k => unicodetextref47_has.l0 k l s (i : Int)) (memB s (l.drop i)) := by
  intro d
  induction d with
  | zero =>
    intro i hd
    rw [List.drop_of_length_le (by omega)]
    refine Ev.step (f := fun _ => some false) (fun k => ?_) (Ev.now _)
    simp only [unicodetextref47_has.l0]
    rw [if_neg (by omega)]
  | succ d ih =>
    intro i hd
    have hi : i < l.length := by omega
    rw [List.drop_eq_getElem_cons hi, memB, List.any_cons]
    by_cases he : l[i] = s
    · rw [decide_eq_true he, Bool.true_or]
      refine Ev.step (f := fun _ => some true) (fun k => ?_) (Ev.now _)
      simp only [unicodetextref47_has.l0]
      rw [rdN hi, if_pos (by omega), if_pos (by omega), if_pos (toL_iff.2 he)]
    · rw [decide_eq_false he, Bool.false_or]
      refine Ev.step (f := fun k => unicodetextref47_has.l0 k l s ((i + 1 : Nat) : Int)) (fun k => ?_) (ih (i + 1) (by omega))
      simp only [unicodetextref47_has.l0]
      rw [rdN hi, if_pos (by omega), if_pos (by omega), if_neg (fun e => he (toL_iff.1 e)), wrap_nat (by omega)]
theorem rhas_ev (l : List ByteArray) (s : ByteArray) (hl : l.length ≤ 1099511627776) : Ev (fun k => unicodetextref47_has.f k l s) (memB s l) := by
  have := rhas_loop l s hl _ 0 rfl
  rw [List.drop_zero] at this
  exact this
theorem posI_neg {l : List S36} {s : ByteArray} : posI l s < 0 ↔ memB s (nms l) = false := by
  unfold posI
  by_cases h : memB s (nms l) = true
  · rw [if_pos h, h]
    simp only [Bool.true_eq_false, iff_false]
    omega
  · rw [if_neg h]
    simp only [Bool.eq_false_iff.2 h, iff_true]
    omega
/-- The group of a name. -/
theorem posI_get {l : List S36} {s : ByteArray} (h : memB s (nms l) = true) : ∃ j : Nat, ∃ hj : j < l.length, posI l s = (j : Int) ∧ l[j].f0 = s ∧ ∀ i (hi : i < j), l[i].f0 ≠ s := by
  have hlt : ((nms l).findIdx fun t => decide (t = s)) < (nms l).length := List.findIdx_lt_length_of_exists ⟨s, memB_iff.1 h, decide_eq_true rfl⟩
  have hlen : (nms l).length = l.length := by simp [nms]
  refine ⟨(nms l).findIdx fun t => decide (t = s), by omega, by unfold posI; rw [if_pos h], ?_, fun i hi e => ?_⟩
  · have := List.findIdx_getElem (w := hlt)
    have := of_decide_eq_true this
    simpa [nms] using this
  · have := List.not_of_lt_findIdx hi
    have e2 : (nms l)[i]'(by omega) = s := by simpa [nms] using e
    rw [decide_eq_true e2] at this
    cases this
/-- The group of a name (the last part of what the document builds). -/
def gOf (l : List S36) (s : ByteArray) : S36 := rd_T36 l (posI l s)
/-- What the document builds ahead of numbering. -/
def refRow (l : List S36) (names : List ByteArray) : List S36 := names.map (gOf l) ++ l.filter fun g => !memB g.f0 names
section
variable (E : List S49) (G : List S36) (base b3 b4 : Int) (names : List ByteArray) (hG : fits G = true) (hn : names.length ≤ 1099511627776)
theorem rnum_ev : ∀ (d i : Nat) (R : List S36), R.length - i = d → R.length ≤ 2199023255552 → (R ≠ [] → G ≠ []) → ∀ p, p = (if i = 0 then (rd_T36 G 0).f1 else wrap64 ((rd_T36 R ((i : Int) - 1)).f2 + 1)) → Ev (fun k => unicodetextref47_Order.l4 k R (i : Int) E G base b3 b4) (R.take i ++ renum p (R.drop i), 0) := by
  intro d
  induction d with
  | zero =>
    intro i R hd hl hne p hp
    rw [List.drop_of_length_le (by omega), List.take_of_length_le (by omega)]
    refine Ev.step (f := fun _ => some (R, 0)) (fun k => ?_) (by simp only [renum, List.append_nil]; exact Ev.now _)
    simp only [unicodetextref47_Order.l4]
    rw [if_neg (by omega)]
  | succ d ih =>
    intro i R hd hl hne p hp
    have hi : i < R.length := by omega
    have hg : 0 < G.length := List.length_pos_iff.2 (hne (fun e => by rw [e] at hi; simp at hi))
    have hx : ∀ k, unicodetextref47_Order.l4 (k + 1) R (i : Int) E G base b3 b4 = unicodetextref47_Order.l4 k (R.set i ⟨R[i].f0, p, wrap64 (wrap64 (p + R[i].f2) - R[i].f1)⟩) ((i + 1 : Nat) : Int) E G base b3 b4 := fun k => by
      simp only [unicodetextref47_Order.l4]
      rw [if_pos (by omega), if_pos (by omega), rdT36 hi, Int.toNat_natCast, wrap_nat (by omega)]
      cases i with
      | zero =>
        rw [if_neg (by omega), if_pos (by omega)]
        simp only [if_true] at hp
        rw [hp]
      | succ j =>
        have hj : j < R.length := by omega
        rw [if_pos (by omega), wrap_pred (by omega), if_pos (by omega), if_pos (by omega), if_pos (by omega)]
        rw [if_neg (by omega), show ((j + 1 : Nat) : Int) - 1 = (j : Int) by omega] at hp
        rw [hp]
    refine Ev.step hx ?_
    have := ih (i + 1) (R.set i ⟨R[i].f0, p, wrap64 (wrap64 (p + R[i].f2) - R[i].f1)⟩) (by rw [List.length_set]; omega) (by rw [List.length_set]; omega) (fun _ => List.length_pos_iff.1 hg) (wrap64 (wrap64 (wrap64 (p + R[i].f2) - R[i].f1) + 1)) (by
      rw [if_neg (by omega), show ((i + 1 : Nat) : Int) - 1 = (i : Int) by omega, rdT36 (by rw [List.length_set]; exact hi), List.getElem_set_self])
    rw [List.drop_eq_getElem_cons hi, renum]
    refine cast (congrArg _ ?_) this
    refine congrArg (fun z => (z, (0 : Int))) ?_
    rw [List.take_set, List.drop_set, if_pos (by omega), List.take_add_one, List.getElem?_eq_getElem hi]
    simp only [Option.toList_some]
    rw [List.set_append_right _ _ (by rw [List.length_take]; omega), List.length_take, show i - min i R.length = 0 by omega]
    simp
end
section
variable (E : List S49) (G : List S36) (base b3 b4 : Int) (names : List ByteArray) (hn : names.length ≤ 1099511627776)
include hn
theorem rord_l1 (r : List S36 × Int) (hr : Ev (fun k => unicodetextref47_Order.l2 k names [] ((0 : Nat) : Int) E G base b3 b4) r ∨ names.Nodup = False) : ∀ (d i : Nat), names.length - i = d → (names.take i).Nodup → Ev (fun k => unicodetextref47_Order.l1 k names (i : Int) E G base b3 b4) (if names.Nodup then r else ([], 5)) := by
  intro d
  induction d with
  | zero =>
    intro i hd hnd
    rw [List.take_of_length_le (by omega)] at hnd
    rw [if_pos hnd]
    rcases hr with hr | hr
    · refine Ev.step (f := fun k => unicodetextref47_Order.l2 k names [] ((0 : Nat) : Int) E G base b3 b4) (fun k => ?_) hr
      simp only [unicodetextref47_Order.l1]
      rw [if_neg (by omega)]
      rfl
    · exact absurd hnd (by rw [hr]; exact id)
  | succ d ih =>
    intro i hd hnd
    have hi : i < names.length := by omega
    refine Ev.step (f := fun k => (unicodetextref47_has.f k (names.take i) names[i]).bind fun t107 => if t107 = true then some ([], 5) else unicodetextref47_Order.l1 k names ((i + 1 : Nat) : Int) E G base b3 b4) (fun k => ?_) (Ev.bind (rhas_ev (names.take i) names[i] (by rw [List.length_take]; omega)) ?_)
    · simp only [unicodetextref47_Order.l1]
      rw [rdN hi, if_pos (by omega), if_pos (by omega), if_pos (by omega), Int.toNat_natCast, wrap_nat (by omega)]
    · by_cases hm : memB names[i] (names.take i) = true
      · simp only [hm, if_true]
        rw [if_neg (fun hnn => by
          have h2 : (names.take (i + 1)).Nodup := (List.take_sublist _ _).nodup hnn
          rw [take_name hi, List.nodup_append] at h2
          exact h2.2.2 _ (memB_iff.1 hm) _ (List.mem_singleton.2 rfl) rfl)]
        exact Ev.now _
      · simp only [hm, Bool.false_eq_true, if_false]
        refine ih (i + 1) (by omega) ?_
        rw [take_name hi, List.nodup_append]
        refine ⟨hnd, by simp, fun a ha b hb => ?_⟩
        rw [List.mem_singleton.1 hb]
        rintro rfl
        exact hm (memB_iff.2 ha)
end
section
variable (E : List S49) (G : List S36) (base b3 b4 : Int) (names : List ByteArray) (hG : fits G = true) (hn : names.length ≤ 1099511627776)
include hG hn
theorem rord_l3 : ∀ (d i : Nat) (acc : List S36) (r : List S36 × Int), G.length - i = d → acc.length + (G.length - i) ≤ 2199023255552 → Ev (fun k => unicodetextref47_Order.l4 k (acc ++ (G.drop i).filter fun g => !memB g.f0 names) ((0 : Nat) : Int) E G base b3 b4) r → Ev (fun k => unicodetextref47_Order.l3 k names acc (i : Int) E G base b3 b4) r := by
  have hl := fits_len hG
  intro d
  induction d with
  | zero =>
    intro i acc r hd ha hr
    rw [List.drop_of_length_le (by omega), List.filter_nil, List.append_nil] at hr
    refine Ev.step (f := fun k => unicodetextref47_Order.l4 k acc ((0 : Nat) : Int) E G base b3 b4) (fun k => ?_) hr
    simp only [unicodetextref47_Order.l3]
    rw [if_neg (by omega)]
    rfl
  | succ d ih =>
    intro i acc r hd ha hr
    have hi : i < G.length := by omega
    rw [List.drop_eq_getElem_cons hi] at hr
    refine Ev.step (f := fun k => (unicodetextref47_has.f k names G[i].f0).bind fun t115 => if t115 = true then unicodetextref47_Order.l3 k names acc ((i + 1 : Nat) : Int) E G base b3 b4 else if acc.length < 4398046511104 then unicodetextref47_Order.l3 k names (acc ++ [G[i]]) ((i + 1 : Nat) : Int) E G base b3 b4 else none) (fun k => ?_) (Ev.bind (rhas_ev names G[i].f0 hn) ?_)
    · simp only [unicodetextref47_Order.l3]
      rw [rdT36 hi, if_pos (by omega), if_pos (by omega), wrap_nat (by omega)]
    · by_cases hm : memB G[i].f0 names = true
      · simp only [hm, if_true]
        rw [List.filter_cons_of_neg (by rw [hm]; simp)] at hr
        exact ih (i + 1) acc r (by omega) (by omega) hr
      · simp only [hm, Bool.false_eq_true, if_false, if_pos (show acc.length < 4398046511104 by omega)]
        rw [List.filter_cons_of_pos (by rw [Bool.eq_false_iff.2 hm]; rfl), List.append_cons] at hr
        exact ih (i + 1) (acc ++ [G[i]]) r (by omega) (by rw [List.length_append]; simp; omega) hr
theorem rord_l2 (hall : ∀ s, s ∈ names → memB s (nms G) = true) : ∀ (d i : Nat) (acc : List S36) (r : List S36 × Int), names.length - i = d → acc.length = i → Ev (fun k => unicodetextref47_Order.l3 k names (acc ++ (names.drop i).map (gOf G)) ((0 : Nat) : Int) E G base b3 b4) r → Ev (fun k => unicodetextref47_Order.l2 k names acc (i : Int) E G base b3 b4) r := by
  have hl := fits_len hG
  intro d
  induction d with
  | zero =>
    intro i acc r hd ha hr
    rw [List.drop_of_length_le (by omega), List.map_nil, List.append_nil] at hr
    refine Ev.step (f := fun k => unicodetextref47_Order.l3 k names acc ((0 : Nat) : Int) E G base b3 b4) (fun k => ?_) hr
    simp only [unicodetextref47_Order.l2]
    rw [if_neg (by omega)]
    rfl
  | succ d ih =>
    intro i acc r hd ha hr
    have hi : i < names.length := by omega
    rw [List.drop_eq_getElem_cons hi, List.map_cons] at hr
    obtain ⟨j, hj, he, _, _⟩ := posI_get (hall names[i] (List.getElem_mem hi))
    refine Ev.step (f := fun k => (unicodetextref47_index.f k G names[i]).bind fun t109 => if 0 ≤ t109 then (if t109 < (G.length : Int) then (if acc.length < 4398046511104 then unicodetextref47_Order.l2 k names (acc ++ [rd_T36 G t109]) ((i + 1 : Nat) : Int) E G base b3 b4 else none) else none) else none) (fun k => ?_) (Ev.bind (rindex_ev G names[i] hl) ?_)
    · simp only [unicodetextref47_Order.l2]
      rw [rdN hi, if_pos (by omega), if_pos (by omega), wrap_nat (by omega)]
    · simp only [if_pos (show 0 ≤ posI G names[i] by omega), if_pos (show posI G names[i] < (G.length : Int) by omega), if_pos (show acc.length < 4398046511104 by omega)]
      refine ih (i + 1) _ r (by omega) (by rw [List.length_append]; simp; omega) ?_
      rw [List.append_assoc]
      exact hr
theorem rord_l0 (r : List S36 × Int) (hr : (∀ s, s ∈ names → memB s (nms G) = true) → Ev (fun k => unicodetextref47_Order.l1 k names ((0 : Nat) : Int) E G base b3 b4) r) : ∀ (d i : Nat), names.length - i = d → (∀ s, s ∈ names.take i → memB s (nms G) = true) → Ev (fun k => unicodetextref47_Order.l0 k names (i : Int) E G base b3 b4) (if names.any (fun s => !memB s (nms G)) = true then ([], 6) else r) := by
  have hl := fits_len hG
  intro d
  induction d with
  | zero =>
    intro i hd hall
    rw [List.take_of_length_le (by omega)] at hall
    rw [if_neg (by
      intro h
      obtain ⟨s, hs, h⟩ := List.any_eq_true.1 h
      rw [hall s hs] at h
      cases h)]
    refine Ev.step (f := fun k => unicodetextref47_Order.l1 k names ((0 : Nat) : Int) E G base b3 b4) (fun k => ?_) (hr hall)
    simp only [unicodetextref47_Order.l0]
    rw [if_neg (by omega)]
    rfl
  | succ d ih =>
    intro i hd hall
    have hi : i < names.length := by omega
    refine Ev.step (f := fun k => (unicodetextref47_index.f k G names[i]).bind fun t104 => if t104 < 0 then some ([], 6) else unicodetextref47_Order.l0 k names ((i + 1 : Nat) : Int) E G base b3 b4) (fun k => ?_) (Ev.bind (rindex_ev G names[i] hl) ?_)
    · simp only [unicodetextref47_Order.l0]
      rw [rdN hi, if_pos (by omega), if_pos (by omega), wrap_nat (by omega)]
    · by_cases hm : memB names[i] (nms G) = true
      · simp only [if_neg (show ¬ posI G names[i] < 0 from fun h => by rw [posI_neg.1 h] at hm; cases hm)]
        refine ih (i + 1) (by omega) fun s hs => ?_
        rw [take_name hi] at hs
        rcases List.mem_append.1 hs with hs | hs
        · exact hall s hs
        · rw [List.mem_singleton.1 hs]
          exact hm
      · simp only [if_pos (posI_neg.2 (Bool.eq_false_iff.2 hm))]
        rw [if_pos (List.any_eq_true.2 ⟨names[i], List.getElem_mem hi, by rw [Bool.eq_false_iff.2 hm]; rfl⟩)]
        exact Ev.now _
end
/-- The document's order, when nothing is wrong. -/
def rordP (l : List S36) (names : List ByteArray) : List S36 × Int :=
  if names.any (fun s => !memB s (nms l)) = true then ([], 6) else if names.Nodup then (renum (rd_T36 l 0).f1 (refRow l names), 0) else ([], 5)
theorem rorder_ev (E : List S49) (G : List S36) (base b3 b4 : Int) (names : List ByteArray) (hE : eFits E) (hG : fits G = true) (hn : names.length ≤ 1099511627776) : Ev (fun k => unicodetextref47_Order.f k E G base b3 b4 names) (if chk E G base b3 b4 = 0 then rordP G names else ([], chk E G base b3 b4)) := by
  refine Ev.bind (rchk_ev E G base b3 b4 hE hG) ?_
  by_cases hc : chk E G base b3 b4 = 0
  · simp only [hc, if_true]
    have hl := fits_len hG
    refine rord_l0 E G base b3 b4 names hG hn _ (fun hall => ?_) _ 0 rfl (by simp)
    refine rord_l1 E G base b3 b4 names hn _ ?_ _ 0 rfl (by simp)
    by_cases hnd : names.Nodup
    · refine .inl (rord_l2 E G base b3 b4 names hG hn hall _ 0 [] _ rfl rfl (rord_l3 E G base b3 b4 names hG hn _ 0 _ _ rfl (by simp; omega) ?_))
      rw [List.drop_zero, List.drop_zero, List.nil_append]
      have := rnum_ev E G base b3 b4 _ 0 (refRow G names) rfl (by
        unfold refRow
        rw [List.length_append, List.length_map]
        have := List.length_filter_le (fun g => !memB g.f0 names) G
        omega) (fun h e => h (by
          subst e
          have : names = [] := by
            rcases names with _ | ⟨s, _⟩
            · rfl
            · have := hall s List.mem_cons_self
              simp [nms, memB] at this
          rw [this]
          rfl)) _ rfl
      rw [if_pos rfl, List.take_zero, List.drop_zero, List.nil_append] at this
      exact this
    · exact .inr (eq_false hnd)
  · simp only [hc, if_false]
    exact Ev.now _
end Go.Proofs.Ytfcpebjjcijgcaa.G
-- by hand: lemmas
namespace Go.Proofs.Ytfcpebjjcijgcaa.G
open Go.RowKit Go.Proofs.YtfcpebjjcijgcaaW.PrintWords Go.Proofs.YtfcpebjjcijgcaaW.PrintLast Go.Proofs.YtfcpebjjcijgcaaW.PrintMore
attribute [local go_sem] max2_int min2_int max_two min_two max_three min_three max_four min_four   -- for this text's walks alone
set_option linter.unusedVariables false
set_option linter.unusedSimpArgs false
/-! The two orders are one -/
theorem filter_range {α : Type} (l : List α) (f : α → Nat) (n : Nat) : (List.range (n + 1)).flatMap (fun v => l.filter fun x => f x == v) = (List.range n).flatMap (fun v => l.filter fun x => f x == v) ++ l.filter (fun x => f x == n) := by
  rw [List.range_succ, List.flatMap_append]
  simp
theorem filter_one {l : List S36} (hd : (nms l).Nodup) {s : ByteArray} (hs : memB s (nms l) = true) : (l.filter fun g => decide (g.f0 = s)) = [gOf l s] := by
  obtain ⟨j, hj, he, hf, hlt⟩ := posI_get hs
  have hg : gOf l s = l[j] := by
    unfold gOf
    rw [he, rdT36 hj]
  rw [hg]
  have key : ∀ (m : List S36), (nms m).Nodup → ∀ g, g ∈ m → g.f0 = s → (m.filter fun g => decide (g.f0 = s)) = [g] := by
    intro m
    induction m with
    | nil => intro _ g hg; cases hg
    | cons a m ih =>
      intro hd g hg hf
      have hd' : ¬ a.f0 ∈ nms m ∧ (nms m).Nodup := List.nodup_cons.1 hd
      rcases List.mem_cons.1 hg with rfl | hg
      · rw [List.filter_cons_of_pos (by simp [hf])]
        congr 1
        rw [List.filter_eq_nil_iff]
        intro b hb h
        have hb2 : b.f0 = s := by simpa using h
        exact hd'.1 (by rw [hf, ← hb2]; exact List.mem_map.2 ⟨b, hb, rfl⟩)
      · rw [List.filter_cons_of_neg (by
          intro h
          have h : a.f0 = s := by simpa using h
          exact hd'.1 (by rw [h, ← hf]; exact List.mem_map.2 ⟨g, hg, rfl⟩))]
        exact ih hd'.2 g hg hf
  exact key l hd _ (List.getElem_mem hj) hf
theorem sortG_row {l : List S36} {names : List ByteArray} (hd : (nms l).Nodup) (hn : names.Nodup) (hall : ∀ s, s ∈ names → memB s (nms l) = true) : sortG names l = refRow l names := by
  unfold sortG bucket refRow
  rw [filter_range]
  congr 1
  · have h : ∀ i, i ≤ names.length → (List.range i).flatMap (fun v => l.filter fun x => idxN names x.f0 == v) = (names.take i).map (gOf l) := by
      intro i
      induction i with
      | zero => intro _; simp
      | succ i ih =>
        intro hi
        rw [filter_range, ih (by omega), take_name (show i < names.length by omega), List.map_append]
        congr 1
        rw [List.map_cons, List.map_nil, ← filter_one hd (hall names[i] (List.getElem_mem (by omega)))]
        refine List.filter_congr fun x _ => ?_
        rw [Bool.eq_iff_iff, beq_iff_eq, decide_eq_true_iff]
        constructor
        · intro he
          have hlt : idxN names x.f0 < names.length := by omega
          have h2 : names[idxN names x.f0]'hlt = x.f0 := of_decide_eq_true (List.findIdx_getElem (w := hlt))
          subst he
          exact h2.symm
        · intro he
          unfold idxN
          rw [List.findIdx_eq (show i < names.length by omega)]
          refine ⟨decide_eq_true he.symm, fun j hj => decide_eq_false fun e => ?_⟩
          have := (List.getElem_inj (h₀ := show j < names.length by omega) (h₁ := show i < names.length by omega) hn).1 (e.trans he)
          omega
    rw [h _ (Nat.le_refl _), List.take_length]
  · refine List.filter_congr fun x _ => ?_
    rw [Bool.eq_iff_iff, beq_iff_eq]
    constructor
    · intro he
      cases hm : memB x.f0 names with
      | false => rfl
      | true =>
        have := idxN_lt hm
        omega
    · intro he
      rw [Bool.not_eq_true'] at he
      exact idxN_not he
theorem grErr_zero {l : List S36} {base : Int} (h : grErr l base = 0) : (∀ g, g ∈ l → nameP g.f0 = true) ∧ (nms l).Nodup ∧ (∀ g, g ∈ l → 1 ≤ g.f1 ∧ g.f1 ≤ g.f2 ∧ g.f2 < base) ∧ inRow l = true := by
  unfold grErr at h
  split at h
  · cases h
  · rename_i h1
    split at h
    · cases h
    · rename_i h2
      split at h
      · cases h
      · rename_i h3
        split at h
        · rename_i h4
          refine ⟨fun g hg => ?_, ?_, fun g hg => ?_, h4⟩
          · cases hn : nameP g.f0 with
            | true => rfl
            | false => exact absurd (List.any_eq_true.2 ⟨g, hg, by rw [hn]; rfl⟩) h1
          · unfold dupG at h2
            simpa using h2
          · have hb : ¬ badR base g = true := fun e => h3 (List.any_eq_true.2 ⟨g, hg, e⟩)
            simp only [badR, Bool.or_eq_true, decide_eq_true_eq] at hb
            omega
        · cases h
theorem chk_zero {E : List S49} {G : List S36} {base b3 b4 : Int} (h : chk E G base b3 b4 = 0) : 1 ≤ base ∧ base ≤ 65502 ∧ grErr G base = 0 := by
  unfold chk at h
  split at h
  · cases h
  · split at h
    · rename_i h1 h2
      exact ⟨by omega, by omega, h2⟩
    · contradiction
/-- The answer to Order. -/
def ordA (E : List S49) (G : List S36) (base b3 b4 : Int) (names : List ByteArray) : List S36 × Int := if chk E G base b3 b4 = 0 then rordP G names else ([], chk E G base b3 b4)
section
variable (E : List S49) (G : List S36) (base b3 b4 : Int) (names : List ByteArray) (hE : eFits E) (hG : fits G = true) (h8 : G.length ≤ 8) (hN : namesFit names = true)
include hE hG h8 hN
theorem order_ev : Ev (fun k => groups_Order.f k E G base b3 b4 names) (ordA E G base b3 b4 names) := by
  refine Ev.bind (cchk_ev E G base b3 b4 hE hG) ?_
  unfold ordA
  by_cases hc : chk E G base b3 b4 = 0
  · simp only [hc, if_true]
    rw [if_pos ⟨hG, by omega, hN⟩]
    have hz := grErr_zero (chk_zero hc).2.2
    have : ordP G names = rordP G names := by
      unfold ordP rordP
      split
      · rfl
      · rename_i hall
        by_cases hnd : names.Nodup
        · rw [if_pos hnd, if_neg (by simp [hnd]), sortG_row hz.2.1 hnd (fun s hs => ?_)]
          cases hm : memB s (nms G) with
          | true => rfl
          | false => exact absurd (List.any_eq_true.2 ⟨s, hs, by rw [hm]; rfl⟩) hall
        · rw [if_neg hnd, if_pos (by simp [hnd])]
    rw [this]
    exact Ev.now _
  · simp only [hc, if_false]
    exact Ev.now _
end
theorem rorder_ev' (E : List S49) (G : List S36) (base b3 b4 : Int) (names : List ByteArray) (hE : eFits E) (hG : fits G = true) (_ : G.length ≤ 8) (hN : namesFit names = true) : Ev (fun k => unicodetextref47_Order.f k E G base b3 b4 names) (ordA E G base b3 b4 names) := rorder_ev E G base b3 b4 names hE hG (namesFit_len hN)
theorem same_loop (l : List S36) (hl : l.length ≤ 2199023255552) : ∀ (d i : Nat), l.length - i = d → Ev (fun k => unicodetextref47_SameGroups.l0 k l l (i : Int)) true := by
  intro d
  induction d with
  | zero =>
    intro i hd
    refine Ev.step (f := fun _ => some true) (fun k => ?_) (Ev.now _)
    simp only [unicodetextref47_SameGroups.l0]
    rw [if_neg (by omega)]
  | succ d ih =>
    intro i hd
    refine Ev.step (f := fun k => unicodetextref47_SameGroups.l0 k l l ((i + 1 : Nat) : Int)) (fun k => ?_) (ih (i + 1) (by omega))
    simp only [unicodetextref47_SameGroups.l0]
    rw [if_pos (by omega), if_pos (by omega), if_pos (by omega), if_neg (by simp), wrap_nat (by omega)]
theorem same_ev (l : List S36) (hl : l.length ≤ 2199023255552) : Ev (fun k => unicodetextref47_SameGroups.f k l l) true := by
  refine Ev.congr (f := fun k => unicodetextref47_SameGroups.l0 k l l ((0 : Nat) : Int)) (fun k => ?_) (same_loop l hl _ 0 rfl)
  unfold unicodetextref47_SameGroups.f
  rw [if_pos rfl]
  rfl
theorem renum_length : ∀ (p : Int) (l : List S36), (renum p l).length = l.length
  | _, [] => rfl
  | _, _ :: l => by
    show (renum _ l).length + 1 = l.length + 1
    rw [renum_length _ l]
theorem ordA_len (E : List S49) (G : List S36) (base b3 b4 : Int) (names : List ByteArray) (hG : G.length ≤ 8) (hN : names.length ≤ 1099511627776) : (ordA E G base b3 b4 names).1.length ≤ 2199023255552 := by
  unfold ordA rordP
  split
  · split
    · simp
    · split
      · rw [renum_length]
        unfold refRow
        rw [List.length_append, List.length_map]
        have := List.length_filter_le (fun g => !memB g.f0 names) G
        omega
      · simp
  · simp
theorem alive_row : rordP aliveG aliveN = (aliveR, 0) := by kernel_rfl
theorem alive_order : ordA [] aliveG 100 1 1 aliveN = (aliveR, 0) := by
  unfold ordA
  have hc : chk [] aliveG 100 1 1 = 0 := by decide +kernel
  rw [if_pos hc]
  exact alive_row
theorem move_ev (E : List S49) (G : List S36) (base b3 b4 : Int) (names : List ByteArray) (x : Int) (hE : eFits E) (hG : fits G = true) (h8 : G.length ≤ 8) (hN : namesFit names = true) (hfit : fits (ordA E G base b3 b4 names).1 = true) : Ev (fun k => groups_Move.f k E G base b3 b4 names x) (if (ordA E G base b3 b4 names).2 = 0 then moveP G (ordA E G base b3 b4 names).1 x else x) := by
  refine Ev.bind (order_ev E G base b3 b4 names hE hG h8 hN) ?_
  by_cases h : (ordA E G base b3 b4 names).2 = 0
  · simp only [h, if_true]
    rw [if_pos ⟨hG, hfit⟩]
    exact Ev.now _
  · simp only [h, if_false]
    exact Ev.now _
theorem alive_ev : Ev (fun k => unicodetextlaw47_alive.f k) true := by
  have hE : eFits ([] : List S49) := ⟨by simp, fun e he => by cases he⟩
  have hG : fits aliveG = true := by decide +kernel
  have hN : namesFit aliveN = true := by decide +kernel
  have hO := order_ev [] aliveG 100 1 1 aliveN hE hG (by decide) hN
  have hM := fun x => move_ev [] aliveG 100 1 1 aliveN x hE hG (by decide) hN (by rw [alive_order]; decide +kernel)
  rw [alive_order] at hO
  simp only [alive_order, if_true] at hM
  have m0 : moveP aliveG aliveR 12 = 3 := by decide +kernel
  have m1 : moveP aliveG aliveR 9 = 29 := by decide +kernel
  have m2 : moveP aliveG aliveR 30 = 30 := by decide +kernel
  have h0 := hM 12
  have h1 := hM 9
  have h2 := hM 30
  rw [m0] at h0
  rw [m1] at h1
  rw [m2] at h2
  refine Ev.bind hO ?_
  simp only [if_true]
  refine Ev.bind (same_ev aliveR (by decide)) ?_
  simp only [if_true]
  refine Ev.bind h0 ?_
  simp only [if_true]
  refine Ev.bind h1 ?_
  simp only [if_true]
  refine Ev.bind h2 ?_
  simp only [if_true]
  exact Ev.now _
end Go.Proofs.Ytfcpebjjcijgcaa.G
-- by hand: lemmas
namespace Go.Proofs.Ytfcpebjjcijgcaa.G
open Go.RowKit Go.Proofs.YtfcpebjjcijgcaaW.PrintWords Go.Proofs.YtfcpebjjcijgcaaW.PrintLast Go.Proofs.YtfcpebjjcijgcaaW.PrintMore
attribute [local go_sem] max2_int min2_int max_two min_two max_three min_three max_four min_four   -- for this text's walks alone
set_option linter.unusedVariables false
set_option linter.unusedSimpArgs false
/-! What the new order is -/
theorem nms_renum : ∀ (p : Int) (l : List S36), nms (renum p l) = nms l
  | _, [] => rfl
  | _, g :: l => by
    show g.f0 :: nms (renum _ l) = g.f0 :: nms l
    rw [nms_renum _ l]
theorem gOf_mem {G : List S36} {s : ByteArray} (h : memB s (nms G) = true) : gOf G s ∈ G ∧ (gOf G s).f0 = s := by
  obtain ⟨j, hj, he, hf, _⟩ := posI_get h
  unfold gOf
  rw [he, rdT36 hj]
  exact ⟨List.getElem_mem hj, hf⟩
theorem nms_refRow {G : List S36} {names : List ByteArray} (hall : ∀ s, s ∈ names → memB s (nms G) = true) : nms (refRow G names) = names ++ (nms G).filter fun s => !memB s names := by
  unfold refRow nms
  rw [List.map_append, List.map_map, List.filter_map]
  congr 1
  conv => rhs; rw [← List.map_id names]
  exact List.map_congr_left fun s hs => (gOf_mem (hall s hs)).2
theorem refRow_nodup {G : List S36} {names : List ByteArray} (hall : ∀ s, s ∈ names → memB s (nms G) = true) (hn : names.Nodup) (hG : (nms G).Nodup) : (nms (refRow G names)).Nodup := by
  rw [nms_refRow hall, List.nodup_append]
  refine ⟨hn, (List.filter_sublist).nodup hG, fun a ha b hb e => ?_⟩
  subst e
  have := (List.mem_filter.1 hb).2
  rw [memB_iff.2 ha] at this
  cases this
theorem refRow_has {G : List S36} {names : List ByteArray} (hall : ∀ s, s ∈ names → memB s (nms G) = true) (s : ByteArray) : memB s (nms (refRow G names)) = memB s (nms G) := by
  rw [Bool.eq_iff_iff, memB_iff, memB_iff, nms_refRow hall, List.mem_append, List.mem_filter]
  constructor
  · rintro (h | h)
    · exact memB_iff.1 (hall s h)
    · exact h.1
  · intro h
    by_cases hm : memB s names = true
    · exact .inl (memB_iff.1 hm)
    · exact .inr ⟨h, by rw [Bool.eq_false_iff.2 hm]; rfl⟩
/-- Order has answered with no error. -/
structure Ordered (E : List S49) (G : List S36) (base b3 b4 : Int) (names : List ByteArray) (R : List S36) : Prop where
  c : chk E G base b3 b4 = 0
  all : ∀ s, s ∈ names → memB s (nms G) = true
  nd : names.Nodup
  r : R = renum (rd_T36 G 0).f1 (refRow G names)
theorem ordA_zero {E : List S49} {G : List S36} {base b3 b4 : Int} {names : List ByteArray} (h : (ordA E G base b3 b4 names).2 = 0) : Ordered E G base b3 b4 names (ordA E G base b3 b4 names).1 := by
  unfold ordA at h ⊢
  by_cases hc : chk E G base b3 b4 = 0
  · rw [if_pos hc] at h ⊢
    unfold rordP at h ⊢
    by_cases h1 : names.any (fun s => !memB s (nms G)) = true
    · rw [if_pos h1] at h
      cases h
    · rw [if_neg h1] at h ⊢
      by_cases h2 : names.Nodup
      · rw [if_pos h2]
        refine ⟨hc, fun s hs => ?_, h2, rfl⟩
        cases hm : memB s (nms G) with
        | true => rfl
        | false => exact absurd (List.any_eq_true.2 ⟨s, hs, by rw [hm]; rfl⟩) h1
      · rw [if_neg h2] at h
        cases h
  · rw [if_neg hc] at h
    exact absurd h hc
theorem ordA_bad {E : List S49} {G : List S36} {base b3 b4 : Int} {names : List ByteArray} (h : (ordA E G base b3 b4 names).2 ≠ 0) : (ordA E G base b3 b4 names).1 = [] := by
  unfold ordA at h ⊢
  by_cases hc : chk E G base b3 b4 = 0
  · rw [if_pos hc] at h ⊢
    unfold rordP at h ⊢
    by_cases h1 : names.any (fun s => !memB s (nms G)) = true
    · rw [if_pos h1]
    · rw [if_neg h1] at h ⊢
      by_cases h2 : names.Nodup
      · rw [if_pos h2] at h
        exact absurd rfl h
      · rw [if_neg h2]
  · rw [if_neg hc]
theorem Ordered.gr {E : List S49} {G : List S36} {base b3 b4 : Int} {names : List ByteArray} {R : List S36} (h : Ordered E G base b3 b4 names R) : (∀ g, g ∈ G → nameP g.f0 = true) ∧ (nms G).Nodup ∧ (∀ g, g ∈ G → 1 ≤ g.f1 ∧ g.f1 ≤ g.f2 ∧ g.f2 < base) ∧ inRow G = true := grErr_zero (chk_zero h.c).2.2
theorem Ordered.nms_eq {E : List S49} {G : List S36} {base b3 b4 : Int} {names : List ByteArray} {R : List S36} (h : Ordered E G base b3 b4 names R) : nms R = nms (refRow G names) := by rw [h.r, nms_renum]
theorem Ordered.nodup {E : List S49} {G : List S36} {base b3 b4 : Int} {names : List ByteArray} {R : List S36} (h : Ordered E G base b3 b4 names R) : (nms R).Nodup := by rw [h.nms_eq]; exact refRow_nodup h.all h.nd h.gr.2.1
theorem Ordered.has {E : List S49} {G : List S36} {base b3 b4 : Int} {names : List ByteArray} {R : List S36} (h : Ordered E G base b3 b4 names R) (s : ByteArray) : memB s (nms R) = memB s (nms G) := by rw [h.nms_eq]; exact refRow_has h.all s
theorem Ordered.row_len {E : List S49} {G : List S36} {base b3 b4 : Int} {names : List ByteArray} {R : List S36} (h : Ordered E G base b3 b4 names R) : (refRow G names).length = G.length := by rw [← sortG_row h.gr.2.1 h.nd h.all, sortG_length]
theorem Ordered.len {E : List S49} {G : List S36} {base b3 b4 : Int} {names : List ByteArray} {R : List S36} (h : Ordered E G base b3 b4 names R) : R.length = G.length := by rw [h.r, renum_length, h.row_len]
theorem fits_iff {l : List S36} : fits l = true ↔ l.length ≤ 1099511627776 ∧ ∀ s, s ∈ nms l → s.size ≤ 9223372036854775807 := by
  simp only [fits, Bool.and_eq_true, List.all_eq_true, decide_eq_true_eq, nms, List.mem_map]
  constructor
  · rintro ⟨h1, h2⟩
    exact ⟨h1, fun s ⟨g, hg, e⟩ => e ▸ h2 g hg⟩
  · rintro ⟨h1, h2⟩
    exact ⟨h1, fun g hg => h2 _ ⟨g, hg, rfl⟩⟩
theorem ordA_fits (E : List S49) (G : List S36) (base b3 b4 : Int) (names : List ByteArray) (hG : fits G = true) : fits (ordA E G base b3 b4 names).1 = true := by
  by_cases h : (ordA E G base b3 b4 names).2 = 0
  · have ho := ordA_zero h
    rw [fits_iff] at hG ⊢
    refine ⟨by rw [ho.len]; exact hG.1, fun s hs => hG.2 s ?_⟩
    rw [← memB_iff, ← ho.has, memB_iff]
    exact hs
  · rw [ordA_bad h]
    rfl
theorem loL_last : ∀ (l : List S36) (s : ByteArray), memB s (nms l) = false → ∀ a : Int, l.foldl (fun acc g => if g.f0 = s then g.f1 else acc) a = a
  | [], _, _, _ => rfl
  | g :: l, s, h, a => by
    have h : (decide (g.f0 = s) || memB s (nms l)) = false := h
    rw [Bool.or_eq_false_iff, decide_eq_false_iff_not] at h
    rw [List.foldl_cons, if_neg h.1]
    exact loL_last l s h.2 a
theorem loL_fold : ∀ (l : List S36) (_ : (nms l).Nodup) (j : Nat) (hj : j < l.length) (a : Int), l.foldl (fun acc g => if g.f0 = l[j].f0 then g.f1 else acc) a = l[j].f1
  | [], _, _, hj, _ => by simp at hj
  | g :: l, hd, j, hj, a => by
    have hd : ¬ g.f0 ∈ nms l ∧ (nms l).Nodup := List.nodup_cons.1 hd
    cases j with
    | zero =>
      rw [List.foldl_cons]
      simp only [List.getElem_cons_zero, if_true]
      exact loL_last l g.f0 (memB_false.2 hd.1) _
    | succ j =>
      rw [List.foldl_cons]
      simp only [List.getElem_cons_succ]
      exact loL_fold l hd.2 j (by simpa using hj) _
theorem loL_get {l : List S36} (hd : (nms l).Nodup) {j : Nat} (hj : j < l.length) : loL l l[j].f0 = l[j].f1 := loL_fold l hd j hj 0
/-- The group of a name begins where loL says. -/
theorem loL_pos {l : List S36} (hd : (nms l).Nodup) {s : ByteArray} (hs : memB s (nms l) = true) : loL l s = (rd_T36 l (posI l s)).f1 := by
  obtain ⟨j, hj, he, hf, _⟩ := posI_get hs
  rw [he, rdT36 hj, ← hf, loL_get hd hj]
section
variable (E : List S49) (G : List S36) (base b3 b4 : Int) (names : List ByteArray) (hE : eFits E) (hG : fits G = true) (h8 : G.length ≤ 8) (hN : namesFit names = true)
include hE hG h8 hN
/-- The answer to Move. -/
def movA (E : List S49) (G : List S36) (base b3 b4 : Int) (names : List ByteArray) (x : Int) : Int := if (ordA E G base b3 b4 names).2 = 0 then moveP G (ordA E G base b3 b4 names).1 x else x
theorem rmove_ev (x : Int) : Ev (fun k => unicodetextref47_Move.f k E G base b3 b4 names x) (movA E G base b3 b4 names x) := by
  refine Ev.bind (rorder_ev' E G base b3 b4 names hE hG h8 hN) ?_
  unfold movA
  by_cases h : (ordA E G base b3 b4 names).2 = 0
  · have ho := ordA_zero h
    generalize (ordA E G base b3 b4 names).1 = R at ho
    simp only [h, if_true, if_pos hG]
    unfold moveP
    show Ev (fun k => match G.find? (inG x) with | some g => (unicodetextref47_index.f k R g.f0).bind fun j => if 0 ≤ j ∧ j < (R.length : Int) then some (wrap64 (wrap64 ((rd_T36 R j).f1 + x) - g.f1)) else none | none => some x) (match G.find? (inG x) with | some g => wrap64 (wrap64 (x - g.f1) + if memB g.f0 (nms R) = true then loL R g.f0 else 0) | none => x)
    cases hf : G.find? (inG x) with
    | none => exact Ev.now _
    | some g =>
      have hg : g ∈ G := List.mem_of_find?_eq_some hf
      have hm : memB g.f0 (nms R) = true := by
        rw [ho.has]
        exact memB_iff.2 (List.mem_map.2 ⟨g, hg, rfl⟩)
      obtain ⟨j, hj, he, hf2, _⟩ := posI_get hm
      refine Ev.bind (rindex_ev R g.f0 (by rw [ho.len]; omega)) ?_
      simp only [hm, if_true]
      rw [if_pos ⟨by omega, by omega⟩, loL_pos ho.nodup hm]
      rw [show wrap64 (wrap64 (x - g.f1) + (rd_T36 R (posI R g.f0)).f1) = wrap64 (wrap64 ((rd_T36 R (posI R g.f0)).f1 + x) - g.f1) by unfold wrap64; omega]
      exact Ev.now _
  · simp only [h, if_false]
    exact Ev.now _
end
/-- What a small collation and few names bring along. -/
theorem few_fits {E : List S49} {G : List S36} {names : List ByteArray} (hsG : ∀ g, g ∈ G → g.f0.size ≤ 9223372036854775807) (hsN : ∀ s, s ∈ names → s.size ≤ 9223372036854775807) (hf : (smallP E G && decide (names.length ≤ 12)) = true) : eFits E ∧ fits G = true ∧ G.length ≤ 8 ∧ namesFit names = true ∧ names.length ≤ 12 := by
  simp only [Bool.and_eq_true, decide_eq_true_eq] at hf
  obtain ⟨hE, h8⟩ := small_fits hf.1
  refine ⟨hE, ?_, h8, ?_, hf.2⟩
  · simp only [fits, Bool.and_eq_true, List.all_eq_true, decide_eq_true_eq]
    exact ⟨by omega, hsG⟩
  · simp only [namesFit, Bool.and_eq_true, List.all_eq_true, decide_eq_true_eq]
    exact ⟨by omega, hsN⟩
end Go.Proofs.Ytfcpebjjcijgcaa.G
-- by hand: lemmas
namespace Go.Proofs.Ytfcpebjjcijgcaa.G
open Go.RowKit Go.Proofs.YtfcpebjjcijgcaaW.PrintWords Go.Proofs.YtfcpebjjcijgcaaW.PrintLast Go.Proofs.YtfcpebjjcijgcaaW.PrintMore
attribute [local go_sem] max2_int min2_int max_two min_two max_three min_three max_four min_four   -- for this text's walks alone
set_option linter.unusedVariables false
set_option linter.unusedSimpArgs false
/-! What groups.Apply answers. -/
section
variable (E : List S49) (G : List S36) (base b3 b4 : Int) (names : List ByteArray)
/-- The answer to Apply. -/
def aplA : List S49 × List S36 × Int × Int × Int × Int := if (ordA E G base b3 b4 names).2 = 0 then (E.map (moveE G (ordA E G base b3 b4 names).1), (ordA E G base b3 b4 names).1, base, b3, b4, 0) else ([], [], 0, 0, 0, (ordA E G base b3 b4 names).2)
theorem gapply_ev (hE : eFits E) (hG : fits G = true) (h8 : G.length ≤ 8) (hN : namesFit names = true) (hS : eSmall E = true) : Ev (fun k => groups_Apply.f k E G base b3 b4 names) (aplA E G base b3 b4 names) := by
  refine Ev.bind (order_ev E G base b3 b4 names hE hG h8 hN) ?_
  unfold aplA
  by_cases h : (ordA E G base b3 b4 names).2 = 0
  · simp only [h, if_true]
    rw [if_pos ⟨hG, ordA_fits E G base b3 b4 names hG, hS⟩]
    exact Ev.now _
  · simp only [h, if_false]
    exact Ev.now _
end
theorem small_eSmall {E : List S49} {G : List S36} (h : smallP E G = true) : eSmall E = true := by
  simp only [smallP, Bool.and_eq_true, decide_eq_true_eq, List.all_eq_true] at h
  simp only [eSmall, Bool.and_eq_true, decide_eq_true_eq, List.all_eq_true]
  refine ⟨by omega, fun e he => ?_⟩
  have := h.2 e he
  omega
end Go.Proofs.Ytfcpebjjcijgcaa.G
-- by hand: lemmas
namespace Go.Proofs.Ytfcpebjjcijgcaa.G
open Go.RowKit Go.Proofs.YtfcpebjjcijgcaaW.PrintWords Go.Proofs.YtfcpebjjcijgcaaW.PrintLast Go.Proofs.YtfcpebjjcijgcaaW.PrintMore
attribute [local go_sem] max2_int min2_int max_two min_two max_three min_three max_four min_four   -- for this text's walks alone
set_option linter.unusedVariables false
set_option linter.unusedSimpArgs false
/-! The reference's Same is reflexive. -/
theorem ints_loop (l : List Int) (hl : l.length ≤ 1000000) : ∀ (d i : Nat), l.length - i = d → Ev (fun k => unicodetextref47_sameInts.l0 k l l (i : Int)) true := by
  intro d
  induction d with
  | zero =>
    intro i hd
    refine Ev.step (f := fun _ => some true) (fun k => ?_) (Ev.now _)
    simp only [unicodetextref47_sameInts.l0]
    rw [if_neg (by omega)]
  | succ d ih =>
    intro i hd
    refine Ev.step (f := fun k => unicodetextref47_sameInts.l0 k l l ((i + 1 : Nat) : Int)) (fun k => ?_) (ih (i + 1) (by omega))
    simp only [unicodetextref47_sameInts.l0]
    rw [if_pos (by omega), if_pos (by omega), if_pos (by omega), if_pos trivial, wrap_nat (by omega)]
theorem ints_ev (l : List Int) (hl : l.length ≤ 1000000) : Ev (fun k => unicodetextref47_sameInts.f k l l) true := by
  refine Ev.congr (f := fun k => unicodetextref47_sameInts.l0 k l l ((0 : Nat) : Int)) (fun k => ?_) (ints_loop l hl _ 0 rfl)
  unfold unicodetextref47_sameInts.f
  rw [if_pos rfl]
  rfl
theorem els_loop (l : List S51) (hl : l.length ≤ 1000000) : ∀ (d i : Nat), l.length - i = d → Ev (fun k => unicodetextref43_Same.l0 k l l (i : Int)) true := by
  intro d
  induction d with
  | zero =>
    intro i hd
    refine Ev.step (f := fun _ => some true) (fun k => ?_) (Ev.now _)
    simp only [unicodetextref43_Same.l0]
    rw [if_neg (by omega)]
  | succ d ih =>
    intro i hd
    refine Ev.step (f := fun k => unicodetextref43_Same.l0 k l l ((i + 1 : Nat) : Int)) (fun k => ?_) (ih (i + 1) (by omega))
    simp only [unicodetextref43_Same.l0]
    rw [if_pos (by omega), if_pos (by omega), if_pos (by omega), if_neg (by simp), wrap_nat (by omega)]
theorem els_ev (l : List S51) (hl : l.length ≤ 1000000) : Ev (fun k => unicodetextref43_Same.f k l l) true := by
  refine Ev.congr (f := fun k => unicodetextref43_Same.l0 k l l ((0 : Nat) : Int)) (fun k => ?_) (els_loop l hl _ 0 rfl)
  unfold unicodetextref43_Same.f
  rw [if_pos rfl]
  rfl
theorem ent_loop (E : List S49) (G : List S36) (a b c : Int) (hS : E.length ≤ 1000000 ∧ ∀ e, e ∈ E → e.f0.length ≤ 1000000 ∧ e.f1.length ≤ 1000000) : ∀ (d i : Nat), E.length - i = d → Ev (fun k => unicodetextref47_Same.l0 k (i : Int) E G a b c E G a b c) true := by
  intro d
  induction d with
  | zero =>
    intro i hd
    refine Ev.step (f := fun _ => some true) (fun k => ?_) (Ev.now _)
    simp only [unicodetextref47_Same.l0]
    rw [if_neg (by omega)]
  | succ d ih =>
    intro i hd
    have hi : i < E.length := by omega
    have hb := hS.2 E[i] (List.getElem_mem hi)
    refine Ev.step (f := fun k => (unicodetextref47_sameInts.f k E[i].f0 E[i].f0).bind fun t => if t = true then ((unicodetextref43_Same.f k E[i].f1 E[i].f1).bind fun t2 => if t2 = true then unicodetextref47_Same.l0 k ((i + 1 : Nat) : Int) E G a b c E G a b c else none) else none) (fun k => ?_) ?_
    · simp only [unicodetextref47_Same.l0]
      rw [if_pos (by omega), if_pos (by omega), if_pos (by omega), rdT49 hi, wrap_nat (by omega)]
    · refine Ev.bind (ints_ev _ hb.1) ?_
      simp only [if_true]
      refine Ev.bind (els_ev _ hb.2) ?_
      simp only [if_true]
      exact ih (i + 1) (by omega)
theorem rsame_ev (E : List S49) (G : List S36) (a b c : Int) (hS : eSmall E = true) (hG : G.length ≤ 2199023255552) : Ev (fun k => unicodetextref47_Same.f k E G a b c E G a b c) true := by
  refine Ev.bind (same_ev G hG) ?_
  simp only [if_true]
  refine Ev.step (f := fun k => unicodetextref47_Same.l0 k ((0 : Nat) : Int) E G a b c E G a b c) (fun k => ?_) (ent_loop E G a b c (eSmall_len hS) _ 0 rfl)
  simp only [unicodetextref47_Same.j0]
  rw [if_neg (by simp)]
  rfl
end Go.Proofs.Ytfcpebjjcijgcaa.G
-- by hand: lemmas
namespace Go.Proofs.Ytfcpebjjcijgcaa.G
open Go.RowKit Go.Proofs.YtfcpebjjcijgcaaW.PrintWords Go.Proofs.YtfcpebjjcijgcaaW.PrintLast Go.Proofs.YtfcpebjjcijgcaaW.PrintMore
attribute [local go_sem] max2_int min2_int max_two min_two max_three min_three max_four min_four   -- for this text's walks alone
set_option linter.unusedVariables false
set_option linter.unusedSimpArgs false
/-! GroupsApplies -/
section
variable (E : List S49) (G : List S36) (base b3 b4 : Int) (names : List ByteArray) (hE : eFits E) (hG : fits G = true) (h8 : G.length ≤ 8) (hN : namesFit names = true) (hS : E.length ≤ 1000000 ∧ ∀ e, e ∈ E → e.f0.length ≤ 1000000 ∧ e.f1.length ≤ 1000000) (ho : (ordA E G base b3 b4 names).2 = 0)
include hE hG h8 hN hS ho
theorem rap_l1 (R : List S36) (i : Nat) (hi : i < E.length) (acc : List S49) (ha : acc.length = i) (r : List S49 × List S36 × Int × Int × Int × Int) : ∀ (d j : Nat) (dn : List S51), E[i].f1.length - j = d → dn.length ≤ j → j ≤ E[i].f1.length → Ev (fun k => unicodetextref47_Apply.l0 k names ((i + 1 : Nat) : Int) E G base b3 b4 (acc ++ [(⟨E[i].f0, dn ++ (E[i].f1.drop j).map (mvEl G (ordA E G base b3 b4 names).1)⟩ : S49)]) R base b3 b4) r → Ev (fun k => unicodetextref47_Apply.l1 k names (i : Int) (j : Int) E G base b3 b4 acc R base b3 b4 E[i].f0 dn) r := by
  have hb := hS.2 E[i] (List.getElem_mem hi)
  have hl := hS.1
  intro d
  induction d with
  | zero =>
    intro j dn hd hdn hj hr
    rw [List.drop_of_length_le (by omega), List.map_nil, List.append_nil] at hr
    refine Ev.step (f := fun k => unicodetextref47_Apply.l0 k names ((i + 1 : Nat) : Int) E G base b3 b4 (acc ++ [(⟨E[i].f0, dn⟩ : S49)]) R base b3 b4) (fun k => ?_) hr
    simp only [unicodetextref47_Apply.l1]
    rw [if_pos (by omega), if_pos (by omega), rdT49 hi, if_neg (by omega), if_pos (by omega), wrap_nat (by omega)]
  | succ d ih =>
    intro j dn hd hdn hj hr
    have hjl : j < E[i].f1.length := by omega
    have e2 : dn ++ (E[i].f1.drop j).map (mvEl G (ordA E G base b3 b4 names).1) = (dn ++ [mvEl G (ordA E G base b3 b4 names).1 E[i].f1[j]]) ++ (E[i].f1.drop (j + 1)).map (mvEl G (ordA E G base b3 b4 names).1) := by rw [List.drop_eq_getElem_cons hjl, List.map_cons, List.append_cons]
    rw [e2] at hr
    refine Ev.step (f := fun k => (unicodetextref47_Move.f k E G base b3 b4 names E[i].f1[j].f0).bind fun t => if dn.length < 4398046511104 then unicodetextref47_Apply.l1 k names (i : Int) ((j + 1 : Nat) : Int) E G base b3 b4 acc R base b3 b4 E[i].f0 (dn ++ [(⟨t, E[i].f1[j].f1, E[i].f1[j].f2, E[i].f1[j].f3⟩ : S51)]) else none) (fun k => ?_) (Ev.bind (rmove_ev E G base b3 b4 names hE hG h8 hN E[i].f1[j].f0) ?_)
    · simp only [unicodetextref47_Apply.l1]
      rw [if_pos (by omega), if_pos (by omega), rdT49 hi, if_pos (by omega), if_pos (by omega), rdT51 hjl, wrap_nat (by omega)]
    · simp only [if_pos (show dn.length < 4398046511104 by omega)]
      refine ih (j + 1) _ (by omega) (by rw [List.length_append]; simp; omega) (by omega) ?_
      unfold movA
      rw [if_pos ho]
      exact hr
theorem rap_l0 : ∀ (d i : Nat) (acc : List S49), E.length - i = d → acc.length = i → Ev (fun k => unicodetextref47_Apply.l0 k names (i : Int) E G base b3 b4 acc (ordA E G base b3 b4 names).1 base b3 b4) (acc ++ (E.drop i).map (moveE G (ordA E G base b3 b4 names).1), (ordA E G base b3 b4 names).1, base, b3, b4, 0) := by
  have hl := hS.1
  intro d
  induction d with
  | zero =>
    intro i acc hd ha
    rw [List.drop_of_length_le (by omega), List.map_nil, List.append_nil]
    refine Ev.step (f := fun _ => some (acc, (ordA E G base b3 b4 names).1, base, b3, b4, 0)) (fun k => ?_) (Ev.now _)
    simp only [unicodetextref47_Apply.l0]
    rw [if_neg (by omega)]
  | succ d ih =>
    intro i acc hd ha
    have hi : i < E.length := by omega
    have hb := hS.2 E[i] (List.getElem_mem hi)
    refine Ev.step (f := fun k => unicodetextref47_Apply.l1 k names (i : Int) ((0 : Nat) : Int) E G base b3 b4 acc (ordA E G base b3 b4 names).1 base b3 b4 E[i].f0 []) (fun k => ?_) ?_
    · simp only [unicodetextref47_Apply.l0, Option.bind_some, List.nil_append, List.length_nil]
      rw [if_pos (by omega), if_pos (by omega), rdT49 hi, if_pos (by omega)]
      rfl
    · refine rap_l1 E G base b3 b4 names hE hG h8 hN hS ho _ i hi acc ha _ _ 0 [] rfl (by simp) (by omega) ?_
      rw [List.drop_zero, List.nil_append]
      have h := ih (i + 1) (acc ++ [moveE G (ordA E G base b3 b4 names).1 E[i]]) (by omega) (by rw [List.length_append]; simp; omega)
      rw [List.append_assoc, List.singleton_append, ← List.map_cons, ← List.drop_eq_getElem_cons hi] at h
      exact h
end
theorem rapply_ev (E : List S49) (G : List S36) (base b3 b4 : Int) (names : List ByteArray) (hE : eFits E) (hG : fits G = true) (h8 : G.length ≤ 8) (hN : namesFit names = true) (hS : eSmall E = true) : Ev (fun k => unicodetextref47_Apply.f k E G base b3 b4 names) (aplA E G base b3 b4 names) := by
  refine Ev.bind (rorder_ev' E G base b3 b4 names hE hG h8 hN) ?_
  unfold aplA
  by_cases h : (ordA E G base b3 b4 names).2 = 0
  · simp only [h, if_true]
    exact rap_l0 E G base b3 b4 names hE hG h8 hN (eSmall_len hS) h _ 0 [] rfl rfl
  · simp only [h, if_false]
    exact Ev.now _
theorem moveE_small {old fresh : List S36} {E : List S49} (h : eSmall E = true) : eSmall (E.map (moveE old fresh)) = true := by
  simp only [eSmall, Bool.and_eq_true, decide_eq_true_eq, List.all_eq_true, List.length_map] at h ⊢
  refine ⟨h.1, fun e he => ?_⟩
  obtain ⟨x, hx, rfl⟩ := List.mem_map.1 he
  simpa [moveE] using h.2 x hx
theorem applies_law (E : List S49) (G : List S36) (base b3 b4 : Int) (names : List ByteArray) (hsG : ∀ g, g ∈ G → g.f0.size ≤ 9223372036854775807) (hsN : ∀ s, s ∈ names → s.size ≤ 9223372036854775807) : ∃ k, unicodetextlaw47_GroupsApplies.f k E G base b3 b4 names = some true := by
  refine Ev.rounds ?_
  refine Ev.bind (few_ev E G base b3 b4 names) ?_
  by_cases hf : (smallP E G && decide (names.length ≤ 12)) = true
  · simp only [hf, if_true]
    obtain ⟨hE, hG, h8, hN, hn⟩ := few_fits hsG hsN hf
    have hS := small_eSmall (Bool.and_eq_true_iff.1 hf).1
    refine Ev.bind (gapply_ev E G base b3 b4 names hE hG h8 hN hS) ?_
    refine Ev.bind (rapply_ev E G base b3 b4 names hE hG h8 hN hS) ?_
    have hrs : Ev (fun k => unicodetextref47_Same.f k (aplA E G base b3 b4 names).1 (aplA E G base b3 b4 names).2.1 (aplA E G base b3 b4 names).2.2.1 (aplA E G base b3 b4 names).2.2.2.1 (aplA E G base b3 b4 names).2.2.2.2.1 (aplA E G base b3 b4 names).1 (aplA E G base b3 b4 names).2.1 (aplA E G base b3 b4 names).2.2.1 (aplA E G base b3 b4 names).2.2.2.1 (aplA E G base b3 b4 names).2.2.2.2.1) true := by
      refine rsame_ev _ _ _ _ _ ?_ ?_
      · unfold aplA
        split
        · exact moveE_small hS
        · rfl
      · unfold aplA
        split
        · exact ordA_len E G base b3 b4 names h8 (by omega)
        · simp
    refine Ev.bind hrs ?_
    simp only [if_true]
    exact Ev.bind alive_ev (Ev.now _)
  · simp only [hf, if_false]
    exact Ev.bind alive_ev (Ev.now _)
end Go.Proofs.Ytfcpebjjcijgcaa.G
namespace Go.Proofs.Ytfcpebjjcijgcaa.groupsApplies
open Go.ChangeShapes Go.WideShapes Go.ChangeAt Go.RowKit Go.Proofs.YtfcpebjjcijgcaaW.PrintWords Go.Proofs.YtfcpebjjcijgcaaW.PrintLast Go.Proofs.YtfcpebjjcijgcaaW.PrintMore Go.Proofs.Ytfcpebjjcijgcaa.G
theorem own : ownKnob Try.prog.godebug = none := by kernel_rfl
theorem laidOut : laidOutB Try.prog = true := by kernel_rfl
set_option maxRecDepth 100000 in
theorem lifted (os : Os) (started : os.Started) (H : Type) (enc : TypeId × Value → H) :
    ReturnsInHanded {} Try.checked os 7 .any (Rows.groupsAppliesSpec.pre6 enc Try.prog Try.f7 Rows.groupsAppliesRow.domain false) (Rows.groupsAppliesSpec.post enc Try.prog Try.f7 false true false false) := by
  refine returnsInHanded_of_change_sized (C := Try.checked) own started (by kernel_rfl) Try.func7
    (ChangeSpec.witness6 (enc := enc) (C := Try.checked) false ⟨#[], #[.agg #[.slice none 0 0, .slice none 0 0, .int .i64 0, .int .i64 0, .int .i64 0], .slice none 0 0], []⟩ 8 (by kernel_rfl) (by kernel_rfl) (by kernel_rfl) (by kernel_rfl)) ?_
  intro W base args ds gs before hval0 hW hcnd hsz0 _
  have hval : ∀ (j : Nat) t v, Try.f7.params[j]? = some t → args[j]? = some v → Value.okWide Try.prog W .any base t v := hval0
  have hW' := hW
  obtain ⟨p, q, hA0, hV, rfl, hfz, hnd⟩ := hW
  have hA : DataW.TrodAll enc Try.prog W 0 (fun _ => true) true Try.f7.params.toList args.toList ds p := hA0
  rw [Try.params7] at hA hval
  obtain ⟨v0, vs0, d0, ds0, p0, q0, hargs, rfl, rfl, h0, r0⟩ := trodAll_cons hA
  obtain ⟨v1, vs1, d1, ds1, p1, q1, rfl, rfl, rfl, h1, r1⟩ := trodAll_cons r0
  obtain ⟨rfl, rfl, rfl⟩ := trodAll_nil r1
  obtain rfl : args = #[v0, v1] := by cases args; simp_all
  obtain ⟨rfl, rfl⟩ := trodVars_none hV
  obtain ⟨cs0, rfl, _⟩ := okWide_struct Try.underlying25 (hval 0 25 v0 rfl rfl)
  have k0 := h0
  have lt0 : ∀ x ∈ p0, x.block < W.heap.size := by obtain ⟨m, hm⟩ := k0; exact DataW.trod_lt m _ _ _ hm
  obtain ⟨m0, hm0⟩ := h0
  obtain ⟨A0, c0, E, A1, c1, G, b2, b3, b4, hc0, l0, g0, l1, g1, hsG⟩ := opens_coll hm0
  obtain rfl : cs0 = #[.slice A0 E.length c0, .slice A1 G.length c1, .int .i64 b2, .int .i64 b3, .int .i64 b4] := Array.toList_inj.1 hc0
  obtain ⟨a1, len1, cap1, rfl⟩ := okWide_slice Try.underlying26 (hval 1 26 v1 rfl rfl)
  have k1 := h1
  have lt1 : ∀ x ∈ p1, x.block < W.heap.size := by obtain ⟨m, hm⟩ := k1; exact DataW.trod_lt m _ _ _ hm
  obtain ⟨m1, hm1⟩ := h1
  obtain ⟨A2, c2, L, hc1, l2, g2, hsN⟩ := opens_names hm1
  have hc1 : [Value.slice a1 len1 cap1] = [.slice A2 L.length c2] := hc1
  simp only [List.cons.injEq, Value.slice.injEq, and_true] at hc1
  obtain ⟨rfl, rfl, rfl⟩ := hc1
  clear hA0 hval0 hsz0
  obtain ⟨k, hk⟩ := applies_law E G b2 b3 b4 L hsG hsN
  refine (unicodetextlaw47_GroupsApplies.calls k A0 c0 E A1 c1 G b2 b3 b4 a1 cap1 L true W g0 l0 g1 l1 g2 l2 hk).mono fun e W' ⟨he, bel⟩ => ?_
  subst he
  exact ⟨_, rfl, _, _, _, [], _, [], hW', trodAll_mk1 (shut_bool Try.underlying4 _), (trodAll_cons_mk (Below.trod laidOut (by kernel_rfl) (of_decide_eq_true (by kernel_rfl)) k0 bel lt0) (trodAll_cons_mk (Below.trod laidOut (by kernel_rfl) (of_decide_eq_true (by kernel_rfl)) k1 bel lt1) trodAll_mk0)), rfl, bel.frame _, fun h => by cases h⟩
theorem over : Rows.groupsAppliesRow.holds Try.pinned (OpenSpec.ofChange Rows.groupsAppliesSpec) :=
  OpenClaim.holds_of_wide 7 Try.f7 rfl rfl rfl rfl rfl rfl rfl ⟨rfl, rfl, rfl, rfl, rfl⟩ rfl rfl rfl rfl rfl (by kernel_rfl) Try.func7 (by kernel_rfl)
    (of_decide_eq_true (by kernel_rfl)) (by unfold Func.isWrapper; first | (rw [if_pos (by decide +kernel)]; kernel_rfl) | (rw [if_neg (by decide +kernel)]; exact ⟨rfl, rfl⟩))
    (fun os started H enc _ => lifted os started H enc)
theorem proved : Rows.GroupsAppliesSaid := over
#print axioms proved
end Go.Proofs.Ytfcpebjjcijgcaa.groupsApplies
namespace Go.Proofs.Ytfcpebjjcijgcaa
/-- The row, under a short name, for the claim. -/
theorem groupsApplies_holds : Rows.GroupsAppliesSaid := groupsApplies.proved
end Go.Proofs.Ytfcpebjjcijgcaa
