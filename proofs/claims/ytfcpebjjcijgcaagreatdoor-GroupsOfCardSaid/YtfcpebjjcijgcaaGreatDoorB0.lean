/- Contracts of Go functions, printed by a program of mine over the kit's printer or proved by hand, and plain laws: what the groups' laws lean on. -/
import Derived.ArgAppend
import Derived.Below
import Derived.BigQuiet
import Derived.ChangeArms
import Derived.DataReads
import Derived.Deep.AppendLies
import Derived.Deep.CutBlock
import Derived.Deep.DeepCutAuto
import Derived.Deep.Draws
import Derived.Deep.LoopGhost
import Derived.Deep.OwnRows
import Derived.Deep.QuietTactic
import Derived.Deep.RegionHeld3
import Derived.IntWalk
import Derived.KernelRfl
import Derived.Laws.BitsLemmas
import Derived.Laws.BytesArg
import Derived.Laws.IdiomCopy
import Derived.Laws.MakeOwn
import Derived.Laws.OwnMore
import Derived.Laws.Rows
import Derived.Laws.Slices
import Derived.Lib.AppendStr
import Derived.Lib.Bytes
import Derived.Lib.ConvBytes
import Derived.Maps.AppendAt
import Derived.Maps.OwnOps
import Derived.Maps.OwnSet
import Derived.Maps.Views
import Derived.OpenShut
import Derived.OrdersHeld
import Derived.Outline
import Derived.OwnWalk
import Derived.ProofKit
import Derived.RowKit
import Derived.RowKit3
import Derived.Shelf.SlicesQ.Load
import Derived.StringKeys
import Derived.Tactics
import Derived.Test.YtfcpebjjcijgcaaGreatDoorProg
import Derived.Test.YtfcpebjjcijgcaaGreatDoorXEqStruct
import Derived.Test.YtfcpebjjcijgcaaGreatDoorXGuard
import Derived.Test.YtfcpebjjcijgcaaGreatDoorXLast
import Derived.Test.YtfcpebjjcijgcaaGreatDoorXMore
import Derived.Test.YtfcpebjjcijgcaaGreatDoorXRepsOne
import Derived.Test.YtfcpebjjcijgcaaGreatDoorXTab
import Derived.Test.YtfcpebjjcijgcaaGreatDoorXWords
import Derived.WalkKit
import Derived.WalkSpells
import Derived.WideLaws
-- the kinds of the values: printed by gprint.py
namespace Go.Proofs.YtfcpebjjcijgcaaGreatDoor.G
open Go.RowKit Go.Proofs.YtfcpebjjcijgcaaGreatDoorW.PrintWords Go.Proofs.YtfcpebjjcijgcaaGreatDoorW.PrintLast Go.Proofs.YtfcpebjjcijgcaaGreatDoorW.PrintMore
attribute [local go_sem] max2_int min2_int max_two min_two max_three min_three max_four min_four   -- for this text's walks alone
set_option linter.unusedVariables false
set_option linter.unusedSimpArgs false
def errW : Option Int → Value
  | none => .nilIface
  | some c => .iface 0 (.int .i64 c)
theorem errW_none : errW none = .nilIface := rfl
theorem errW_some (c : Int) : errW (some c) = .iface 0 (.int .i64 c) := rfl
theorem info41 : (Tryz.prog.info? 41).map (fun i => (i.zero, i.size, i.bytes)) = some (some (.agg #[(.int .i64 0), (.int .i64 0), (.int .i64 0), (.bool false)]), 4, 32) := by kernel_rfl
theorem info43 : (Tryz.prog.info? 43).map (fun i => (i.zero, i.size, i.bytes)) = some (some (.agg #[(.string ⟨#[]⟩), (.int .i64 0), (.int .i64 0)]), 3, 32) := by kernel_rfl
-- the values' own types
/-! #### struct type 41 -/
structure S41 where
  f0 : Int
  f1 : Int
  f2 : Int
  f3 : Bool
def z41 : S41 := ⟨(0 : Int), (0 : Int), (0 : Int), false⟩
def k41 : Kd S41 := Kd.iso (Kd.pair (Kd.int .i64) (Kd.pair (Kd.int .i64) (Kd.pair (Kd.int .i64) Kd.bool))) (fun x : S41 => (x.f0, x.f1, x.f2, x.f3))
theorem k41_open {w : World} {x : S41} {cs : List Value} (h : k41.K w x cs) : cs = [.int .i64 x.f0, .int .i64 x.f1, .int .i64 x.f2, .bool x.f3] := by
  obtain ⟨_, _, rfl, rfl, ⟨_, _, rfl, rfl, ⟨_, _, rfl, rfl, rfl⟩⟩⟩ := h
  exact rfl
theorem k41_mk (w : World) (x : S41)  : k41.K w x [.int .i64 x.f0, .int .i64 x.f1, .int .i64 x.f2, .bool x.f3] := ⟨[.int .i64 x.f0], [.int .i64 x.f1, .int .i64 x.f2, .bool x.f3], rfl, rfl, ⟨[.int .i64 x.f1], [.int .i64 x.f2, .bool x.f3], rfl, rfl, ⟨[.int .i64 x.f2], [.bool x.f3], rfl, rfl, rfl⟩⟩⟩
theorem k41_mkM (w : World) (base : Nat) (ok : Nat → Prop) (x : S41)  : k41.M w base ok x [.int .i64 x.f0, .int .i64 x.f1, .int .i64 x.f2, .bool x.f3] := ⟨[.int .i64 x.f0], [.int .i64 x.f1, .int .i64 x.f2, .bool x.f3], rfl, rfl, ⟨[.int .i64 x.f1], [.int .i64 x.f2, .bool x.f3], rfl, rfl, ⟨[.int .i64 x.f2], [.bool x.f3], rfl, rfl, rfl⟩⟩⟩
def rd_T41 (xs : List S41) (i : Int) : S41 := xs.getD i.toNat z41
theorem at_T41 {w : World} {A : Option Addr} {n : Nat} {xs : List S41} (h : Kd.C k41 w A n xs) (i : Int) (h0 : 0 ≤ i) (h1 : i < n) : ∃ ad , A = some ad ∧ w.cell? (ad.add (i.toNat * 4)) = some (.int .i64 (rd_T41 xs i).f0) ∧ w.cell? ⟨(ad.add (i.toNat * 4)).block, (ad.add (i.toNat * 4)).off + 1, none⟩ = some (.int .i64 (rd_T41 xs i).f1) ∧ w.cell? ⟨(ad.add (i.toNat * 4)).block, (ad.add (i.toNat * 4)).off + 2, none⟩ = some (.int .i64 (rd_T41 xs i).f2) ∧ w.cell? ⟨(ad.add (i.toNat * 4)).block, (ad.add (i.toNat * 4)).off + 3, none⟩ = some (.bool (rd_T41 xs i).f3) := by
  obtain ⟨ad, c, e, _, hK, hc0⟩ := Kd.C_get h z41 i h0 h1
  have hc : ∀ j u, c[j]? = some u → w.cell? (ad.add (i.toNat * 4 + j)) = some u := hc0
  obtain rfl := k41_open hK
  exact ⟨ad, e, hc 0 _ rfl, by rw [← add_field _ _ 1 (by omega)]; exact hc 1 _ rfl, by rw [← add_field _ _ 2 (by omega)]; exact hc 2 _ rfl, by rw [← add_field _ _ 3 (by omega)]; exact hc 3 _ rfl⟩
/-! #### struct type 50 -/
structure S50 where
  f0 : (List Int)
  f1 : (List S41)
def z50 : S50 := ⟨([] : List Int), ([] : List S41)⟩
def k50 : Kd S50 := Kd.iso (Kd.pair (Kd.slice 3 (Kd.int .i64)) (Kd.slice 41 k41)) (fun x : S50 => (x.f0, x.f1))
theorem k50_open {w : World} {x : S50} {cs : List Value} (h : k50.K w x cs) : ∃ A0 c0 A1 c1, cs = [.slice A0 x.f0.length c0, .slice A1 x.f1.length c1] ∧ x.f0.length ≤ c0 ∧ (Kd.int .i64).C w A0 x.f0.length x.f0 ∧ x.f1.length ≤ c1 ∧ k41.C w A1 x.f1.length x.f1 := by
  obtain ⟨_, _, rfl, ⟨A0, c0, rfl, l0, g0⟩, ⟨A1, c1, rfl, l1, g1⟩⟩ := h
  exact ⟨A0, c0, A1, c1, rfl, l0, g0, l1, g1⟩
theorem k50_mk (w : World) (x : S50) {A0 : Option Addr} {c0 : Nat} (l0 : x.f0.length ≤ c0) (g0 : (Kd.int .i64).C w A0 x.f0.length x.f0) {A1 : Option Addr} {c1 : Nat} (l1 : x.f1.length ≤ c1) (g1 : k41.C w A1 x.f1.length x.f1) : k50.K w x [.slice A0 x.f0.length c0, .slice A1 x.f1.length c1] := ⟨[.slice A0 x.f0.length c0], [.slice A1 x.f1.length c1], rfl, ⟨A0, c0, rfl, l0, g0⟩, ⟨A1, c1, rfl, l1, g1⟩⟩
def rd_T50 (xs : List S50) (i : Int) : S50 := xs.getD i.toNat z50
theorem at_T50 {w : World} {A : Option Addr} {n : Nat} {xs : List S50} (h : Kd.C k50 w A n xs) (i : Int) (h0 : 0 ≤ i) (h1 : i < n) : ∃ ad A0 c0 A1 c1, A = some ad ∧ w.cell? (ad.add (i.toNat * 2)) = some (.slice A0 (rd_T50 xs i).f0.length c0) ∧ w.cell? ⟨(ad.add (i.toNat * 2)).block, (ad.add (i.toNat * 2)).off + 1, none⟩ = some (.slice A1 (rd_T50 xs i).f1.length c1) ∧ (rd_T50 xs i).f0.length ≤ c0 ∧ (Kd.int .i64).C w A0 (rd_T50 xs i).f0.length (rd_T50 xs i).f0 ∧ (rd_T50 xs i).f1.length ≤ c1 ∧ k41.C w A1 (rd_T50 xs i).f1.length (rd_T50 xs i).f1 := by
  obtain ⟨ad, c, e, _, hK, hc0⟩ := Kd.C_get h z50 i h0 h1
  have hc : ∀ j u, c[j]? = some u → w.cell? (ad.add (i.toNat * 2 + j)) = some u := hc0
  obtain ⟨A0, c0, A1, c1, rfl, l0, g0, l1, g1⟩ := k50_open hK
  exact ⟨ad, A0, c0, A1, c1, e, hc 0 _ rfl, by rw [← add_field _ _ 1 (by omega)]; exact hc 1 _ rfl, l0, g0, l1, g1⟩
/-! #### struct type 43 -/
structure S43 where
  f0 : ByteArray
  f1 : Int
  f2 : Int
def z43 : S43 := ⟨(⟨#[]⟩ : ByteArray), (0 : Int), (0 : Int)⟩
def k43 : Kd S43 := Kd.iso (Kd.pair Kd.string (Kd.pair (Kd.int .i64) (Kd.int .i64))) (fun x : S43 => (x.f0, x.f1, x.f2))
theorem k43_open {w : World} {x : S43} {cs : List Value} (h : k43.K w x cs) : cs = [.string x.f0, .int .i64 x.f1, .int .i64 x.f2] := by
  obtain ⟨_, _, rfl, rfl, ⟨_, _, rfl, rfl, rfl⟩⟩ := h
  exact rfl
theorem k43_openM {w : World} {base : Nat} {ok : Nat → Prop} {x : S43} {cs : List Value} (h : k43.M w base ok x cs) : cs = [.string x.f0, .int .i64 x.f1, .int .i64 x.f2] := by
  obtain ⟨_, _, rfl, rfl, ⟨_, _, rfl, rfl, rfl⟩⟩ := h
  exact rfl
theorem k43_mk (w : World) (x : S43)  : k43.K w x [.string x.f0, .int .i64 x.f1, .int .i64 x.f2] := ⟨[.string x.f0], [.int .i64 x.f1, .int .i64 x.f2], rfl, rfl, ⟨[.int .i64 x.f1], [.int .i64 x.f2], rfl, rfl, rfl⟩⟩
theorem k43_mkM (w : World) (base : Nat) (ok : Nat → Prop) (x : S43)  : k43.M w base ok x [.string x.f0, .int .i64 x.f1, .int .i64 x.f2] := ⟨[.string x.f0], [.int .i64 x.f1, .int .i64 x.f2], rfl, rfl, ⟨[.int .i64 x.f1], [.int .i64 x.f2], rfl, rfl, rfl⟩⟩
def rd_T43 (xs : List S43) (i : Int) : S43 := xs.getD i.toNat z43
theorem at_T43 {w : World} {A : Option Addr} {n : Nat} {xs : List S43} (h : Kd.C k43 w A n xs) (i : Int) (h0 : 0 ≤ i) (h1 : i < n) : ∃ ad , A = some ad ∧ w.cell? (ad.add (i.toNat * 3)) = some (.string (rd_T43 xs i).f0) ∧ w.cell? ⟨(ad.add (i.toNat * 3)).block, (ad.add (i.toNat * 3)).off + 1, none⟩ = some (.int .i64 (rd_T43 xs i).f1) ∧ w.cell? ⟨(ad.add (i.toNat * 3)).block, (ad.add (i.toNat * 3)).off + 2, none⟩ = some (.int .i64 (rd_T43 xs i).f2) := by
  obtain ⟨ad, c, e, _, hK, hc0⟩ := Kd.C_get h z43 i h0 h1
  have hc : ∀ j u, c[j]? = some u → w.cell? (ad.add (i.toNat * 3 + j)) = some u := hc0
  obtain rfl := k43_open hK
  exact ⟨ad, e, hc 0 _ rfl, by rw [← add_field _ _ 1 (by omega)]; exact hc 1 _ rfl, by rw [← add_field _ _ 2 (by omega)]; exact hc 2 _ rfl⟩
/-! #### struct type 25 -/
structure S25 where
  f0 : (List S50)
  f1 : (List S43)
  f2 : Int
  f3 : Int
  f4 : Int
def z25 : S25 := ⟨([] : List S50), ([] : List S43), (0 : Int), (0 : Int), (0 : Int)⟩
/-! #### struct type 109 -/
structure S109 where
  f0 : Int
  f1 : Int
  f2 : Int
def k109 : Kd S109 := Kd.iso (Kd.pair (Kd.int .i64) (Kd.pair (Kd.int .i64) (Kd.int .i64))) (fun x : S109 => (x.f0, x.f1, x.f2))
theorem k109_open {w : World} {x : S109} {cs : List Value} (h : k109.K w x cs) : cs = [.int .i64 x.f0, .int .i64 x.f1, .int .i64 x.f2] := by
  obtain ⟨_, _, rfl, rfl, ⟨_, _, rfl, rfl, rfl⟩⟩ := h
  exact rfl
/-! #### struct type 114 -/
structure S114 where
  f0 : Int
  f1 : (List Int)
  f2 : ByteArray
def k114 : Kd S114 := Kd.iso (Kd.pair (Kd.int .i64) (Kd.pair (Kd.slice 3 (Kd.int .i64)) Kd.string)) (fun x : S114 => (x.f0, x.f1, x.f2))
theorem k114_open {w : World} {x : S114} {cs : List Value} (h : k114.K w x cs) : ∃ A1 c1, cs = [.int .i64 x.f0, .slice A1 x.f1.length c1, .string x.f2] ∧ x.f1.length ≤ c1 ∧ (Kd.int .i64).C w A1 x.f1.length x.f1 := by
  obtain ⟨_, _, rfl, rfl, ⟨_, _, rfl, ⟨A1, c1, rfl, l1, g1⟩, rfl⟩⟩ := h
  exact ⟨A1, c1, rfl, l1, g1⟩
/-! #### struct type 118 -/
end Go.Proofs.YtfcpebjjcijgcaaGreatDoor.G
-- by hand: lemmas
namespace Go.Proofs.YtfcpebjjcijgcaaGreatDoor.G
open Go.RowKit Go.Proofs.YtfcpebjjcijgcaaGreatDoorW.PrintWords Go.Proofs.YtfcpebjjcijgcaaGreatDoorW.PrintLast Go.Proofs.YtfcpebjjcijgcaaGreatDoorW.PrintMore
attribute [local go_sem] max2_int min2_int max_two min_two max_three min_three max_four min_four   -- for this text's walks alone
set_option linter.unusedVariables false
set_option linter.unusedSimpArgs false
/-! What a reading of an argument says of its cells -/
set_option maxRecDepth 100000
theorem skolem_list {α : Type} {Q : Nat → α → Prop} : ∀ n, (∀ i, i < n → ∃ x, Q i x) → ∃ xs : List α, xs.length = n ∧ ∀ i x, xs[i]? = some x → Q i x
  | 0, _ => ⟨[], rfl, fun i x h => by simp at h⟩
  | n + 1, h => by
    obtain ⟨xs, hl, hx⟩ := skolem_list n fun i hi => h i (by omega)
    obtain ⟨y, hy⟩ := h n (by omega)
    refine ⟨xs ++ [y], by simp [hl], fun i x hi => ?_⟩
    by_cases hlt : i < xs.length
    · rw [List.getElem?_append_left hlt] at hi
      exact hx i x hi
    · rw [List.getElem?_append_right (by omega)] at hi
      obtain ⟨h0, _⟩ := List.getElem?_eq_some_iff.1 hi
      have h0 : i - xs.length < 1 := h0
      have e : i = n := by omega
      subst e
      rw [hl, Nat.sub_self] at hi
      obtain rfl := Option.some.inj hi
      exact hy
section
variable {H : Type} {enc : TypeId × Value → H} {P : Program} {w : World} {sp : Nat → Bool} {held : Bool}
/-- Cells of a type read as something of the kind d. -/
def Opens {α : Type} (enc : TypeId × Value → H) (P : Program) (w : World) (sp : Nat → Bool) (held : Bool) (t : TypeId) (d : Kd α) (Good : α → Prop) : Prop :=
  ∀ fuel cs y, DataW.trod enc P w 0 sp held fuel t cs = some y → ∃ x, d.K w x cs ∧ Good x
theorem opens_int {t : TypeId} {k : IntKind} (ht : P.underlying t = some (.int k)) : Opens enc P w sp held t (Kd.int k) (fun n => (Lit.int k n).wf = true) := fun fuel cs y h => by
  obtain ⟨n, rfl, _, hw⟩ := DataW.trod_int ht h
  exact ⟨n, rfl, hw⟩
theorem opens_string {t : TypeId} (ht : P.underlying t = some .string) : Opens enc P w sp held t Kd.string (fun s => s.size ≤ 9223372036854775807) := fun fuel cs y h => by
  obtain ⟨s, rfl, _, hw⟩ := DataW.trod_string ht h
  exact ⟨s, rfl, hw⟩
theorem opens_bool {t : TypeId} (ht : P.underlying t = some .bool) : Opens enc P w sp held t Kd.bool (fun _ => True) := fun fuel cs y h => by
  obtain ⟨b, rfl, _⟩ := DataW.trod_bool ht h
  exact ⟨b, rfl, trivial⟩
theorem opens_rows {α : Type} {d : Kd α} {Good : α → Prop} {t e : TypeId} (ht : P.underlying t = some (.slice e)) (hc : P.cellsOf e = d.sz) (he : Opens enc P w sp held e d Good) {fuel : Nat} {cs : List Value} {y : DataW H × List MemPlace} (h : DataW.trod enc P w 0 sp held fuel t cs = some y) :
    ∃ A cap, ∃ xs : List α, cs = [.slice A xs.length cap] ∧ xs.length ≤ cap ∧ d.C w A xs.length xs ∧ ∀ x, x ∈ xs → Good x := by
  rcases DataW.trod_slice ht h with ⟨rfl, _⟩ | ⟨a, len, cap, elems, rest, n, _, rfl, rfl, hb, hl, hm, hlen, hel, _, _⟩
  · exact ⟨none, 0, [], rfl, Nat.le_refl _, Kd.C_nil d w, fun x hx => by cases hx⟩
  · obtain ⟨xs, hxl, hx⟩ := skolem_list (α := α) (Q := fun i x => (∃ c, c.length = d.sz ∧ d.K w x c ∧ ∀ j u, c[j]? = some u → w.cell? (a.add (i * d.sz + j)) = some u) ∧ Good x) len (fun i hi => by
      have h1 := hel i hi
      rw [List.getElem?_eq_getElem (by omega), Option.bind_eq_some_iff] at h1
      obtain ⟨c, h2, h3⟩ := h1
      obtain ⟨x, hK, hg⟩ := he _ _ _ h3
      obtain ⟨_, hcl, hcc⟩ := World.cells?_some h2
      refine ⟨x, ⟨c, by omega, hK, fun j u hu => ?_⟩, hg⟩
      obtain ⟨hj, _⟩ := List.getElem?_eq_some_iff.1 hu
      have := hcc j (by omega)
      rw [hu, hc] at this
      rw [← this, Addr.add_add])
    subst hxl
    refine ⟨some a, cap, xs, rfl, hl, ⟨rfl, by unfold maxLen at hm; omega, fun _ => ⟨a, rfl, fun j p hp => (hx j p hp).1⟩⟩, fun x hxm => ?_⟩
    obtain ⟨i, hi⟩ := List.getElem?_of_mem hxm
    exact (hx i x hi).2
theorem opens_slice {α : Type} {d : Kd α} {Good : α → Prop} {t e : TypeId} (ht : P.underlying t = some (.slice e)) (hc : P.cellsOf e = d.sz) (he : Opens enc P w sp held e d Good) : Opens enc P w sp held t (Kd.slice e d) (fun xs => ∀ x, x ∈ xs → Good x) := fun fuel cs y h => by
  obtain ⟨A, cap, xs, rfl, h1, h2, h3⟩ := opens_rows ht hc he h
  exact ⟨xs, ⟨A, cap, rfl, h1, h2⟩, h3⟩
/-- The part of a field. -/
theorem field_at {t : TypeId} {fs : Array Field} {fuel : Nat} {cs : List Value} {y : DataW H × List MemPlace} (ht : P.underlying t = some (.struct fs)) (h : DataW.trod enc P w 0 sp held fuel t cs = some y) :
    cs.length = P.cellsOf t ∧ ∀ (i : Nat) (f : Field), fs[i]? = some f → ∀ {α : Type} {d : Kd α} {Good : α → Prop}, Opens enc P w sp held f.type d Good → ∃ x, d.K w x ((cs.drop f.offset).take (P.cellsOf f.type)) ∧ Good x := by
  obtain ⟨xs, n, rfl, _, hl, hxl, hx⟩ := DataW.trod_struct ht h
  refine ⟨hl, fun i f hf α d Good hO => ?_⟩
  have h1 := hx i f hf
  have hi : i < fs.size := (Array.getElem?_eq_some_iff.1 hf).1
  rw [List.getElem?_eq_getElem (by omega)] at h1
  exact hO _ _ _ h1
end
section
variable {H : Type} {enc : TypeId × Value → H} {w : World} {sp : Nat → Bool} {held : Bool}
theorem opens_group : Opens enc Tryz.prog w sp held 43 k43 (fun g => g.f0.size ≤ 9223372036854775807) := fun fuel cs y h => by
  obtain ⟨hl, hf⟩ := field_at Tryz.underlying43 h
  have hl : cs.length = 3 := hl
  obtain ⟨s, h0, g0⟩ := hf 0 _ rfl (opens_string Tryz.underlying9)
  obtain ⟨a, h1, _⟩ := hf 1 _ rfl (opens_int Tryz.underlying3)
  obtain ⟨b, h2, _⟩ := hf 2 _ rfl (opens_int Tryz.underlying3)
  match cs, hl with
  | [c0, c1, c2], _ =>
    have h0 : [c0] = [.string s] := h0
    have h1 : [c1] = [.int .i64 a] := h1
    have h2 : [c2] = [.int .i64 b] := h2
    obtain ⟨rfl, _⟩ := List.cons.inj h0
    obtain ⟨rfl, _⟩ := List.cons.inj h1
    obtain ⟨rfl, _⟩ := List.cons.inj h2
    exact ⟨⟨s, a, b⟩, k43_mk w ⟨s, a, b⟩, g0⟩
theorem opens_element : Opens enc Tryz.prog w sp held 41 k41 (fun _ => True) := fun fuel cs y h => by
  obtain ⟨hl, hf⟩ := field_at Tryz.underlying41 h
  have hl : cs.length = 4 := hl
  obtain ⟨a, h0, _⟩ := hf 0 _ rfl (opens_int Tryz.underlying3)
  obtain ⟨b, h1, _⟩ := hf 1 _ rfl (opens_int Tryz.underlying3)
  obtain ⟨c, h2, _⟩ := hf 2 _ rfl (opens_int Tryz.underlying3)
  obtain ⟨v, h3, _⟩ := hf 3 _ rfl (opens_bool Tryz.underlying4)
  match cs, hl with
  | [c0, c1, c2, c3], _ =>
    have h0 : [c0] = [.int .i64 a] := h0
    have h1 : [c1] = [.int .i64 b] := h1
    have h2 : [c2] = [.int .i64 c] := h2
    have h3 : [c3] = [.bool v] := h3
    obtain ⟨rfl, _⟩ := List.cons.inj h0
    obtain ⟨rfl, _⟩ := List.cons.inj h1
    obtain ⟨rfl, _⟩ := List.cons.inj h2
    obtain ⟨rfl, _⟩ := List.cons.inj h3
    exact ⟨⟨a, b, c, v⟩, k41_mk w ⟨a, b, c, v⟩, trivial⟩
theorem opens_entry : Opens enc Tryz.prog w sp held 50 k50 (fun _ => True) := fun fuel cs y h => by
  obtain ⟨hl, hf⟩ := field_at Tryz.underlying50 h
  have hl : cs.length = 2 := hl
  obtain ⟨xs, h0, _⟩ := hf 0 _ rfl (opens_slice Tryz.underlying26 (by kernel_rfl) (opens_int Tryz.underlying3))
  obtain ⟨es, h1, _⟩ := hf 1 _ rfl (opens_slice Tryz.underlying37 (by kernel_rfl) opens_element)
  match cs, hl with
  | [c0, c1], _ =>
    obtain ⟨A0, p0, e0, l0, g0⟩ := h0
    obtain ⟨A1, p1, e1, l1, g1⟩ := h1
    have e0 : [c0] = [.slice A0 xs.length p0] := e0
    have e1 : [c1] = [.slice A1 es.length p1] := e1
    obtain ⟨rfl, _⟩ := List.cons.inj e0
    obtain ⟨rfl, _⟩ := List.cons.inj e1
    exact ⟨⟨xs, es⟩, k50_mk w ⟨xs, es⟩ l0 g0 l1 g1, trivial⟩
/-- A collation that came in. -/
theorem opens_coll {fuel : Nat} {cs : List Value} {y : DataW H × List MemPlace} (h : DataW.trod enc Tryz.prog w 0 sp held fuel 25 cs = some y) :
    ∃ A0 c0, ∃ E : List S50, ∃ A1 c1, ∃ G : List S43, ∃ b2 b3 b4 : Int, cs = [.slice A0 E.length c0, .slice A1 G.length c1, .int .i64 b2, .int .i64 b3, .int .i64 b4] ∧ E.length ≤ c0 ∧ Kd.C k50 w A0 E.length E ∧ G.length ≤ c1 ∧ Kd.C k43 w A1 G.length G ∧ ∀ g, g ∈ G → g.f0.size ≤ 9223372036854775807 := by
  obtain ⟨hl, hf⟩ := field_at Tryz.underlying25 h
  have hl : cs.length = 5 := hl
  obtain ⟨E, h0, _⟩ := hf 0 _ rfl (opens_slice Tryz.underlying22 (by kernel_rfl) opens_entry)
  obtain ⟨G, h1, hg⟩ := hf 1 _ rfl (opens_slice Tryz.underlying23 (by kernel_rfl) opens_group)
  obtain ⟨b2, h2, _⟩ := hf 2 _ rfl (opens_int Tryz.underlying3)
  obtain ⟨b3, h3, _⟩ := hf 3 _ rfl (opens_int Tryz.underlying3)
  obtain ⟨b4, h4, _⟩ := hf 4 _ rfl (opens_int Tryz.underlying3)
  match cs, hl with
  | [d0, d1, d2, d3, d4], _ =>
    obtain ⟨A0, p0, e0, l0, g0⟩ := h0
    obtain ⟨A1, p1, e1, l1, g1⟩ := h1
    have e0 : [d0] = [.slice A0 E.length p0] := e0
    have e1 : [d1] = [.slice A1 G.length p1] := e1
    have h2 : [d2] = [.int .i64 b2] := h2
    have h3 : [d3] = [.int .i64 b3] := h3
    have h4 : [d4] = [.int .i64 b4] := h4
    obtain ⟨rfl, _⟩ := List.cons.inj e0
    obtain ⟨rfl, _⟩ := List.cons.inj e1
    obtain ⟨rfl, _⟩ := List.cons.inj h2
    obtain ⟨rfl, _⟩ := List.cons.inj h3
    obtain ⟨rfl, _⟩ := List.cons.inj h4
    exact ⟨A0, p0, E, A1, p1, G, b2, b3, b4, rfl, l0, g0, l1, g1, hg⟩
end
end Go.Proofs.YtfcpebjjcijgcaaGreatDoor.G
-- by hand: lemmas
namespace Go.Proofs.YtfcpebjjcijgcaaGreatDoor.G
open Go.RowKit Go.Proofs.YtfcpebjjcijgcaaGreatDoorW.PrintWords Go.Proofs.YtfcpebjjcijgcaaGreatDoorW.PrintLast Go.Proofs.YtfcpebjjcijgcaaGreatDoorW.PrintMore
attribute [local go_sem] max2_int min2_int max_two min_two max_three min_three max_four min_four   -- for this text's walks alone
set_option linter.unusedVariables false
set_option linter.unusedSimpArgs false
/-- Each value reads as itself. -/
def hR (v : Value) : Option (DataW Value × List MemPlace) := some (.held v, [])
/-- What a map's datum holds at each key. -/
def MapF (P : Program) (kt : TypeId) (D : DataW Value) (f : Lit → Option Value) : Prop := ∀ kl, Maps.KeysOf P kt kl → Maps.has D kl = (f kl).isSome ∧ ∀ z, D.atKey kl (.held z) = .held ((f kl).getD z)
/-- Block b is a map of at most n entries that holds f. -/
def MapV (P : Program) (kt : TypeId) (w : World) (b n : Nat) (f : Lit → Option Value) : Prop := ∃ D, w.ownsMap P kt hR b n D ∧ MapF P kt D f
/-- f, with v at key kl. -/
noncomputable def upd (f : Lit → Option Value) (kl : Lit) (v : Value) : Lit → Option Value := fun k => open Classical in if k = kl then some v else f k
theorem upd_same (f : Lit → Option Value) (kl : Lit) (v : Value) : upd f kl v kl = some v := if_pos rfl
theorem upd_other (f : Lit → Option Value) {kl k : Lit} (v : Value) (h : k ≠ kl) : upd f kl v k = f k := if_neg h
section
variable {P : Program} {kt : TypeId} {w w1 : World} {b n : Nat} {f : Lit → Option Value}
theorem MapV.made (w : World) (P : Program) (kt : TypeId) : MapV P kt (w.alloc (.map #[] 0)) w.heap.size 0 (fun _ => none) := ⟨_, World.ownsMap_made w P kt hR, fun kl _ => ⟨rfl, fun z => rfl⟩⟩
theorem MapV.lt (h : MapV P kt w b n f) : b < w.heap.size := by
  obtain ⟨D, h, _⟩ := h
  exact h.lt
theorem MapV.kept {row : Option Nat} (h : MapV P kt w b n f) (hg : w.grownBy w1 row) (hne : some b ≠ row) : MapV P kt w1 b n f := by
  obtain ⟨D, h, hf⟩ := h
  exact ⟨D, h.kept hg hne, hf⟩
theorem MapV.move (h : MapV P kt w b n f) (hb : w1.heap[b]? = w.heap[b]?) : MapV P kt w1 b n f := by
  obtain ⟨D, ⟨es, clock, h1, h2⟩, hf⟩ := h
  exact ⟨D, ⟨es, clock, hb.trans h1, h2⟩, hf⟩
theorem MapV.below (h : MapV P kt w b n f) (hb : Below w.heap.size w w1) : MapV P kt w1 b n f := h.move (hb.block b h.lt)
theorem MapV.alloc (h : MapV P kt w b n f) (o : Obj) : MapV P kt (w.alloc o) b n f := h.kept (World.grownBy_alloc w o none) (by simp)
theorem MapV.drew (h : MapV P kt w b n f) : MapV P kt w.drew b n f := h.move rfl
theorem MapV.drewN (h : MapV P kt w b n f) (k : Nat) : MapV P kt (w.drewN k) b n f := h.move rfl
theorem MapV.far (h : MapV P kt w b n f) {p : Addr} (hp : b ≠ p.block) (u : Value) : MapV P kt (w.setCell p u) b n f := h.move (Below.heap_setCell w p u b hp)
theorem MapV.congr {f' : Lit → Option Value} (h : MapV P kt w b n f) (hf : ∀ kl, Maps.KeysOf P kt kl → f kl = f' kl) : MapV P kt w b n f' := by
  obtain ⟨D, h, h2⟩ := h
  exact ⟨D, h, fun kl hk => by rw [← hf kl hk]; exact h2 kl hk⟩
theorem MapV.ne_cells {cs : Array Value} {t : TypeId} {fr : Nat × Nat} {g : Nat} (h : MapV P kt w b n f) (hg : w.heap[g]? = some (.cells cs t fr)) : b ≠ g := by
  rintro rfl
  obtain ⟨D, ⟨es, clock, h1, _⟩, _⟩ := h
  rw [h1] at hg
  cases hg
variable {ops : Array Oper} {rest : List Oper} {o : Oper} {a : Act} {Q : Exit → Act → World → Prop}
theorem MapV.look (h : MapV P kt w b n f) (K : Maps.Keyed P kt) {t e : TypeId} (ht : P.underlying t = some (.map kt e)) {z : Value} (hz : (zeroValue e).run P w = .ok z w) {key : Value} {kl : Lit} (hkey : keyOf P kt key = some kl) :
    (Instr.lookup t (.map (some b)) key false).run P w = .ok ((f kl).getD z) w := by
  obtain ⟨D, ho, hf⟩ := h
  obtain ⟨v, ps, hrun, hv⟩ := ho.lookup K ht hz (show hR z = some (.held z, []) from rfl) hkey
  rw [(hf kl ⟨key, hkey⟩).2 z] at hv
  injection hv with hv
  injection hv with hv _
  injection hv with hv
  rw [hrun, hv]
theorem MapV.look_ok (h : MapV P kt w b n f) (K : Maps.Keyed P kt) {t e : TypeId} (ht : P.underlying t = some (.map kt e)) {z : Value} (hz : (zeroValue e).run P w = .ok z w) {key : Value} {kl : Lit} (hkey : keyOf P kt key = some kl) :
    (Instr.lookup t (.map (some b)) key true).run P w = .ok (.tuple #[(f kl).getD z, .bool (f kl).isSome]) w := by
  obtain ⟨D, ho, hf⟩ := h
  obtain ⟨v, ps, hrun, hv⟩ := ho.look_ok K ht hz (show hR z = some (.held z, []) from rfl) hkey
  rw [(hf kl ⟨key, hkey⟩).2 z] at hv
  injection hv with hv
  injection hv with hv _
  injection hv with hv
  rw [hrun, hv, (hf kl ⟨key, hkey⟩).1]
theorem MapV.put (h : MapV P kt w b n f) (K : Maps.Keyed P kt) {t e : TypeId} (ht : P.underlying t = some (.map kt e)) (hn : n < maxLen) {key : Value} {kl : Lit} (v : Value) (hkey : keyOf P kt key = some kl) :
    ∃ w', (Instr.mapUpdate t (.map (some b)) key v).run P w = .ok () w' ∧ MapV P kt w' b (n + 1) (upd f kl v) ∧ w.grownBy w' (some b) := by
  obtain ⟨D, ho, hf⟩ := h
  obtain ⟨w', hrun, ho', hg⟩ := ho.update K ht hn hkey (show hR v = some (.held v, []) from rfl)
  refine ⟨w', hrun, ⟨_, ho', fun k hk => ?_⟩, hg⟩
  by_cases e : k = kl
  · subst e
    have hK := K.key hkey
    refine ⟨by rw [upd_same]; exact Maps.has_put_same ho.isMap hK _, fun z => ?_⟩
    rw [upd_same]
    exact Maps.atKey_put_same ho.isMap hK _ _
  · refine ⟨by rw [upd_other f v e, Maps.has_put_other e]; exact (hf k hk).1, fun z => ?_⟩
    rw [upd_other f v e, Maps.atKey_put_other e]
    exact (hf k hk).2 z
/-- 'm[k]': '(at_lookup; refine wpl_look rfl _ _ T rfl K E law A.underlyingT (zeroE _) B n f rfl HM _ kl rfl hkey v hv ?_)'. -/
theorem wpl_look (hg : o.guard = none) (m x : Operand) (t : TypeId) (hop : o.op = Op.lookup t m x false) (e : TypeId) (K : Maps.Keyed P kt) (ht : P.underlying t = some (.map kt e)) {z : Value} (hz : (zeroValue e).run P w = .ok z w)
    (hm : a.eval m = .map (some b)) (h : MapV P kt w b n f) (key : Value) (kl : Lit) (hx : a.eval x = key) (hkey : keyOf P kt key = some kl) (v : Value) (hv : (f kl).getD z = v)
    (hK : wpList P ops Q rest (a.put o.dst v) w) : wpList P ops Q (o :: rest) a w := by
  refine wpList_plain hg fun K' hK' => ?_
  have hrun := h.look K ht hz hkey
  rw [hv] at hrun
  unfold Oper.wp
  simp [execOp, hop, hm, hx, hrun, Result.andThen]
  exact hK' _ _ hK
theorem wpl_look_ok (hg : o.guard = none) (m x : Operand) (t : TypeId) (hop : o.op = Op.lookup t m x true) (e : TypeId) (K : Maps.Keyed P kt) (ht : P.underlying t = some (.map kt e)) {z : Value} (hz : (zeroValue e).run P w = .ok z w)
    (hm : a.eval m = .map (some b)) (h : MapV P kt w b n f) (key : Value) (kl : Lit) (hx : a.eval x = key) (hkey : keyOf P kt key = some kl) (v : Value) (c : Bool) (hv : (f kl).getD z = v) (hc : (f kl).isSome = c)
    (hK : wpList P ops Q rest (a.put o.dst (.tuple #[v, .bool c])) w) : wpList P ops Q (o :: rest) a w := by
  refine wpList_plain hg fun K' hK' => ?_
  have hrun := h.look_ok K ht hz hkey
  rw [hv, hc] at hrun
  unfold Oper.wp
  simp [execOp, hop, hm, hx, hrun, Result.andThen]
  exact hK' _ _ hK
theorem wpl_put (hg : o.guard = none) (m x y : Operand) (t : TypeId) (hop : o.op = Op.mapUpdate t m x y) (e : TypeId) (K : Maps.Keyed P kt) (ht : P.underlying t = some (.map kt e))
    (hm : a.eval m = .map (some b)) (h : MapV P kt w b n f) (hn : n < maxLen) (key v : Value) (kl : Lit) (hx : a.eval x = key) (hy : a.eval y = v) (hkey : keyOf P kt key = some kl)
    (hK : ∀ w', MapV P kt w' b (n + 1) (upd f kl v) → w.grownBy w' (some b) → wpList P ops Q rest (a.put o.dst undef) w') : wpList P ops Q (o :: rest) a w := by
  refine wpList_plain hg fun K' hK' => ?_
  obtain ⟨w', hrun, h', hg'⟩ := h.put K ht hn v hkey
  unfold Oper.wp
  simp [execOp, hop, hm, hx, hy, hrun, Result.andThen]
  exact hK' _ _ (hK w' h' hg')
end
/-- A string's key. -/
def sk (s : ByteArray) : Lit := .string s.data.toList
theorem keyOf_sk {P : Program} {kt : TypeId} (hk : P.underlying kt = some .string) {s : ByteArray} (hs : s.size ≤ maxLen) : keyOf P kt (.string s) = some (sk s) := WideMaps.keyOf_string_mk hk hs
theorem sk_inj {s t : ByteArray} : sk s = sk t ↔ s = t := by
  constructor
  · intro h
    unfold sk at h
    injection h with h
    have := Array.toList_inj.1 h
    cases s; cases t; simp_all
  · rintro rfl
    rfl
end Go.Proofs.YtfcpebjjcijgcaaGreatDoor.G
-- by hand: lemmas
namespace Go.Proofs.YtfcpebjjcijgcaaGreatDoor.G
open Go.RowKit Go.Proofs.YtfcpebjjcijgcaaGreatDoorW.PrintWords Go.Proofs.YtfcpebjjcijgcaaGreatDoorW.PrintLast Go.Proofs.YtfcpebjjcijgcaaGreatDoorW.PrintMore
attribute [local go_sem] max2_int min2_int max_two min_two max_three min_three max_four min_four   -- for this text's walks alone
set_option linter.unusedVariables false
set_option linter.unusedSimpArgs false
/-- The letters of names. -/
def okch (c : UInt8) : Bool := (65 ≤ c && c ≤ 90) || (97 ≤ c && c ≤ 122) || (48 ≤ c && c ≤ 57) || c == 95
/-- A name: 1 to 32 letters of names. -/
def nameP (s : ByteArray) : Bool := decide (1 ≤ s.size) && decide (s.size ≤ 32) && s.data.toList.all okch
/-- The groups' names. -/
def nms (l : List S43) : List ByteArray := l.map fun g => g.f0
theorem nms_snoc (l : List S43) (g : S43) : nms (l ++ [g]) = nms l ++ [g.f0] := by simp [nms]
/-- Is it in the list? -/
def memB (s : ByteArray) (l : List ByteArray) : Bool := l.any fun t => decide (t = s)
theorem memB_iff {s : ByteArray} {l : List ByteArray} : memB s l = true ↔ s ∈ l := by simp [memB]
theorem memB_false {s : ByteArray} {l : List ByteArray} : memB s l = false ↔ ¬ s ∈ l := by rw [← memB_iff]; simp
/-- No name stands twice. -/
def dupG (l : List S43) : Bool := !decide (nms l).Nodup
def badR (base : Int) (g : S43) : Bool := decide (g.f1 < 1) || decide (g.f2 < g.f1) || decide (base ≤ g.f2)
/-- Each group begins behind the one before it. -/
def inRow : List S43 → Bool
  | [] => true
  | [_] => true
  | a :: b :: l => decide (b.f1 = wrap64 (a.f2 + 1)) && inRow (b :: l)
/-- The first error of the groups. -/
def grErr (l : List S43) (base : Int) : Int :=
  if l.any (fun g => !nameP g.f0) then 6 else if dupG l then 5 else if l.any (badR base) then 1 else if inRow l then 0 else 4
/-- Nothing is longer than any machine bears. -/
def fits (l : List S43) : Bool := decide (l.length ≤ 1099511627776) && l.all fun g => decide (g.f0.size ≤ 9223372036854775807)
theorem fits_size {l : List S43} (h : fits l = true) {g : S43} (hg : g ∈ l) : g.f0.size ≤ 9223372036854775807 := by
  simp only [fits, Bool.and_eq_true, List.all_eq_true, decide_eq_true_eq] at h
  exact h.2 g hg
theorem fits_len {l : List S43} (h : fits l = true) : l.length ≤ 1099511627776 := by
  simp only [fits, Bool.and_eq_true, decide_eq_true_eq] at h
  exact h.1
theorem rd_mem {l : List S43} {x : Int} (h0 : 0 ≤ x) (h : x < (l.length : Int)) : rd_T43 l x ∈ l := by
  unfold rd_T43
  rw [List.getD_eq_getElem?_getD, List.getElem?_eq_getElem (by omega)]
  exact List.getElem_mem _
theorem rd_get {l : List S43} {x : Int} (h0 : 0 ≤ x) (h : x < (l.length : Int)) : l[x.toNat]? = some (rd_T43 l x) := by
  unfold rd_T43
  rw [List.getD_eq_getElem?_getD, List.getElem?_eq_getElem (by omega)]
  rfl
theorem take_rd {l : List S43} {x : Int} (h0 : 0 ≤ x) (h : x < (l.length : Int)) : l.take (x + 1).toNat = l.take x.toNat ++ [rd_T43 l x] := by
  rw [show (x + 1).toNat = x.toNat + 1 by omega, List.take_add_one, rd_get h0 h]
  rfl
/-- The names of some groups, each with v. -/
noncomputable def namesF (l : List S43) (v : Value) : Lit → Option Value := fun k => open Classical in if k ∈ l.map (fun g => sk g.f0) then some v else none
theorem namesF_nil (v : Value) : namesF [] v = fun _ => none := by
  funext k
  simp [namesF]
theorem namesF_snoc (l : List S43) (g : S43) (v : Value) : upd (namesF l v) (sk g.f0) v = namesF (l ++ [g]) v := by
  funext k
  by_cases e : k = sk g.f0
  · subst e
    rw [upd_same]
    simp [namesF]
  · rw [upd_other _ _ e]
    show (open Classical in if k ∈ l.map (fun g => sk g.f0) then some v else none) = (open Classical in if k ∈ (l ++ [g]).map (fun g => sk g.f0) then some v else none)
    have h : k ∈ (l ++ [g]).map (fun g => sk g.f0) ↔ k ∈ l.map (fun g => sk g.f0) := by simp [e]
    by_cases hk : k ∈ l.map (fun g => sk g.f0)
    · rw [if_pos hk, if_pos (h.2 hk)]
    · rw [if_neg hk, if_neg (fun z => hk (h.1 z))]
theorem namesF_mem (l : List S43) (s : ByteArray) (v : Value) : namesF l v (sk s) = if memB s (nms l) = true then some v else none := by
  unfold namesF
  have h : sk s ∈ l.map (fun g => sk g.f0) ↔ s ∈ nms l := by
    unfold nms
    simp only [List.mem_map]
    constructor
    · rintro ⟨g, hg, e⟩
      exact ⟨g, hg, sk_inj.1 e⟩
    · rintro ⟨g, hg, e⟩
      exact ⟨g, hg, by rw [e]⟩
  by_cases hs : s ∈ nms l
  · rw [if_pos (h.2 hs), if_pos (memB_iff.2 hs)]
  · rw [if_neg (fun e => hs (h.1 e)), if_neg (fun e => hs (memB_iff.1 e))]
theorem dupG_snoc (l : List S43) (g : S43) : dupG (l ++ [g]) = (dupG l || memB g.f0 (nms l)) := by
  unfold dupG
  rw [Bool.eq_iff_iff, nms_snoc]
  simp only [Bool.not_eq_true', decide_eq_false_iff_not, Bool.or_eq_true, memB_iff]
  rw [List.nodup_append]
  simp only [List.nodup_cons, List.not_mem_nil, not_false_eq_true, List.nodup_nil, and_self, true_and, List.mem_singleton, forall_eq]
  constructor
  · intro h
    by_cases hn : (nms l).Nodup
    · refine .inr ?_
      apply Classical.byContradiction
      intro hm
      exact h ⟨hn, fun a ha e => hm (e ▸ ha)⟩
    · exact .inl hn
  · rintro (h | h) ⟨h1, h2⟩
    · exact h h1
    · exact h2 _ h rfl
/-! The program's 'named' -/
theorem bt_get (s : ByteArray) {i : Nat} (h : i < s.size) : ∃ c, s.data.toList[i]? = some c ∧ bt s (i : Int) = (c.toNat : Int) := by
  have h' : i < s.data.toList.length := by rw [data_length]; exact h
  refine ⟨s.data.toList[i], List.getElem?_eq_getElem h', ?_⟩
  unfold bt
  rw [dif_pos (by simpa using h)]
  rfl
theorem okch_iff (c : UInt8) : okch c = true ↔ (65 ≤ (c.toNat : Int) ∧ (c.toNat : Int) ≤ 90) ∨ (97 ≤ (c.toNat : Int) ∧ (c.toNat : Int) ≤ 122) ∨ (48 ≤ (c.toNat : Int) ∧ (c.toNat : Int) ≤ 57) ∨ (c.toNat : Int) = 95 := by
  unfold okch
  simp only [Bool.or_eq_true, Bool.and_eq_true, decide_eq_true_eq, beq_iff_eq, UInt8.le_iff_toNat_le, ← UInt8.toNat_inj]
  have h1 : (65 : UInt8).toNat = 65 := rfl
  have h2 : (90 : UInt8).toNat = 90 := rfl
  have h3 : (97 : UInt8).toNat = 97 := rfl
  have h4 : (122 : UInt8).toNat = 122 := rfl
  have h5 : (48 : UInt8).toNat = 48 := rfl
  have h6 : (57 : UInt8).toNat = 57 := rfl
  have h7 : (95 : UInt8).toNat = 95 := rfl
  rw [h1, h2, h3, h4, h5, h6, h7]
  omega
theorem wrap_up {i : Int} (h0 : 0 ≤ i) (h : i < 9223372036854775807) : wrap64 (i + 1) = i + 1 := by
  unfold wrap64
  omega
end Go.Proofs.YtfcpebjjcijgcaaGreatDoor.G
-- unicodetext/colltable.named: printed by gprint.py
namespace Go.Proofs.YtfcpebjjcijgcaaGreatDoor.G
open Go.RowKit Go.Proofs.YtfcpebjjcijgcaaGreatDoorW.PrintWords Go.Proofs.YtfcpebjjcijgcaaGreatDoorW.PrintLast Go.Proofs.YtfcpebjjcijgcaaGreatDoorW.PrintMore
attribute [local go_sem] max2_int min2_int max_two min_two max_three min_three max_four min_four   -- for this text's walks alone
set_option linter.unusedVariables false
set_option linter.unusedSimpArgs false
/-! ### colltable_named: function 31 -/
mutual
def colltable_named.j0 : Nat → ByteArray → Bool → Option (Bool)
  | 0, _, _ => none
  | k + 1, x0, x3 => colltable_named.l0 k x0 x3 (x0.size : Int) 0
def colltable_named.l0 : Nat → ByteArray → Bool → Int → Int → Option (Bool)
  | 0, _, _, _, _ => none
  | k + 1, x0, x3, x14, x15 => if x15 < x14 then (if 0 ≤ x15 then (if x15 < (x0.size : Int) then (if x3 = true then (if (bt x0 x15) ≥ 65 then (if (bt x0 x15) ≤ 90 then (colltable_named.l0 k x0 true x14 (wrap64 (x15 + 1))) else (if (bt x0 x15) ≥ 97 then (if (bt x0 x15) ≤ 122 then (colltable_named.l0 k x0 true x14 (wrap64 (x15 + 1))) else (if (bt x0 x15) ≥ 48 then (if (bt x0 x15) ≤ 57 then (colltable_named.l0 k x0 true x14 (wrap64 (x15 + 1))) else (colltable_named.l0 k x0 ((bt x0 x15) == 95) x14 (wrap64 (x15 + 1)))) else (colltable_named.l0 k x0 ((bt x0 x15) == 95) x14 (wrap64 (x15 + 1))))) else (if (bt x0 x15) ≥ 48 then (if (bt x0 x15) ≤ 57 then (colltable_named.l0 k x0 true x14 (wrap64 (x15 + 1))) else (colltable_named.l0 k x0 ((bt x0 x15) == 95) x14 (wrap64 (x15 + 1)))) else (colltable_named.l0 k x0 ((bt x0 x15) == 95) x14 (wrap64 (x15 + 1)))))) else (if (bt x0 x15) ≥ 97 then (if (bt x0 x15) ≤ 122 then (colltable_named.l0 k x0 true x14 (wrap64 (x15 + 1))) else (if (bt x0 x15) ≥ 48 then (if (bt x0 x15) ≤ 57 then (colltable_named.l0 k x0 true x14 (wrap64 (x15 + 1))) else (colltable_named.l0 k x0 ((bt x0 x15) == 95) x14 (wrap64 (x15 + 1)))) else (colltable_named.l0 k x0 ((bt x0 x15) == 95) x14 (wrap64 (x15 + 1))))) else (if (bt x0 x15) ≥ 48 then (if (bt x0 x15) ≤ 57 then (colltable_named.l0 k x0 true x14 (wrap64 (x15 + 1))) else (colltable_named.l0 k x0 ((bt x0 x15) == 95) x14 (wrap64 (x15 + 1)))) else (colltable_named.l0 k x0 ((bt x0 x15) == 95) x14 (wrap64 (x15 + 1)))))) else (colltable_named.l0 k x0 false x14 (wrap64 (x15 + 1)))) else (none)) else (none)) else (some x3)
end
def colltable_named.f (k : Nat) (a0 : ByteArray) : Option (Bool) := if a0.toList = ([] : List UInt8) then (colltable_named.j0 k a0 false) else (colltable_named.j0 k a0 (decide ((a0.size : Int) ≤ 32)))
set_option maxHeartbeats 8000000 in
set_option maxRecDepth 100000 in
theorem colltable_named.calls (k : Nat) (a0 : ByteArray) (r : Bool) (w : World) (h : colltable_named.f k a0 = some r) :
  Calls Tryz.prog 31 #[.string a0] w fun e w' => e = .returned (.bool r) ∧ Drawn0 w w' := by
 have H : (if a0.toList = ([] : List UInt8) then (colltable_named.j0 k a0 false) else (colltable_named.j0 k a0 (decide ((a0.size : Int) ≤ 32)))) = some r := h
 clear h
 have HC2 := Aside0.mk H
 clear H
 go_enter Tryz.func31, Tryz.ntmps31
 go_upto_region 1 with (fail)
 go_cut [3] (fun v3 wc => ∃ (kq : Nat) (x3_1 : Bool), v3 = .bool x3_1 ∧ Aside0 (colltable_named.j0 kq a0 x3_1 = some r) ∧ Aside0 (kq ≤ k) ∧ Drawn0 w wc)
 case first =>
  have H := HC2.out
  clear HC2
  by_cases c3 : a0.toList = ([] : List UInt8)
  ·rw [if_pos c3] at H
   have c3b0 : (a0.toList == ([] : List UInt8)) = true := beq_iff_eq.mpr c3
   have c3b1 : (a0.toList != ([] : List UInt8)) = false := bne_eq_false_iff_eq.mpr c3
   clear c3
   (first | rw [c3b0] | (simp only [i64_w, i32_w]; rw [c3b0]) | skip)
   have H' := Aside0.mk H
   clear H
   go_wp2
   go_meet
   case rel => exact ⟨_, (false), (by first | rfl | (simp; done) | (simp [*]; done)), H', ⟨by first | omega | exact Nat.le_refl _⟩, by repeat (first | exact Drawn0.refl _ | apply Drawn0.step)⟩
  ·rw [if_neg c3] at H
   have c3b0 : (a0.toList == ([] : List UInt8)) = false := beq_eq_false_iff_ne.mpr c3
   have c3b1 : (a0.toList != ([] : List UInt8)) = true := bne_iff_ne.mpr c3
   (first | rw [c3b0] | (simp only [i64_w, i32_w]; rw [c3b0]) | skip)
   have H' := Aside0.mk H
   clear H
   go_wp2
   go_meet
   case rel => exact ⟨_, (decide ((a0.size : Int) ≤ 32)), (by first | rfl | (simp; done) | (simp [*]; done)), H', ⟨by first | omega | exact Nat.le_refl _⟩, by repeat (first | exact Drawn0.refl _ | apply Drawn0.step)⟩
 case rest =>
  clear HC2
  try clear p2
  try clear c3
  try clear c3b0
  try clear c3b1
  obtain ⟨kq, x3_1, rfl, HA, HJ1, ⟨mc1, rfl⟩⟩ := hcut
  cases kq with
  | zero => exact absurd HA.out (by simp [colltable_named.j0])
  | succ kj1 =>
   have H := HA.out
   clear HA
   simp only [colltable_named.j0] at H
   have H' := Aside0.mk H
   clear H
   go_wp2
   go_loopg [3, 15] kj1 (fun kq v3 v15 w' => ∃ (x3_2 : Bool) (x15_2 : Int), v3 = .bool x3_2 ∧ v15 = .int .i64 x15_2 ∧ Aside0 (colltable_named.l0 kq a0 x3_2 (a0.size : Int) x15_2 = some r) ∧ Aside0 (kq ≤ kj1) ∧ Drawn0 w w')
   case atStart => exact ⟨(x3_1), (0), (by first | rfl | (simp; done) | (simp [*]; done)), (by first | rfl | (simp; done) | (simp [*]; done)), H', ⟨Nat.le_refl _⟩, by repeat (first | exact Drawn0.refl _ | apply Drawn0.step)⟩
   case round =>
    clear H'
    try clear c1
    try clear p2
    try clear c3
    try clear c3b0
    try clear c3b1
    try clear p2
    obtain ⟨x3_2, x15_2, rfl, rfl, HA, HK2, ⟨m2, rfl⟩⟩ := hrel
    cases gk with
    | zero => exact absurd HA.out (by simp [colltable_named.l0])
    | succ k2 =>
     have H := HA.out
     clear HA
     simp only [colltable_named.l0] at H
     by_cases c4 : x15_2 < (a0.size : Int)
     ·rw [if_pos c4] at H
      have c4b0 : decide (x15_2 < (a0.size : Int)) = true := decide_eq_true c4
      clear c4
      by_cases c5 : 0 ≤ x15_2
      ·rw [if_pos c5] at H
       have c5b0 : decide (0 ≤ x15_2) = true := decide_eq_true c5
       clear c5
       by_cases c6 : x15_2 < (a0.size : Int)
       ·rw [if_pos c6] at H
        have c6b0 : decide (x15_2 < (a0.size : Int)) = true := decide_eq_true c6
        clear c6
        by_cases c8 : x3_2 = true
        ·subst c8
         have H1 : (if (bt a0 x15_2) ≥ 65 then (if (bt a0 x15_2) ≤ 90 then (colltable_named.l0 k2 a0 true (a0.size : Int) (wrap64 (x15_2 + 1))) else (if (bt a0 x15_2) ≥ 97 then (if (bt a0 x15_2) ≤ 122 then (colltable_named.l0 k2 a0 true (a0.size : Int) (wrap64 (x15_2 + 1))) else (if (bt a0 x15_2) ≥ 48 then (if (bt a0 x15_2) ≤ 57 then (colltable_named.l0 k2 a0 true (a0.size : Int) (wrap64 (x15_2 + 1))) else (colltable_named.l0 k2 a0 ((bt a0 x15_2) == 95) (a0.size : Int) (wrap64 (x15_2 + 1)))) else (colltable_named.l0 k2 a0 ((bt a0 x15_2) == 95) (a0.size : Int) (wrap64 (x15_2 + 1))))) else (if (bt a0 x15_2) ≥ 48 then (if (bt a0 x15_2) ≤ 57 then (colltable_named.l0 k2 a0 true (a0.size : Int) (wrap64 (x15_2 + 1))) else (colltable_named.l0 k2 a0 ((bt a0 x15_2) == 95) (a0.size : Int) (wrap64 (x15_2 + 1)))) else (colltable_named.l0 k2 a0 ((bt a0 x15_2) == 95) (a0.size : Int) (wrap64 (x15_2 + 1)))))) else (if (bt a0 x15_2) ≥ 97 then (if (bt a0 x15_2) ≤ 122 then (colltable_named.l0 k2 a0 true (a0.size : Int) (wrap64 (x15_2 + 1))) else (if (bt a0 x15_2) ≥ 48 then (if (bt a0 x15_2) ≤ 57 then (colltable_named.l0 k2 a0 true (a0.size : Int) (wrap64 (x15_2 + 1))) else (colltable_named.l0 k2 a0 ((bt a0 x15_2) == 95) (a0.size : Int) (wrap64 (x15_2 + 1)))) else (colltable_named.l0 k2 a0 ((bt a0 x15_2) == 95) (a0.size : Int) (wrap64 (x15_2 + 1))))) else (if (bt a0 x15_2) ≥ 48 then (if (bt a0 x15_2) ≤ 57 then (colltable_named.l0 k2 a0 true (a0.size : Int) (wrap64 (x15_2 + 1))) else (colltable_named.l0 k2 a0 ((bt a0 x15_2) == 95) (a0.size : Int) (wrap64 (x15_2 + 1)))) else (colltable_named.l0 k2 a0 ((bt a0 x15_2) == 95) (a0.size : Int) (wrap64 (x15_2 + 1)))))) = some r := by rw [if_pos rfl] at H; exact H
         clear H
         have H := H1
         clear H1
         by_cases c9 : (bt a0 x15_2) ≥ 65
         ·rw [if_pos c9] at H
          have c9b0 : decide (65 ≤ (bt a0 x15_2)) = true := decide_eq_true c9
          clear c9
          by_cases c10 : (bt a0 x15_2) ≤ 90
          ·rw [if_pos c10] at H
           have c10b0 : decide ((bt a0 x15_2) ≤ 90) = true := decide_eq_true c10
           clear c10
           have H' := Aside0.mk H
           clear H
           have p7 : 0 ≤ (x15_2 : Int) := of_decide_eq_true (by first | (with_reducible assumption) | assumption)
           have q7 : x15_2 < (a0.size : Int) := of_decide_eq_true (by first | (with_reducible assumption) | assumption)
           have hx7 := bt_at a0 x15_2
           replace p7 := eq_true p7
           replace q7 := eq_true q7
           go_wp2
           go_roundg k2
           case measure => have := HJ1.out; have := HK2.out; omega
           case rel => exact ⟨(true), (wrap64 (x15_2 + 1)), (by first | rfl | (simp; done) | (simp [*]; done)), (by first | rfl | (simp; done) | (simp [*]; done)), H', ⟨by have := HJ1.out; have := HK2.out; omega⟩, by repeat (first | exact Drawn0.refl _ | apply Drawn0.step)⟩
          ·rw [if_neg c10] at H
           have c10b0 : decide ((bt a0 x15_2) ≤ 90) = false := decide_eq_false c10
           clear c10
           by_cases c11 : (bt a0 x15_2) ≥ 97
           ·rw [if_pos c11] at H
            have c11b0 : decide (97 ≤ (bt a0 x15_2)) = true := decide_eq_true c11
            clear c11
            by_cases c12 : (bt a0 x15_2) ≤ 122
            ·rw [if_pos c12] at H
             have c12b0 : decide ((bt a0 x15_2) ≤ 122) = true := decide_eq_true c12
             clear c12
             have H' := Aside0.mk H
             clear H
             have p7 : 0 ≤ (x15_2 : Int) := of_decide_eq_true (by first | (with_reducible assumption) | assumption)
             have q7 : x15_2 < (a0.size : Int) := of_decide_eq_true (by first | (with_reducible assumption) | assumption)
             have hx7 := bt_at a0 x15_2
             replace p7 := eq_true p7
             replace q7 := eq_true q7
             go_wp2
             go_roundg k2
             case measure => have := HJ1.out; have := HK2.out; omega
             case rel => exact ⟨(true), (wrap64 (x15_2 + 1)), (by first | rfl | (simp; done) | (simp [*]; done)), (by first | rfl | (simp; done) | (simp [*]; done)), H', ⟨by have := HJ1.out; have := HK2.out; omega⟩, by repeat (first | exact Drawn0.refl _ | apply Drawn0.step)⟩
            ·rw [if_neg c12] at H
             have c12b0 : decide ((bt a0 x15_2) ≤ 122) = false := decide_eq_false c12
             clear c12
             by_cases c13 : (bt a0 x15_2) ≥ 48
             ·rw [if_pos c13] at H
              have c13b0 : decide (48 ≤ (bt a0 x15_2)) = true := decide_eq_true c13
              clear c13
              by_cases c14 : (bt a0 x15_2) ≤ 57
              ·rw [if_pos c14] at H
               have c14b0 : decide ((bt a0 x15_2) ≤ 57) = true := decide_eq_true c14
               clear c14
               have H' := Aside0.mk H
               clear H
               have p7 : 0 ≤ (x15_2 : Int) := of_decide_eq_true (by first | (with_reducible assumption) | assumption)
               have q7 : x15_2 < (a0.size : Int) := of_decide_eq_true (by first | (with_reducible assumption) | assumption)
               have hx7 := bt_at a0 x15_2
               replace p7 := eq_true p7
               replace q7 := eq_true q7
               go_wp2
               go_roundg k2
               case measure => have := HJ1.out; have := HK2.out; omega
               case rel => exact ⟨(true), (wrap64 (x15_2 + 1)), (by first | rfl | (simp; done) | (simp [*]; done)), (by first | rfl | (simp; done) | (simp [*]; done)), H', ⟨by have := HJ1.out; have := HK2.out; omega⟩, by repeat (first | exact Drawn0.refl _ | apply Drawn0.step)⟩
              ·rw [if_neg c14] at H
               have c14b0 : decide ((bt a0 x15_2) ≤ 57) = false := decide_eq_false c14
               clear c14
               have H' := Aside0.mk H
               clear H
               have p7 : 0 ≤ (x15_2 : Int) := of_decide_eq_true (by first | (with_reducible assumption) | assumption)
               have q7 : x15_2 < (a0.size : Int) := of_decide_eq_true (by first | (with_reducible assumption) | assumption)
               have hx7 := bt_at a0 x15_2
               replace p7 := eq_true p7
               replace q7 := eq_true q7
               go_wp2
               go_roundg k2
               case measure => have := HJ1.out; have := HK2.out; omega
               case rel => exact ⟨(((bt a0 x15_2) == 95)), (wrap64 (x15_2 + 1)), (by first | rfl | (simp; done) | (simp [*]; done)), (by first | rfl | (simp; done) | (simp [*]; done)), H', ⟨by have := HJ1.out; have := HK2.out; omega⟩, by repeat (first | exact Drawn0.refl _ | apply Drawn0.step)⟩
             ·rw [if_neg c13] at H
              have c13b0 : decide (48 ≤ (bt a0 x15_2)) = false := decide_eq_false c13
              clear c13
              have H' := Aside0.mk H
              clear H
              have p7 : 0 ≤ (x15_2 : Int) := of_decide_eq_true (by first | (with_reducible assumption) | assumption)
              have q7 : x15_2 < (a0.size : Int) := of_decide_eq_true (by first | (with_reducible assumption) | assumption)
              have hx7 := bt_at a0 x15_2
              replace p7 := eq_true p7
              replace q7 := eq_true q7
              go_wp2
              go_roundg k2
              case measure => have := HJ1.out; have := HK2.out; omega
              case rel => exact ⟨(((bt a0 x15_2) == 95)), (wrap64 (x15_2 + 1)), (by first | rfl | (simp; done) | (simp [*]; done)), (by first | rfl | (simp; done) | (simp [*]; done)), H', ⟨by have := HJ1.out; have := HK2.out; omega⟩, by repeat (first | exact Drawn0.refl _ | apply Drawn0.step)⟩
           ·rw [if_neg c11] at H
            have c11b0 : decide (97 ≤ (bt a0 x15_2)) = false := decide_eq_false c11
            clear c11
            by_cases c15 : (bt a0 x15_2) ≥ 48
            ·rw [if_pos c15] at H
             have c15b0 : decide (48 ≤ (bt a0 x15_2)) = true := decide_eq_true c15
             clear c15
             by_cases c16 : (bt a0 x15_2) ≤ 57
             ·rw [if_pos c16] at H
              have c16b0 : decide ((bt a0 x15_2) ≤ 57) = true := decide_eq_true c16
              clear c16
              have H' := Aside0.mk H
              clear H
              have p7 : 0 ≤ (x15_2 : Int) := of_decide_eq_true (by first | (with_reducible assumption) | assumption)
              have q7 : x15_2 < (a0.size : Int) := of_decide_eq_true (by first | (with_reducible assumption) | assumption)
              have hx7 := bt_at a0 x15_2
              replace p7 := eq_true p7
              replace q7 := eq_true q7
              go_wp2
              go_roundg k2
              case measure => have := HJ1.out; have := HK2.out; omega
              case rel => exact ⟨(true), (wrap64 (x15_2 + 1)), (by first | rfl | (simp; done) | (simp [*]; done)), (by first | rfl | (simp; done) | (simp [*]; done)), H', ⟨by have := HJ1.out; have := HK2.out; omega⟩, by repeat (first | exact Drawn0.refl _ | apply Drawn0.step)⟩
             ·rw [if_neg c16] at H
              have c16b0 : decide ((bt a0 x15_2) ≤ 57) = false := decide_eq_false c16
              clear c16
              have H' := Aside0.mk H
              clear H
              have p7 : 0 ≤ (x15_2 : Int) := of_decide_eq_true (by first | (with_reducible assumption) | assumption)
              have q7 : x15_2 < (a0.size : Int) := of_decide_eq_true (by first | (with_reducible assumption) | assumption)
              have hx7 := bt_at a0 x15_2
              replace p7 := eq_true p7
              replace q7 := eq_true q7
              go_wp2
              go_roundg k2
              case measure => have := HJ1.out; have := HK2.out; omega
              case rel => exact ⟨(((bt a0 x15_2) == 95)), (wrap64 (x15_2 + 1)), (by first | rfl | (simp; done) | (simp [*]; done)), (by first | rfl | (simp; done) | (simp [*]; done)), H', ⟨by have := HJ1.out; have := HK2.out; omega⟩, by repeat (first | exact Drawn0.refl _ | apply Drawn0.step)⟩
            ·rw [if_neg c15] at H
             have c15b0 : decide (48 ≤ (bt a0 x15_2)) = false := decide_eq_false c15
             clear c15
             have H' := Aside0.mk H
             clear H
             have p7 : 0 ≤ (x15_2 : Int) := of_decide_eq_true (by first | (with_reducible assumption) | assumption)
             have q7 : x15_2 < (a0.size : Int) := of_decide_eq_true (by first | (with_reducible assumption) | assumption)
             have hx7 := bt_at a0 x15_2
             replace p7 := eq_true p7
             replace q7 := eq_true q7
             go_wp2
             go_roundg k2
             case measure => have := HJ1.out; have := HK2.out; omega
             case rel => exact ⟨(((bt a0 x15_2) == 95)), (wrap64 (x15_2 + 1)), (by first | rfl | (simp; done) | (simp [*]; done)), (by first | rfl | (simp; done) | (simp [*]; done)), H', ⟨by have := HJ1.out; have := HK2.out; omega⟩, by repeat (first | exact Drawn0.refl _ | apply Drawn0.step)⟩
         ·rw [if_neg c9] at H
          have c9b0 : decide (65 ≤ (bt a0 x15_2)) = false := decide_eq_false c9
          clear c9
          by_cases c17 : (bt a0 x15_2) ≥ 97
          ·rw [if_pos c17] at H
           have c17b0 : decide (97 ≤ (bt a0 x15_2)) = true := decide_eq_true c17
           clear c17
           by_cases c18 : (bt a0 x15_2) ≤ 122
           ·rw [if_pos c18] at H
            have c18b0 : decide ((bt a0 x15_2) ≤ 122) = true := decide_eq_true c18
            clear c18
            have H' := Aside0.mk H
            clear H
            have p7 : 0 ≤ (x15_2 : Int) := of_decide_eq_true (by first | (with_reducible assumption) | assumption)
            have q7 : x15_2 < (a0.size : Int) := of_decide_eq_true (by first | (with_reducible assumption) | assumption)
            have hx7 := bt_at a0 x15_2
            replace p7 := eq_true p7
            replace q7 := eq_true q7
            go_wp2
            go_roundg k2
            case measure => have := HJ1.out; have := HK2.out; omega
            case rel => exact ⟨(true), (wrap64 (x15_2 + 1)), (by first | rfl | (simp; done) | (simp [*]; done)), (by first | rfl | (simp; done) | (simp [*]; done)), H', ⟨by have := HJ1.out; have := HK2.out; omega⟩, by repeat (first | exact Drawn0.refl _ | apply Drawn0.step)⟩
           ·rw [if_neg c18] at H
            have c18b0 : decide ((bt a0 x15_2) ≤ 122) = false := decide_eq_false c18
            clear c18
            by_cases c19 : (bt a0 x15_2) ≥ 48
            ·rw [if_pos c19] at H
             have c19b0 : decide (48 ≤ (bt a0 x15_2)) = true := decide_eq_true c19
             clear c19
             by_cases c20 : (bt a0 x15_2) ≤ 57
             ·rw [if_pos c20] at H
              have c20b0 : decide ((bt a0 x15_2) ≤ 57) = true := decide_eq_true c20
              clear c20
              have H' := Aside0.mk H
              clear H
              have p7 : 0 ≤ (x15_2 : Int) := of_decide_eq_true (by first | (with_reducible assumption) | assumption)
              have q7 : x15_2 < (a0.size : Int) := of_decide_eq_true (by first | (with_reducible assumption) | assumption)
              have hx7 := bt_at a0 x15_2
              replace p7 := eq_true p7
              replace q7 := eq_true q7
              go_wp2
              go_roundg k2
              case measure => have := HJ1.out; have := HK2.out; omega
              case rel => exact ⟨(true), (wrap64 (x15_2 + 1)), (by first | rfl | (simp; done) | (simp [*]; done)), (by first | rfl | (simp; done) | (simp [*]; done)), H', ⟨by have := HJ1.out; have := HK2.out; omega⟩, by repeat (first | exact Drawn0.refl _ | apply Drawn0.step)⟩
             ·rw [if_neg c20] at H
              have c20b0 : decide ((bt a0 x15_2) ≤ 57) = false := decide_eq_false c20
              clear c20
              have H' := Aside0.mk H
              clear H
              have p7 : 0 ≤ (x15_2 : Int) := of_decide_eq_true (by first | (with_reducible assumption) | assumption)
              have q7 : x15_2 < (a0.size : Int) := of_decide_eq_true (by first | (with_reducible assumption) | assumption)
              have hx7 := bt_at a0 x15_2
              replace p7 := eq_true p7
              replace q7 := eq_true q7
              go_wp2
              go_roundg k2
              case measure => have := HJ1.out; have := HK2.out; omega
              case rel => exact ⟨(((bt a0 x15_2) == 95)), (wrap64 (x15_2 + 1)), (by first | rfl | (simp; done) | (simp [*]; done)), (by first | rfl | (simp; done) | (simp [*]; done)), H', ⟨by have := HJ1.out; have := HK2.out; omega⟩, by repeat (first | exact Drawn0.refl _ | apply Drawn0.step)⟩
            ·rw [if_neg c19] at H
             have c19b0 : decide (48 ≤ (bt a0 x15_2)) = false := decide_eq_false c19
             clear c19
             have H' := Aside0.mk H
             clear H
             have p7 : 0 ≤ (x15_2 : Int) := of_decide_eq_true (by first | (with_reducible assumption) | assumption)
             have q7 : x15_2 < (a0.size : Int) := of_decide_eq_true (by first | (with_reducible assumption) | assumption)
             have hx7 := bt_at a0 x15_2
             replace p7 := eq_true p7
             replace q7 := eq_true q7
             go_wp2
             go_roundg k2
             case measure => have := HJ1.out; have := HK2.out; omega
             case rel => exact ⟨(((bt a0 x15_2) == 95)), (wrap64 (x15_2 + 1)), (by first | rfl | (simp; done) | (simp [*]; done)), (by first | rfl | (simp; done) | (simp [*]; done)), H', ⟨by have := HJ1.out; have := HK2.out; omega⟩, by repeat (first | exact Drawn0.refl _ | apply Drawn0.step)⟩
          ·rw [if_neg c17] at H
           have c17b0 : decide (97 ≤ (bt a0 x15_2)) = false := decide_eq_false c17
           clear c17
           by_cases c21 : (bt a0 x15_2) ≥ 48
           ·rw [if_pos c21] at H
            have c21b0 : decide (48 ≤ (bt a0 x15_2)) = true := decide_eq_true c21
            clear c21
            by_cases c22 : (bt a0 x15_2) ≤ 57
            ·rw [if_pos c22] at H
             have c22b0 : decide ((bt a0 x15_2) ≤ 57) = true := decide_eq_true c22
             clear c22
             have H' := Aside0.mk H
             clear H
             have p7 : 0 ≤ (x15_2 : Int) := of_decide_eq_true (by first | (with_reducible assumption) | assumption)
             have q7 : x15_2 < (a0.size : Int) := of_decide_eq_true (by first | (with_reducible assumption) | assumption)
             have hx7 := bt_at a0 x15_2
             replace p7 := eq_true p7
             replace q7 := eq_true q7
             go_wp2
             go_roundg k2
             case measure => have := HJ1.out; have := HK2.out; omega
             case rel => exact ⟨(true), (wrap64 (x15_2 + 1)), (by first | rfl | (simp; done) | (simp [*]; done)), (by first | rfl | (simp; done) | (simp [*]; done)), H', ⟨by have := HJ1.out; have := HK2.out; omega⟩, by repeat (first | exact Drawn0.refl _ | apply Drawn0.step)⟩
            ·rw [if_neg c22] at H
             have c22b0 : decide ((bt a0 x15_2) ≤ 57) = false := decide_eq_false c22
             clear c22
             have H' := Aside0.mk H
             clear H
             have p7 : 0 ≤ (x15_2 : Int) := of_decide_eq_true (by first | (with_reducible assumption) | assumption)
             have q7 : x15_2 < (a0.size : Int) := of_decide_eq_true (by first | (with_reducible assumption) | assumption)
             have hx7 := bt_at a0 x15_2
             replace p7 := eq_true p7
             replace q7 := eq_true q7
             go_wp2
             go_roundg k2
             case measure => have := HJ1.out; have := HK2.out; omega
             case rel => exact ⟨(((bt a0 x15_2) == 95)), (wrap64 (x15_2 + 1)), (by first | rfl | (simp; done) | (simp [*]; done)), (by first | rfl | (simp; done) | (simp [*]; done)), H', ⟨by have := HJ1.out; have := HK2.out; omega⟩, by repeat (first | exact Drawn0.refl _ | apply Drawn0.step)⟩
           ·rw [if_neg c21] at H
            have c21b0 : decide (48 ≤ (bt a0 x15_2)) = false := decide_eq_false c21
            clear c21
            have H' := Aside0.mk H
            clear H
            have p7 : 0 ≤ (x15_2 : Int) := of_decide_eq_true (by first | (with_reducible assumption) | assumption)
            have q7 : x15_2 < (a0.size : Int) := of_decide_eq_true (by first | (with_reducible assumption) | assumption)
            have hx7 := bt_at a0 x15_2
            replace p7 := eq_true p7
            replace q7 := eq_true q7
            go_wp2
            go_roundg k2
            case measure => have := HJ1.out; have := HK2.out; omega
            case rel => exact ⟨(((bt a0 x15_2) == 95)), (wrap64 (x15_2 + 1)), (by first | rfl | (simp; done) | (simp [*]; done)), (by first | rfl | (simp; done) | (simp [*]; done)), H', ⟨by have := HJ1.out; have := HK2.out; omega⟩, by repeat (first | exact Drawn0.refl _ | apply Drawn0.step)⟩
        ·replace c8 := Bool.eq_false_iff.mpr c8
         subst c8
         have H1 : (colltable_named.l0 k2 a0 false (a0.size : Int) (wrap64 (x15_2 + 1))) = some r := by rw [if_neg (show ¬ (false = true) by decide)] at H; exact H
         clear H
         have H := H1
         clear H1
         have H' := Aside0.mk H
         clear H
         have p7 : 0 ≤ (x15_2 : Int) := of_decide_eq_true (by first | (with_reducible assumption) | assumption)
         have q7 : x15_2 < (a0.size : Int) := of_decide_eq_true (by first | (with_reducible assumption) | assumption)
         have hx7 := bt_at a0 x15_2
         replace p7 := eq_true p7
         replace q7 := eq_true q7
         go_wp2
         go_roundg k2
         case measure => have := HJ1.out; have := HK2.out; omega
         case rel => exact ⟨(false), (wrap64 (x15_2 + 1)), (by first | rfl | (simp; done) | (simp [*]; done)), (by first | rfl | (simp; done) | (simp [*]; done)), H', ⟨by have := HJ1.out; have := HK2.out; omega⟩, by repeat (first | exact Drawn0.refl _ | apply Drawn0.step)⟩
       ·rw [if_neg c6] at H
        exact absurd H (by simp)
      ·rw [if_neg c5] at H
       exact absurd H (by simp)
     ·rw [if_neg c4] at H
      have c4b0 : decide (x15_2 < (a0.size : Int)) = false := decide_eq_false c4
      clear c4
      obtain rfl := Option.some.inj H
      go_wp2
      go_ret
      exact ⟨by first | rfl | (simp; done) | (simp [*]; done), by repeat (first | exact Drawn0.refl _ | apply Drawn0.step)⟩
end Go.Proofs.YtfcpebjjcijgcaaGreatDoor.G
-- by hand: lemmas
namespace Go.Proofs.YtfcpebjjcijgcaaGreatDoor.G
open Go.RowKit Go.Proofs.YtfcpebjjcijgcaaGreatDoorW.PrintWords Go.Proofs.YtfcpebjjcijgcaaGreatDoorW.PrintLast Go.Proofs.YtfcpebjjcijgcaaGreatDoorW.PrintMore
attribute [local go_sem] max2_int min2_int max_two min_two max_three min_three max_four min_four   -- for this text's walks alone
set_option linter.unusedVariables false
set_option linter.unusedSimpArgs false
theorem named_step (s : ByteArray) (k i : Nat) (b : Bool) (hi : i < s.size) (hs : s.size ≤ 9223372036854775807) : ∃ c, s.data.toList[i]? = some c ∧ colltable_named.l0 (k + 1) s b (s.size : Int) (i : Int) = colltable_named.l0 k s (b && okch c) (s.size : Int) ((i + 1 : Nat) : Int) := by
  obtain ⟨c, hc, hb⟩ := bt_get s hi
  refine ⟨c, hc, ?_⟩
  simp only [colltable_named.l0]
  rw [if_pos (by omega), if_pos (by omega), if_pos (by omega), hb, wrap_up (by omega) (by omega)]
  have hr := okch_iff c
  have e1 : (i : Int) + 1 = ((i + 1 : Nat) : Int) := by omega
  rw [e1]
  have go : ∀ V : Bool, (V = true ↔ okch c = true) → colltable_named.l0 k s V (s.size : Int) ((i + 1 : Nat) : Int) = colltable_named.l0 k s (true && okch c) (s.size : Int) ((i + 1 : Nat) : Int) := by
    intro V hV
    rw [show (true && okch c) = V from by rw [Bool.true_and]; exact (Bool.eq_iff_iff.2 hV).symm]
  cases b with
  | false => rw [if_neg (by simp)]; simp
  | true =>
    rw [if_pos rfl]
    repeat' split
    all_goals (refine go _ ?_; rw [hr]; simp; try omega)
theorem named_loop (s : ByteArray) (hs : s.size ≤ 9223372036854775807) (d : Nat) : ∀ (k i : Nat) (b : Bool), i ≤ s.size → s.size - i = d → d < k → colltable_named.l0 k s b (s.size : Int) (i : Int) = some (b && (s.data.toList.drop i).all okch) := by
  induction d with
  | zero =>
    intro k i b hi hd hk
    obtain ⟨k, rfl⟩ : ∃ m, k = m + 1 := ⟨k - 1, by omega⟩
    simp only [colltable_named.l0]
    rw [if_neg (by omega), List.drop_of_length_le (by rw [data_length]; omega)]
    simp
  | succ d ih =>
    intro k i b hi hd hk
    obtain ⟨k, rfl⟩ : ∃ m, k = m + 1 := ⟨k - 1, by omega⟩
    obtain ⟨c, hc, hstep⟩ := named_step s k i b (by omega) hs
    rw [hstep, ih k (i + 1) _ (by omega) (by omega) (by omega)]
    have hl : i < s.data.toList.length := by rw [data_length]; omega
    rw [List.drop_eq_getElem_cons hl]
    rw [List.getElem?_eq_getElem hl] at hc
    rw [Option.some.inj hc]
    simp [Bool.and_assoc]
/-- The program's 'named' comes to its answer. -/
theorem named_ev (s : ByteArray) (hs : s.size ≤ 9223372036854775807) : Ev (fun k => colltable_named.f k s) (nameP s) := by
  refine ⟨s.size + 3, fun k hk => ?_⟩
  obtain ⟨k, rfl⟩ : ∃ m, k = m + 1 := ⟨k - 1, by omega⟩
  have h := fun b => named_loop s hs s.size k 0 b (by omega) (by omega) (by omega)
  show colltable_named.f (k + 1) s = _
  unfold colltable_named.f
  rw [Lib.toList_data]
  by_cases he : s.data.toList = []
  · rw [if_pos he]
    simp only [colltable_named.j0]
    have h' := h false
    rw [Int.natCast_zero] at h'
    rw [h']
    have h0 : s.size = 0 := by rw [← data_length, he]; rfl
    simp [nameP, h0]
  · rw [if_neg he]
    simp only [colltable_named.j0]
    have h' := h (decide ((s.size : Int) ≤ 32))
    rw [Int.natCast_zero] at h'
    rw [h', List.drop_zero]
    have h1 : 1 ≤ s.size := by
      rw [← data_length]
      exact List.length_pos_iff.2 he
    congr 1
    unfold nameP
    rw [show decide ((s.size : Int) ≤ 32) = decide (s.size ≤ 32) from by rw [Bool.eq_iff_iff]; simp; omega]
    simp [h1]
end Go.Proofs.YtfcpebjjcijgcaaGreatDoor.G
-- unicodetext/colltable.ofGroups: by hand
namespace Go.Proofs.YtfcpebjjcijgcaaGreatDoor.G
open Go.RowKit Go.Proofs.YtfcpebjjcijgcaaGreatDoorW.PrintWords Go.Proofs.YtfcpebjjcijgcaaGreatDoorW.PrintLast Go.Proofs.YtfcpebjjcijgcaaGreatDoorW.PrintMore
attribute [local go_sem] max2_int min2_int max_two min_two max_three min_three max_four min_four   -- for this text's walks alone
set_option linter.unusedVariables false
set_option linter.unusedSimpArgs false
-- BY HAND: function 17 (colltable_ofGroups)
theorem strK : Maps.Keyed Tryz.prog 9 := Maps.string_keyed Tryz.underlying9
theorem zero_bool (w : World) : (zeroValue 4).run Tryz.prog w = .ok (.bool false) w := by kernel_rfl
/-- Groups that are in a row up to x. -/
def rowTo (l : List S43) (x : Int) : Prop := ∀ i : Int, 1 ≤ i → i < x → (rd_T43 l i).f1 = wrap64 ((rd_T43 l (i - 1)).f2 + 1)
theorem inRow_iff : ∀ (l : List S43), inRow l = true ↔ ∀ i : Nat, i + 1 < l.length → (l.getD (i + 1) z43).f1 = wrap64 ((l.getD i z43).f2 + 1)
  | [] => by simp [inRow]
  | [_] => by simp [inRow]
  | a :: b :: l => by
    have ih := inRow_iff (b :: l)
    simp only [inRow, Bool.and_eq_true, decide_eq_true_eq, ih]
    constructor
    · rintro ⟨h0, h⟩ i hi
      cases i with
      | zero => simpa using h0
      | succ i => simpa using h i (by simpa using hi)
    · intro h
      refine ⟨by simpa using h 0 (by simp), fun i hi => ?_⟩
      simpa using h (i + 1) (by simpa using hi)
theorem inRow_of (l : List S43) (h : rowTo l (l.length : Int)) : inRow l = true := by
  rw [inRow_iff]
  intro i hi
  have := h ((i + 1 : Nat) : Int) (by omega) (by omega)
  unfold rd_T43 at this
  rw [show (((i + 1 : Nat) : Int)).toNat = i + 1 by omega, show (((i + 1 : Nat) : Int) - 1).toNat = i by omega] at this
  exact this
theorem inRow_not (l : List S43) (x : Int) (h0 : 1 ≤ x) (h1 : x < (l.length : Int)) (h : ¬ (rd_T43 l x).f1 = wrap64 ((rd_T43 l (x - 1)).f2 + 1)) : inRow l = false := by
  cases hc : inRow l with
  | false => rfl
  | true =>
    rw [inRow_iff] at hc
    have := hc (x.toNat - 1) (by omega)
    refine absurd ?_ h
    unfold rd_T43
    rw [show x.toNat = x.toNat - 1 + 1 by omega, show (x - 1).toNat = x.toNat - 1 by omega]
    exact this
theorem any_at {l : List S43} {p : S43 → Bool} {x : Int} (h0 : 0 ≤ x) (h1 : x < (l.length : Int)) (h : p (rd_T43 l x) = true) : l.any p = true := List.any_eq_true.2 ⟨_, rd_mem h0 h1, h⟩
theorem any_none {l : List S43} {p : S43 → Bool} (h : ∀ x : Int, 0 ≤ x → x < (l.length : Int) → p (rd_T43 l x) = false) : l.any p = false := by
  cases hc : l.any p with
  | false => rfl
  | true =>
    obtain ⟨g, hg, hp⟩ := List.any_eq_true.1 hc
    obtain ⟨i, hi, rfl⟩ := List.getElem_of_mem hg
    have := h (i : Int) (by omega) (by omega)
    unfold rd_T43 at this
    rw [Int.toNat_natCast, List.getD_eq_getElem?_getD, List.getElem?_eq_getElem hi] at this
    simp only [Option.getD_some] at this
    rw [hp] at this
    cases this
def colltable_ofGroups.f (l0_0 : List (S50)) (l0_1 : List (S43)) (a0_2 : Int) (a0_3 : Int) (a0_4 : Int) : Option (Int) := if fits l0_1 = true then some (grErr l0_1 a0_2) else none
set_option maxHeartbeats 1000000 in
theorem colltable_ofGroups.calls (A0_0 : Option Addr) (c0_0 : Nat) (l0_0 : List (S50)) (A0_1 : Option Addr) (c0_1 : Nat) (l0_1 : List (S43)) (a0_2 : Int) (a0_3 : Int) (a0_4 : Int) (r : Int) (w : World) (hr0_0 : Kd.C k50 w A0_0 l0_0.length l0_0) (hc0_0 : l0_0.length ≤ c0_0) (hr0_1 : Kd.C k43 w A0_1 l0_1.length l0_1) (hc0_1 : l0_1.length ≤ c0_1) (h : colltable_ofGroups.f l0_0 l0_1 a0_2 a0_3 a0_4 = some r) :
    Calls Tryz.prog 17 #[.agg #[.slice A0_0 l0_0.length c0_0, .slice A0_1 l0_1.length c0_1, .int .i64 a0_2, .int .i64 a0_3, .int .i64 a0_4]] w fun e w' => e = .returned (.int .i64 r) ∧ Below w.heap.size w w' := by
  unfold colltable_ofGroups.f at h
  split at h
  case isFalse => cases h
  rename_i hf
  have HF := Aside0.mk hf
  have HRES := Aside0.mk (Option.some.inj h)
  have HR0_1 := Aside0.mk hr0_1
  have HC0_1 := Aside0.mk hc0_1
  clear hr0_1 hc0_1 hr0_0 hc0_0 hf h
  have hmm := @run_makeMap Tryz.prog
  go_enter Tryz.func17, Tryz.ntmps17
  go_wp2
  go_loopg [4, 14] l0_1.length (fun g v4 v14 w' => ∃ (x : Int), v4 = .bool (dupG (l0_1.take x.toNat)) ∧ v14 = .int .i64 x ∧ Aside0 (g = l0_1.length - x.toNat ∧ 0 ≤ x ∧ x ≤ l0_1.length ∧ ∀ i, 0 ≤ i → i < x → nameP (rd_T43 l0_1 i).f0 = true) ∧ Aside0 (MapV Tryz.prog 9 w' (w.heap.size + 1) x.toNat (namesF (l0_1.take x.toNat) (.bool true))) ∧ Aside0 (w'.heap[w.heap.size]? = some (.cells #[.slice A0_0 l0_0.length c0_0, .slice A0_1 l0_1.length c0_1, .int .i64 a0_2, .int .i64 a0_3, .int .i64 a0_4] 25 (0, 0))) ∧ Aside0 (Below w.heap.size w w'))
  case atStart =>
    refine ⟨0, rfl, rfl, ⟨by simp, by omega, by omega, fun i h1 h2 => by omega⟩, ⟨?_⟩, ⟨?_⟩, ⟨below_alloc (below_alloc (Below.refl _ _) _) _⟩⟩
    · have h := MapV.made (w.alloc (.cells #[.slice A0_0 l0_0.length c0_0, .slice A0_1 l0_1.length c0_1, .int .i64 a0_2, .int .i64 a0_3, .int .i64 a0_4] 25)) Tryz.prog 9
      rw [show (w.alloc (.cells #[.slice A0_0 l0_0.length c0_0, .slice A0_1 l0_1.length c0_1, .int .i64 a0_2, .int .i64 a0_3, .int .i64 a0_4] 25)).heap.size = w.heap.size + 1 by simp] at h
      refine h.congr (fun k _ => ?_)
      rw [show List.take (0 : Int).toNat l0_1 = [] from rfl, namesF_nil]
    · exact blk_alloc (blk_new w _) _
  case round =>
    obtain ⟨x, rfl, rfl, HG, HM, HBK, HB⟩ := hrel
    have h0 : 0 ≤ x := HG.out.2.1
    have hln := fits_len HF.out
    by_cases hlt : x < (l0_1.length : Int)
    · obtain ⟨ad, e, hx0, hx1, hx2⟩ := at_T43 HR0_1.out x h0 hlt
      cases e
      replace hx0 := pw_cell_below HB.out hx0
      replace hx1 := pw_cell_below HB.out hx1
      replace hx2 := pw_cell_below HB.out hx2
      have hs := fits_size HF.out (rd_mem h0 hlt)
      obtain ⟨k, hk⟩ := (named_ev _ hs).rounds
      have htk := Aside0.mk (take_rd h0 hlt)
      have HNB := Aside0.mk (any_at (l := l0_1) (p := fun g => !nameP g.f0) h0 hlt)
      obtain ⟨gx, hgx⟩ : ∃ gx, rd_T43 l0_1 x = gx := ⟨_, rfl⟩
      have HGX := Aside0.mk hgx
      rw [hgx] at hx0 hx1 hx2 hs hk htk HNB
      clear hgx
      have hkey := Aside0.mk (keyOf_sk (P := Tryz.prog) Tryz.underlying9 (s := gx.f0) (by unfold maxLen; omega))
      obtain ⟨b, hb⟩ : ∃ b, nameP gx.f0 = b := ⟨_, rfl⟩
      rw [hb] at hk HNB
      have HNM := Aside0.mk hb
      have HKB := Aside0.mk hk
      obtain ⟨tw, htw⟩ : ∃ tw, dupG (l0_1.take x.toNat) = tw := ⟨_, rfl⟩
      rw [htw]
      have HTW := Aside0.mk htw
      have hxm : x.toNat < maxLen := by unfold maxLen; omega
      clear hk hs hb htw
      go_wp2_with fail
      refine (colltable_named.calls k gx.f0 b _ HKB.out).mono ?_
      rintro e w' ⟨rfl, ⟨nd, rfl⟩⟩
      cases b with
      | false =>
        go_wp2
        go_ret
        refine ⟨?_, pw_below_drewN (below_alloc HB.out _) _⟩
        rw [← HRES.out]
        unfold grErr
        rw [if_pos (HNB.out rfl)]
        rfl
      | true =>
        have HM' : MapV Tryz.prog 9 ((wr.alloc (Obj.cells #[Value.string gx.f0, Value.int IntKind.i64 gx.f1, Value.int IntKind.i64 gx.f2] 43)).drewN nd) (w.heap.size + 1) x.toNat (namesF (l0_1.take x.toNat) (.bool true)) := (HM.out.alloc _).drewN _
        have HB' := Aside0.mk (pw_below_drewN (below_alloc HB.out (Obj.cells #[Value.string gx.f0, Value.int IntKind.i64 gx.f1, Value.int IntKind.i64 gx.f2] 43)) nd)
        have HBK' := Aside0.mk (blk_drewN (blk_alloc HBK.out (Obj.cells #[Value.string gx.f0, Value.int IntKind.i64 gx.f1, Value.int IntKind.i64 gx.f2] 43)) nd)
        have HDN := Aside0.mk (dupG_snoc (l0_1.take x.toNat) gx)
        have fin : ∀ w1 : World, MapV Tryz.prog 9 w1 (w.heap.size + 1) (x.toNat + 1) (upd (namesF (l0_1.take x.toNat) (.bool true)) (sk gx.f0) (.bool true)) → ((wr.alloc (Obj.cells #[Value.string gx.f0, Value.int IntKind.i64 gx.f1, Value.int IntKind.i64 gx.f2] 43)).drewN nd).grownBy w1 (some (w.heap.size + 1)) →
            (∀ i, 0 ≤ i → i < x + 1 → nameP (rd_T43 l0_1 i).f0 = true) ∧ MapV Tryz.prog 9 w1 (w.heap.size + 1) (x + 1).toNat (namesF (l0_1.take (x + 1).toNat) (.bool true)) ∧ w1.heap[w.heap.size]? = some (.cells #[.slice A0_0 l0_0.length c0_0, .slice (some ad) l0_1.length c0_1, .int .i64 a0_2, .int .i64 a0_3, .int .i64 a0_4] 25 (0, 0)) ∧ Below w.heap.size w w1 := by
          intro w1 hm hg
          refine ⟨fun i h1 h2 => ?_, ?_, ?_, ?_⟩
          · rcases Int.lt_or_eq_of_le (show i ≤ x by omega) with h | h
            · exact HG.out.2.2.2 i h1 h
            · rw [h, HGX.out]; exact HNM.out
          · rw [htk.out, ← namesF_snoc, show (x + 1).toNat = x.toNat + 1 by omega]; exact hm
          · exact (hg.block _ (blk_lt HBK'.out) (by simp)).trans HBK'.out
          · exact HB'.out.grown hg (Nat.le_of_lt (blk_lt HBK'.out)) (fun j hj => by injection hj with hj; omega)
        have FIN := Aside0.mk fin
        have hwr := wrap_up h0 (show x < 9223372036854775807 by omega)
        have HWR := Aside0.mk hwr
        clear fin hwr
        cases tw with
        | true =>
          go_wp2_with (at_mapUpdate; refine wpl_put rfl _ _ _ 73 rfl 4 strK Tryz.underlying73 rfl HM' hxm _ _ (sk gx.f0) rfl rfl hkey.out ?_; intro w1 hm1 hg1; have HMU := Aside0.mk (FIN.out w1 hm1 hg1); clear hm1 hg1)
          go_roundg (l0_1.length - (x + 1).toNat)
          case measure => have := HG.out; omega
          case rel =>
            refine ⟨x + 1, ?_, by rw [← HWR.out], ⟨rfl, by omega, by omega, HMU.out.1⟩, ⟨HMU.out.2.1⟩, ⟨HMU.out.2.2.1⟩, ⟨HMU.out.2.2.2⟩⟩
            rw [htk.out, HDN.out, HTW.out]; rfl
        | false =>
          have hbb : (namesF (l0_1.take x.toNat) (.bool true) (sk gx.f0)).getD (.bool false) = .bool (memB gx.f0 (nms (l0_1.take x.toNat))) := by
            rw [namesF_mem]
            split
            · rename_i h; rw [h]; rfl
            · rename_i h; rw [Bool.not_eq_true] at h; rw [h]; rfl
          obtain ⟨bb, hbb2⟩ : ∃ bb, memB gx.f0 (nms (l0_1.take x.toNat)) = bb := ⟨_, rfl⟩
          rw [hbb2] at hbb
          have HBB := Aside0.mk hbb
          have HBB2 := Aside0.mk hbb2
          clear hbb hbb2
          go_wp2_with (first | (at_mapUpdate; refine wpl_put rfl _ _ _ 73 rfl 4 strK Tryz.underlying73 rfl HM' hxm _ _ (sk gx.f0) rfl rfl hkey.out ?_; intro w1 hm1 hg1; have HMU := Aside0.mk (FIN.out w1 hm1 hg1); clear hm1 hg1) | (at_lookup; (try (refine gate_guard (by rfl) ?_; dsimp only)); refine wpl_look rfl _ _ 73 rfl 4 strK Tryz.underlying73 (zero_bool _) rfl HM' _ (sk gx.f0) rfl hkey.out _ HBB.out ?_))
          go_roundg (l0_1.length - (x + 1).toNat)
          case measure => have := HG.out; omega
          case rel =>
            refine ⟨x + 1, ?_, by rw [← HWR.out], ⟨rfl, by omega, by omega, HMU.out.1⟩, ⟨HMU.out.2.1⟩, ⟨HMU.out.2.2.1⟩, ⟨HMU.out.2.2.2⟩⟩
            rw [htk.out, HDN.out, HTW.out, HBB2.out]; rfl
    · have hxe : x.toNat = l0_1.length := by have := HG.out; omega
      have HNO : Aside0 (l0_1.any (fun g => !nameP g.f0) = false) := ⟨any_none (fun i h1 h2 => by have := HG.out.2.2.2 i h1 (by omega); simp [this])⟩
      have hca : wr.cell? ⟨w.heap.size, 1, none⟩ = some (.slice A0_1 l0_1.length c0_1) := (blk_cell HBK.out 1).trans rfl
      rw [hxe, List.take_length]
      obtain ⟨tw, htw⟩ : ∃ tw, dupG l0_1 = tw := ⟨_, rfl⟩
      rw [htw]
      have HTW := Aside0.mk htw
      clear htw hxe
      cases tw with
      | true =>
        go_wp2
        go_ret
        refine ⟨?_, HB.out⟩
        rw [← HRES.out]
        unfold grErr
        rw [HNO.out, HTW.out]
        rfl
      | false =>
        go_wp2
        go_loopg [37] l0_1.length (fun g v37 w' => ∃ (x : Int), v37 = .int .i64 x ∧ Aside0 (g = l0_1.length - x.toNat ∧ 0 ≤ x ∧ x ≤ l0_1.length ∧ ∀ i, 0 ≤ i → i < x → badR a0_2 (rd_T43 l0_1 i) = false) ∧ Aside0 (w'.heap[w.heap.size]? = some (.cells #[.slice A0_0 l0_0.length c0_0, .slice A0_1 l0_1.length c0_1, .int .i64 a0_2, .int .i64 a0_3, .int .i64 a0_4] 25 (0, 0))) ∧ Aside0 (Below w.heap.size w w'))
        case atStart => exact ⟨0, rfl, ⟨by simp, by omega, by omega, fun i h1 h2 => by omega⟩, ⟨HBK.out⟩, ⟨HB.out⟩⟩
        clear HBK HB HM HG hca h0 hlt
        case round =>
          obtain ⟨x, rfl, HG, HBK, HB⟩ := hrel
          have h0 : 0 ≤ x := HG.out.2.1
          by_cases hlt : x < (l0_1.length : Int)
          · obtain ⟨ad, e, hx0, hx1, hx2⟩ := at_T43 HR0_1.out x h0 hlt
            cases e
            replace hx0 := pw_cell_below HB.out hx0
            replace hx1 := pw_cell_below HB.out hx1
            replace hx2 := pw_cell_below HB.out hx2
            have HBA := Aside0.mk (any_at (l := l0_1) (p := badR a0_2) h0 hlt)
            obtain ⟨gx, hgx⟩ : ∃ gx, rd_T43 l0_1 x = gx := ⟨_, rfl⟩
            have HGX := Aside0.mk hgx
            rw [hgx] at hx0 hx1 hx2 HBA
            clear hgx
            have hcb : (wr.alloc (Obj.cells #[Value.string gx.f0, Value.int IntKind.i64 gx.f1, Value.int IntKind.i64 gx.f2] 43)).cell? ⟨w.heap.size, 2, none⟩ = some (.int .i64 a0_2) := (blk_cell (blk_alloc HBK.out _) 2).trans rfl
            obtain ⟨b, hb⟩ : ∃ b, badR a0_2 gx = b := ⟨_, rfl⟩
            have HWR := Aside0.mk (wrap_up h0 (show x < 9223372036854775807 by omega))
            have HBX := Aside0.mk hb
            have fail : badR a0_2 gx = true → grErr l0_1 a0_2 = 1 := fun hb => by
              unfold grErr
              rw [HNO.out, HTW.out, if_neg (by simp), if_neg (by simp), if_pos (HBA.out hb)]
            have HFA := Aside0.mk fail
            clear hb fail
            by_cases c1 : gx.f1 < 1
            · have c1' : decide (gx.f1 < 1) = true := decide_eq_true c1
              go_wp2
              go_ret
              exact ⟨by rw [← HRES.out, HFA.out (by simp [badR, c1])]; rfl, below_alloc HB.out _⟩
            · have c1' : decide (gx.f1 < 1) = false := decide_eq_false c1
              by_cases c2 : gx.f2 < gx.f1
              · have c2' : decide (gx.f2 < gx.f1) = true := decide_eq_true c2
                go_wp2
                go_ret
                exact ⟨by rw [← HRES.out, HFA.out (by simp [badR, c2])]; rfl, below_alloc HB.out _⟩
              · have c2' : decide (gx.f2 < gx.f1) = false := decide_eq_false c2
                by_cases c3 : a0_2 ≤ gx.f2
                · have c3' : decide (a0_2 ≤ gx.f2) = true := decide_eq_true c3
                  go_wp2
                  go_ret
                  exact ⟨by rw [← HRES.out, HFA.out (by simp [badR, c3])]; rfl, below_alloc HB.out _⟩
                · have c3' : decide (a0_2 ≤ gx.f2) = false := decide_eq_false c3
                  have HNB := Aside0.mk (show badR a0_2 gx = false by simp [badR]; omega)
                  go_wp2
                  go_roundg (l0_1.length - (x + 1).toNat)
                  case measure => have := HG.out; omega
                  case rel =>
                    refine ⟨x + 1, by rw [← HWR.out], ⟨rfl, by omega, by omega, fun i h1 h2 => ?_⟩, ⟨blk_alloc HBK.out _⟩, ⟨below_alloc HB.out _⟩⟩
                    rcases Int.lt_or_eq_of_le (show i ≤ x by omega) with h | h
                    · exact HG.out.2.2.2 i h1 h
                    · rw [h, HGX.out]; exact HNB.out
          · have HNR : Aside0 (l0_1.any (badR a0_2) = false) := ⟨any_none (fun i h1 h2 => HG.out.2.2.2 i h1 (by have := HG.out; omega))⟩
            go_wp2
            go_loopg [9] l0_1.length (fun g v9 w' => ∃ (x : Int), v9 = .int .i64 x ∧ Aside0 (g = l0_1.length + 1 - x.toNat ∧ 1 ≤ x ∧ x ≤ l0_1.length + 1 ∧ rowTo l0_1 x) ∧ Aside0 (w'.heap[w.heap.size]? = some (.cells #[.slice A0_0 l0_0.length c0_0, .slice A0_1 l0_1.length c0_1, .int .i64 a0_2, .int .i64 a0_3, .int .i64 a0_4] 25 (0, 0))) ∧ Aside0 (Below w.heap.size w w'))
            case atStart => exact ⟨1, rfl, ⟨by simp, by omega, by omega, fun i h1 h2 => by omega⟩, ⟨HBK.out⟩, ⟨HB.out⟩⟩
            clear HBK HB HG h0 hlt
            case round =>
              obtain ⟨x, rfl, HG, HBK, HB⟩ := hrel
              have h1 : 1 ≤ x := HG.out.2.1
              have hca : wr.cell? ⟨w.heap.size, 1, none⟩ = some (.slice A0_1 l0_1.length c0_1) := (blk_cell HBK.out 1).trans rfl
              by_cases hlt : x < (l0_1.length : Int)
              · obtain ⟨ad, e, hx0, hx1, hx2⟩ := at_T43 HR0_1.out x (by omega) hlt
                obtain ⟨ad', e', hy0, hy1, hy2⟩ := at_T43 HR0_1.out (x - 1) (by omega) (by omega)
                cases e
                cases e'
                replace hx1 := pw_cell_below HB.out hx1
                replace hy2 := pw_cell_below HB.out hy2
                clear hx0 hx2 hy0 hy1
                rw [show (x - 1).toNat = x.toNat - 1 from by omega] at hy2
                have hd : IntKind.i64.wrap (x - 1) = x - 1 := IntWalk.i64_in _ (by omega)
                have hd2 : wrap64 (x - 1) = x - 1 := by unfold wrap64; omega
                have hd0 : 0 ≤ x - 1 := by omega
                have hd1 : x - 1 < (l0_1.length : Int) := by omega
                have hx : 0 ≤ x := by omega
                have HIR := Aside0.mk (inRow_not l0_1 x h1 hlt)
                have HWR := Aside0.mk (wrap_up hx (show x < 9223372036854775807 by omega))
                obtain ⟨p, hp⟩ : ∃ p, (rd_T43 l0_1 x).f1 = p := ⟨_, rfl⟩
                obtain ⟨q, hq⟩ : ∃ q, (rd_T43 l0_1 (x - 1)).f2 = q := ⟨_, rfl⟩
                rw [hp] at hx1
                rw [hq] at hy2
                rw [hp, hq] at HIR
                have HP := Aside0.mk hp
                have HQ := Aside0.mk hq
                clear hp hq
                by_cases hc : p = wrap64 (q + 1)
                · have hc' : (p != wrap64 (q + 1)) = false := by rw [hc]; simp
                  have hc2 : (p != IntKind.i64.wrap (q + 1)) = false := by unfold wrap64 at hc'; rw [IntKind.wrap_i64]; exact hc'
                  have HC := Aside0.mk hc
                  clear hc
                  go_wp2
                  go_quiet (fail)
                  go_wp2
                  go_roundg (l0_1.length + 1 - (x + 1).toNat)
                  case measure => have := HG.out; omega
                  case rel =>
                    refine ⟨x + 1, by rw [← HWR.out], ⟨rfl, by omega, by omega, fun i h1 h2 => ?_⟩, ⟨blk_drewN HBK.out _⟩, ⟨pw_below_drewN HB.out _⟩⟩
                    rcases Int.lt_or_eq_of_le (show i ≤ x by omega) with h | h
                    · exact HG.out.2.2.2 i h1 h
                    · rw [h, HP.out, HQ.out]; exact HC.out
                · have hc' : (p != wrap64 (q + 1)) = true := by rw [bne_iff_ne]; exact hc
                  have hc2 : (p != IntKind.i64.wrap (q + 1)) = true := by unfold wrap64 at hc'; rw [IntKind.wrap_i64]; exact hc'
                  have HC := Aside0.mk hc
                  clear hc
                  go_wp2
                  go_quiet (fail)
                  go_wp2
                  go_ret
                  refine ⟨?_, pw_below_drewN HB.out _⟩
                  rw [← HRES.out]
                  unfold grErr
                  rw [HNO.out, HTW.out, HNR.out, HIR.out HC.out]
                  rfl
              · have HRW := Aside0.mk (inRow_of l0_1 (fun i h1 h2 => HG.out.2.2.2 i h1 (by omega)))
                go_wp2
                go_ret
                refine ⟨?_, HB.out⟩
                rw [← HRES.out]
                unfold grErr
                rw [HNO.out, HTW.out, HNR.out, HRW.out]
                rfl
end Go.Proofs.YtfcpebjjcijgcaaGreatDoor.G
-- by hand: lemmas
namespace Go.Proofs.YtfcpebjjcijgcaaGreatDoor.G
open Go.RowKit Go.Proofs.YtfcpebjjcijgcaaGreatDoorW.PrintWords Go.Proofs.YtfcpebjjcijgcaaGreatDoorW.PrintLast Go.Proofs.YtfcpebjjcijgcaaGreatDoorW.PrintMore
attribute [local go_sem] max2_int min2_int max_two min_two max_three min_three max_four min_four   -- for this text's walks alone
set_option linter.unusedVariables false
set_option linter.unusedSimpArgs false
/-- What a predicate's contract is: at each element, in each world in which all that lay in w lies unturned. -/
def PredK {α : Type} (P : Program) (kd : Kd α) (V : List Value → Value) (g : Nat) (lb : Array Value) (p : α → Bool) (l : List α) (w : World) : Prop :=
  ∀ x, x ∈ l → ∀ (W : World) (cs : List Value), Below w.heap.size w W → kd.K W x cs → Calls P g (#[V cs] ++ lb) W fun e w' => e = .returned (.bool (p x)) ∧ Below W.heap.size W w'
/-- The first place at which p holds, or -1. -/
def idxP {α : Type} (p : α → Bool) (l : List α) : Int := match l.findIdx? p with | some i => (i : Int) | none => -1
theorem idxP_hit {α : Type} {p : α → Bool} {l : List α} {i : Nat} (hi : i < l.length) (h : p l[i] = true) (hb : ∀ j (hj : j < i), p (l[j]'(by omega)) = false) : idxP p l = (i : Int) := by
  unfold idxP
  rw [List.findIdx?_eq_some_iff_getElem.2 ⟨hi, h, fun j hj => by rw [hb j hj]; simp⟩]
theorem idxP_miss {α : Type} {p : α → Bool} {l : List α} (h : ∀ j (hj : j < l.length), p l[j] = false) : idxP p l = -1 := by
  unfold idxP
  rw [List.findIdx?_eq_none_iff.2 (fun x hx => by
    obtain ⟨j, hj, rfl⟩ := List.getElem_of_mem hx
    exact h j hj)]
theorem idxP_nonneg {α : Type} {p : α → Bool} {l : List α} : decide (0 ≤ idxP p l) = l.any p := by
  unfold idxP
  cases h : l.findIdx? p with
  | none =>
    rw [List.findIdx?_eq_none_iff] at h
    have : l.any p = false := by
      rw [List.any_eq_false]
      intro x hx
      rw [h x hx]
      simp
    rw [this]
    rfl
  | some i =>
    obtain ⟨hi, hp, _⟩ := List.findIdx?_eq_some_iff_getElem.1 h
    have : l.any p = true := List.any_eq_true.2 ⟨_, List.getElem_mem hi, hp⟩
    rw [this]
    simp
/-- An element's cells, as one run of loads. -/
theorem Kd.row_at {α : Type} {d : Kd α} {w : World} {A : Option Addr} {l : List α} (h : d.C w A l.length l) {i : Nat} (hi : i < l.length) :
    ∃ ad c, A = some ad ∧ c.length = d.sz ∧ d.K w l[i] c ∧ ∀ j u, c[j]? = some u → w.cell? (ad.add (i * d.sz + j)) = some u := by
  obtain ⟨ad, e, hc⟩ := h.2.2 (by omega)
  obtain ⟨c, h1, h2, h3⟩ := hc i _ (List.getElem?_eq_getElem hi)
  exact ⟨ad, c, e, h1, h2, h3⟩
end Go.Proofs.YtfcpebjjcijgcaaGreatDoor.G
-- slices.IndexFunc[[]int,int]: by hand
namespace Go.Proofs.YtfcpebjjcijgcaaGreatDoor.G
open Go.RowKit Go.Proofs.YtfcpebjjcijgcaaGreatDoorW.PrintWords Go.Proofs.YtfcpebjjcijgcaaGreatDoorW.PrintLast Go.Proofs.YtfcpebjjcijgcaaGreatDoorW.PrintMore
attribute [local go_sem] max2_int min2_int max_two min_two max_three min_three max_four min_four   -- for this text's walks alone
set_option linter.unusedVariables false
set_option linter.unusedSimpArgs false
set_option maxHeartbeats 400000 in
theorem slices_IndexFunc_int_int.calls (p : Int → Bool) (g : Nat) (lb : Array Value) (eg : ∀ args w, (callFunc g args).run Tryz.prog w = .ok (.enter g args) w) (A0 : Option Addr) (c0 : Nat) (l0 : List Int) (w : World) (hr0 : Kd.C (Kd.int .i64) w A0 l0.length l0) (hp : PredK Tryz.prog (Kd.int .i64) (fun cs => cs.headD undef) g lb p l0 w) :
    Calls Tryz.prog 49 #[.slice A0 l0.length c0, .func (.func g) #[] lb] w fun e w' => e = .returned (.int .i64 (idxP p l0)) ∧ Below w.heap.size w w' := by
  have HR := Aside0.mk hr0
  have HP := Aside0.mk hp
  have hlen : l0.length ≤ 9223372036854775807 := hr0.2.1
  clear hr0 hp
  go_enter Tryz.func49, Tryz.ntmps49
  go_wp2
  go_loopg [5, 8] l0.length (fun gg _ s8 wr => ∃ k : Nat, k ≤ l0.length ∧ l0.length - k ≤ gg ∧ s8 = .int .i64 k ∧ Aside0 (Below w.heap.size w wr) ∧ Aside0 (∀ j (hj : j < l0.length), j < k → p l0[j] = false))
  case atStart => exact ⟨0, Nat.zero_le _, by omega, rfl, ⟨Below.refl _ w⟩, ⟨fun j _ hj => absurd hj (Nat.not_lt_zero _)⟩⟩
  case round =>
    obtain ⟨k, hk, hg, rfl, BW, HA⟩ := hrel
    by_cases hlt : k < l0.length
    · have hltz : (k : Int) < (l0.length : Int) := by omega
      obtain ⟨ad, c, e, hcl, hK, hcells⟩ := Kd.row_at HR.out hlt
      cases e
      have hcall := HP.out l0[k] (List.getElem_mem hlt) wr c BW.out (Kd.K_below _ BW.out hK)
      obtain ⟨x, hx⟩ : ∃ x, l0[k] = x := ⟨_, rfl⟩
      rw [hx] at hK hcall
      have HX := Aside0.mk hx
      clear hx
      obtain rfl : c = [.int .i64 x] := hK
      have hx_0 : wr.cell? (ad.add k) = some (.int .i64 x) := pw_cell_below BW.out (by have := hcells 0 _ rfl; simpa [show ((Kd.int .i64)).sz = 1 from rfl] using this)
      obtain ⟨b, hb⟩ : ∃ b, p x = b := ⟨_, rfl⟩
      (try simp only [List.headD_cons] at hcall)
      rw [hb] at hcall
      have HBB := Aside0.mk hb
      have HLT := Aside0.mk hlt
      clear hb
      try clear hcells
      try clear hcl
      try clear hK
      cases b with
      | true =>
        go_wp2_with (go_at_fn g; refine hcall.mono ?_; rintro e w' ⟨rfl, hb'⟩)
        go_ret
        refine ⟨?_, BW.out.trans (hb'.mono BW.out.size)⟩
        rw [idxP_hit HLT.out (by rw [HX.out]; exact HBB.out) (fun j hj => HA.out j _ hj)]
        rfl
      | false =>
        go_wp2_with (go_at_fn g; refine hcall.mono ?_; rintro e w' ⟨rfl, hb'⟩)
        go_roundg (l0.length - (k + 1))
        case measure => have := HLT.out; omega
        case rel =>
          refine ⟨k + 1, HLT.out, by omega, by go_num, ⟨BW.out.trans (hb'.mono BW.out.size)⟩, ⟨fun j hj hjk => ?_⟩⟩
          by_cases e : j = k
          · subst e
            rw [HX.out]
            exact HBB.out
          · exact HA.out j hj (by omega)
    · have hltz : ¬ (k : Int) < (l0.length : Int) := by omega
      go_wp2
      go_ret
      refine ⟨?_, BW.out⟩
      rw [idxP_miss (fun j hj => HA.out j hj (by omega))]
      rfl
end Go.Proofs.YtfcpebjjcijgcaaGreatDoor.G
-- slices.ContainsFunc[[]int,int]: by hand
namespace Go.Proofs.YtfcpebjjcijgcaaGreatDoor.G
open Go.RowKit Go.Proofs.YtfcpebjjcijgcaaGreatDoorW.PrintWords Go.Proofs.YtfcpebjjcijgcaaGreatDoorW.PrintLast Go.Proofs.YtfcpebjjcijgcaaGreatDoorW.PrintMore
attribute [local go_sem] max2_int min2_int max_two min_two max_three min_three max_four min_four   -- for this text's walks alone
set_option linter.unusedVariables false
set_option linter.unusedSimpArgs false
theorem slices_ContainsFunc_int_int.calls (p : Int → Bool) (g : Nat) (lb : Array Value) (eg : ∀ args w, (callFunc g args).run Tryz.prog w = .ok (.enter g args) w) (A0 : Option Addr) (c0 : Nat) (l0 : List Int) (w : World) (hr0 : Kd.C (Kd.int .i64) w A0 l0.length l0) (hp : PredK Tryz.prog (Kd.int .i64) (fun cs => cs.headD undef) g lb p l0 w) :
    Calls Tryz.prog 32 #[.slice A0 l0.length c0, .func (.func g) #[] lb] w fun e w' => e = .returned (.bool (l0.any p)) ∧ Below w.heap.size w w' := by
  rw [← idxP_nonneg (p := p) (l := l0)]
  have HC := Aside0.mk (slices_IndexFunc_int_int.calls p g lb eg A0 c0 l0 w hr0 hp)
  clear hr0 hp
  go_enter Tryz.func32, Tryz.ntmps32
  go_wp2_with fail
  refine HC.out.mono ?_
  rintro e w' ⟨rfl, hb⟩
  go_wp2
  go_ret
  exact ⟨rfl, hb⟩
end Go.Proofs.YtfcpebjjcijgcaaGreatDoor.G
-- unicodetext/codepoint.Valid: printed by gprint.py
namespace Go.Proofs.YtfcpebjjcijgcaaGreatDoor.G
open Go.RowKit Go.Proofs.YtfcpebjjcijgcaaGreatDoorW.PrintWords Go.Proofs.YtfcpebjjcijgcaaGreatDoorW.PrintLast Go.Proofs.YtfcpebjjcijgcaaGreatDoorW.PrintMore
attribute [local go_sem] max2_int min2_int max_two min_two max_three min_three max_four min_four   -- for this text's walks alone
set_option linter.unusedVariables false
set_option linter.unusedSimpArgs false
/-! ### codepoint_Valid: function 34 -/
def codepoint_Valid.f (a0 : Int) : Option (Bool) := if a0 ≥ 0 then (some (decide (a0 ≤ 1114111))) else (some false)
set_option maxHeartbeats 8000000 in
set_option maxRecDepth 100000 in
theorem codepoint_Valid.calls (a0 : Int) (r : Bool) (w : World) (h : codepoint_Valid.f a0 = some r) :
    Calls Tryz.prog 34 #[.int .i64 a0] w fun e w' => e = .returned (.bool r) ∧ Drawn0 w w' := by
  have H : (if a0 ≥ 0 then (some (decide (a0 ≤ 1114111))) else (some false)) = some r := h
  clear h
  by_cases c2 : a0 ≥ 0
  · rw [if_pos c2] at H
    have c2b0 : decide (0 ≤ a0) = true := decide_eq_true c2
    clear c2
    obtain rfl := Option.some.inj H
    go_enter Tryz.func34, Tryz.ntmps34
    go_wp2
    go_ret
    exact ⟨by first | rfl | (simp; done) | (simp [*]; done), by repeat (first | exact Drawn0.refl _ | apply Drawn0.step)⟩
  · rw [if_neg c2] at H
    have c2b0 : decide (0 ≤ a0) = false := decide_eq_false c2
    clear c2
    obtain rfl := Option.some.inj H
    go_enter Tryz.func34, Tryz.ntmps34
    go_wp2
    go_ret
    exact ⟨by first | rfl | (simp; done) | (simp [*]; done), by repeat (first | exact Drawn0.refl _ | apply Drawn0.step)⟩
end Go.Proofs.YtfcpebjjcijgcaaGreatDoor.G
-- unicodetext/element.Check: printed by gprint.py
namespace Go.Proofs.YtfcpebjjcijgcaaGreatDoor.G
open Go.RowKit Go.Proofs.YtfcpebjjcijgcaaGreatDoorW.PrintWords Go.Proofs.YtfcpebjjcijgcaaGreatDoorW.PrintLast Go.Proofs.YtfcpebjjcijgcaaGreatDoorW.PrintMore
attribute [local go_sem] max2_int min2_int max_two min_two max_three min_three max_four min_four   -- for this text's walks alone
set_option linter.unusedVariables false
set_option linter.unusedSimpArgs false
/-! ### element_Check: function 35 -/
def element_Check.j0 : Nat → Bool → Int → Int → Int → Bool → Option (Int)
  | 0, _, _, _, _, _ => none
  | k + 1, x20, x102000, x102001, x102002, x102003 => if x20 = true then (some 1) else (if x102000 = 0 then (if (mn (wrap64 (x102000 + x102001)) 1) > x102002 then (some 11) else (if x102003 = true then (some 11) else (some 0))) else (if x102001 = 0 then (some 11) else (if (mn (wrap64 (x102000 + x102001)) 1) > x102002 then (some 11) else (if x102003 = true then (some 0) else (some 0)))))
def element_Check.f (k : Nat) (a0_0 : Int) (a0_1 : Int) (a0_2 : Int) (a0_3 : Bool) : Option (Int) := if (mn (mn a0_0 a0_1) a0_2) < 0 then (element_Check.j0 k true a0_0 a0_1 a0_2 a0_3) else (element_Check.j0 k (decide ((mx (mx a0_0 a0_1) a0_2) > 65535)) a0_0 a0_1 a0_2 a0_3)
set_option maxHeartbeats 8000000 in
set_option maxRecDepth 100000 in
theorem element_Check.calls (k : Nat) (a0_0 : Int) (a0_1 : Int) (a0_2 : Int) (a0_3 : Bool) (r : Int) (w : World) (h : element_Check.f k a0_0 a0_1 a0_2 a0_3 = some r) :
    Calls Tryz.prog 35 #[.agg #[.int .i64 a0_0, .int .i64 a0_1, .int .i64 a0_2, .bool a0_3]] w fun e w' => e = .returned (.int .i64 r) ∧ Below w.heap.size w w' := by
  have hu41 := Tryz.underlying41
  have HB := Aside0.mk (Below.refl w.heap.size w)
  have H : (if (mn (mn a0_0 a0_1) a0_2) < 0 then (element_Check.j0 k true a0_0 a0_1 a0_2 a0_3) else (element_Check.j0 k (decide ((mx (mx a0_0 a0_1) a0_2) > 65535)) a0_0 a0_1 a0_2 a0_3)) = some r := h
  clear h
  have HC2 := Aside0.mk H
  clear H
  go_enter Tryz.func35, Tryz.ntmps35
  go_upto_region 1 with (first | ((with_reducible refine gate_dst (N := 1) rfl ?_); (try (refine gate_guard (by rfl) ?_; dsimp only)); refine box_event ?hg (N := 1) ?hd (cs := #[.int .i64 a0_0, .int .i64 a0_1, .int .i64 a0_2, .bool a0_3]) (t := 41) ?hr ?_; (case hd => rfl); (case hg => rfl); (case hr => first | (go_simp; done) | (go_simp; rfl)); intro gb101 hg w3 hbox hb; have n0_ := Aside0.mk (below_step (by repeat (first | (with_reducible first | exact HB.out | apply below_alloc | apply pw_below_drewN | apply below_drew1) | exact HB.out)) hb); have n1_ := Aside0.mk (hbox); have n2_ := Aside0.mk ((by rw [hg]; exact (below_size (by repeat (first | (with_reducible first | exact HB.out | apply below_alloc | apply pw_below_drewN | apply below_drew1) | exact HB.out))) : w.heap.size ≤ gb101)); have n3_ := Aside0.mk ((by rw [hg]; exact (below_size (by repeat (first | (with_reducible first | exact HB.out | apply below_alloc | apply pw_below_drewN | apply below_drew1) | exact HB.out))) : w.heap.size ≤ gb101)); clear HB; have HB := n0_; have BK101 := n1_; have GW101 := n2_; have GE101 := n3_; clear n0_ n1_ n2_ n3_; clear hb hbox hg))
  (try simp only [Act.put, List.setIfInBounds_toArray, List.set_cons_zero, List.set_cons_succ])
  go_cut [20] (fun v20 wc => ∃ (kq : Nat) (x20_1 : Bool), v20 = .bool x20_1 ∧ Aside0 (element_Check.j0 kq x20_1 a0_0 a0_1 a0_2 a0_3 = some r) ∧ Aside0 (kq ≤ k) ∧ Aside0 (wc.heap[gb101]? = some (.cells #[.int .i64 a0_0, .int .i64 a0_1, .int .i64 a0_2, .bool a0_3] 41 (0, 0))) ∧ Aside0 (Below w.heap.size w wc))
  case first =>
    have H := HC2.out
    clear HC2
    obtain ⟨ji4, hji4⟩ : ∃ j_ : Int, (mn a0_0 a0_1) = j_ := ⟨_, rfl⟩
    replace H : (if (mn (ji4) a0_2) < 0 then (element_Check.j0 k true a0_0 a0_1 a0_2 a0_3) else (element_Check.j0 k (decide ((mx (mx a0_0 a0_1) a0_2) > 65535)) a0_0 a0_1 a0_2 a0_3)) = some r := by first | (rw [hji4] at H; exact H) | (simp only [hji4] at H ⊢; exact H)
    have hji4_ : (if a0_1 < a0_0 then a0_1 else a0_0) = ji4 := hji4
    obtain ⟨ji5, hji5⟩ : ∃ j_ : Int, (mn (ji4) a0_2) = j_ := ⟨_, rfl⟩
    replace H : (if (ji5) < 0 then (element_Check.j0 k true a0_0 a0_1 a0_2 a0_3) else (element_Check.j0 k (decide ((mx (mx a0_0 a0_1) a0_2) > 65535)) a0_0 a0_1 a0_2 a0_3)) = some r := by first | (rw [hji5] at H; exact H) | (simp only [hji5] at H ⊢; exact H)
    have hji5_ : (if a0_2 < (ji4) then a0_2 else (ji4)) = ji5 := hji5
    by_cases c6 : (ji5) < 0
    · rw [if_pos c6] at H
      have c6b0 : decide ((ji5) < 0) = true := decide_eq_true c6
      clear c6
      (first | rw [c6b0] | (simp only [i64_w, i32_w]; rw [c6b0]) | skip)
      have H' := Aside0.mk H
      clear H
      have hcz7_0 : w3.cell? ⟨gb101, 0, none⟩ = some (.int .i64 a0_0) := (blk_cell BK101.out 0).trans rfl
      have hcz7_1 : w3.cell? ⟨gb101, 1, none⟩ = some (.int .i64 a0_1) := (blk_cell BK101.out 1).trans rfl
      have hcz7_2 : w3.cell? ⟨gb101, 2, none⟩ = some (.int .i64 a0_2) := (blk_cell BK101.out 2).trans rfl
      have hcz7_3 : w3.cell? ⟨gb101, 3, none⟩ = some (.bool a0_3) := (blk_cell BK101.out 3).trans rfl
      have hfz7_0 := blk_frozen BK101.out 0
      have hfz7_1 := blk_frozen BK101.out 1
      have hfz7_2 := blk_frozen BK101.out 2
      have hfz7_3 := blk_frozen BK101.out 3
      go_wp2
      go_meet
      case rel => exact ⟨_, (true), (by first | rfl | (simp; done) | (simp [*]; done)), H', ⟨by first | omega | exact Nat.le_refl _⟩, ⟨by (with_reducible repeat (first | refine blk_drewN ?_ _ | refine blk_drew ?_ | refine blk_alloc ?_ _)); exact BK101.out⟩, ⟨by repeat (first | (with_reducible first | exact HB.out | apply below_alloc | apply pw_below_drewN | apply below_drew1 | refine below_set ?_ GE101.out) | exact HB.out)⟩⟩
    · rw [if_neg c6] at H
      have c6b0 : decide ((ji5) < 0) = false := decide_eq_false c6
      clear c6
      (first | rw [c6b0] | (simp only [i64_w, i32_w]; rw [c6b0]) | skip)
      obtain ⟨ji8, hji8⟩ : ∃ j_ : Int, (mx a0_0 a0_1) = j_ := ⟨_, rfl⟩
      replace H : (element_Check.j0 k (decide ((mx (ji8) a0_2) > 65535)) a0_0 a0_1 a0_2 a0_3) = some r := by first | (rw [hji8] at H; exact H) | (simp only [hji8] at H ⊢; exact H)
      have hji8_ : (if a0_0 < a0_1 then a0_1 else a0_0) = ji8 := hji8
      obtain ⟨ji9, hji9⟩ : ∃ j_ : Int, (mx (ji8) a0_2) = j_ := ⟨_, rfl⟩
      replace H : (element_Check.j0 k (decide ((ji9) > 65535)) a0_0 a0_1 a0_2 a0_3) = some r := by first | (rw [hji9] at H; exact H) | (simp only [hji9] at H ⊢; exact H)
      have hji9_ : (if (ji8) < a0_2 then a0_2 else (ji8)) = ji9 := hji9
      have H' := Aside0.mk H
      clear H
      have hcz10_0 : w3.cell? ⟨gb101, 0, none⟩ = some (.int .i64 a0_0) := (blk_cell BK101.out 0).trans rfl
      have hcz10_1 : w3.cell? ⟨gb101, 1, none⟩ = some (.int .i64 a0_1) := (blk_cell BK101.out 1).trans rfl
      have hcz10_2 : w3.cell? ⟨gb101, 2, none⟩ = some (.int .i64 a0_2) := (blk_cell BK101.out 2).trans rfl
      have hcz10_3 : w3.cell? ⟨gb101, 3, none⟩ = some (.bool a0_3) := (blk_cell BK101.out 3).trans rfl
      have hfz10_0 := blk_frozen BK101.out 0
      have hfz10_1 := blk_frozen BK101.out 1
      have hfz10_2 := blk_frozen BK101.out 2
      have hfz10_3 := blk_frozen BK101.out 3
      go_wp2
      go_meet
      case rel => exact ⟨_, (decide ((ji9) > 65535)), (by first | rfl | (simp; done) | (simp only [← hji9] <;> (first | rfl | simp)) | (simp [*]; done)), H', ⟨by first | omega | exact Nat.le_refl _⟩, ⟨by (with_reducible repeat (first | refine blk_drewN ?_ _ | refine blk_drew ?_ | refine blk_alloc ?_ _)); exact BK101.out⟩, ⟨by repeat (first | (with_reducible first | exact HB.out | apply below_alloc | apply pw_below_drewN | apply below_drew1 | refine below_set ?_ GE101.out) | exact HB.out)⟩⟩
  case rest =>
    clear HC2
    try clear p2
    try clear c3
    try clear c6
    try clear c6b0
    try clear hcz10_0
    try clear hcz10_1
    try clear hcz10_2
    try clear hcz10_3
    try clear hcz7_0
    try clear hcz7_1
    try clear hcz7_2
    try clear hcz7_3
    try clear hfz10_0
    try clear hfz10_1
    try clear hfz10_2
    try clear hfz10_3
    try clear hfz7_0
    try clear hfz7_1
    try clear hfz7_2
    try clear hfz7_3
    obtain ⟨kq, x20_1, rfl, HA, HJ1, BK101, HB⟩ := hcut
    cases kq with
    | zero => exact absurd HA.out (by simp [element_Check.j0])
    | succ kj1 =>
      have H := HA.out
      clear HA
      simp only [element_Check.j0] at H
      by_cases c11 : x20_1 = true
      · subst c11
        have H1 : (some 1) = some r := by rw [if_pos rfl] at H; exact H
        clear H
        have H := H1
        clear H1
        obtain rfl := Option.some.inj H
        go_wp2
        go_ret
        exact ⟨by first | rfl | (simp [errW_none, errW_some] <;> rfl) | (simp [*, errW_none, errW_some] <;> rfl), by repeat (first | (with_reducible first | exact HB.out | apply below_alloc | apply pw_below_drewN | apply below_drew1 | refine below_set ?_ GE101.out) | exact HB.out)⟩
      · replace c11 := Bool.eq_false_iff.mpr c11
        subst c11
        have H1 : (if a0_0 = 0 then (if (mn (wrap64 (a0_0 + a0_1)) 1) > a0_2 then (some 11) else (if a0_3 = true then (some 11) else (some 0))) else (if a0_1 = 0 then (some 11) else (if (mn (wrap64 (a0_0 + a0_1)) 1) > a0_2 then (some 11) else (if a0_3 = true then (some 0) else (some 0))))) = some r := by rw [if_neg (show ¬ (false = true) by decide)] at H; exact H
        clear H
        have H := H1
        clear H1
        by_cases c12 : a0_0 = 0
        · rw [if_pos c12] at H
          have c12b0 : (a0_0 == 0) = true := beq_iff_eq.mpr c12
          have c12b1 : (a0_0 != 0) = false := bne_eq_false_iff_eq.mpr c12
          clear c12
          obtain ⟨ji13, hji13⟩ : ∃ j_ : Int, (mn (wrap64 (a0_0 + a0_1)) 1) = j_ := ⟨_, rfl⟩
          replace H : (if (ji13) > a0_2 then (some 11) else (if a0_3 = true then (some 11) else (some 0))) = some r := by first | (rw [hji13] at H; exact H) | (simp only [hji13] at H ⊢; exact H)
          have hji13_ : (if 1 < (wrap64 (a0_0 + a0_1)) then 1 else (wrap64 (a0_0 + a0_1))) = ji13 := hji13
          by_cases c14 : (ji13) > a0_2
          · rw [if_pos c14] at H
            have c14b0 : decide (a0_2 < (ji13)) = true := decide_eq_true c14
            clear c14
            obtain rfl := Option.some.inj H
            have hcz15_0 : wc.cell? ⟨gb101, 0, none⟩ = some (.int .i64 a0_0) := (blk_cell BK101.out 0).trans rfl
            have hcz15_1 : wc.cell? ⟨gb101, 1, none⟩ = some (.int .i64 a0_1) := (blk_cell BK101.out 1).trans rfl
            have hcz15_2 : wc.cell? ⟨gb101, 2, none⟩ = some (.int .i64 a0_2) := (blk_cell BK101.out 2).trans rfl
            have hcz15_3 : wc.cell? ⟨gb101, 3, none⟩ = some (.bool a0_3) := (blk_cell BK101.out 3).trans rfl
            have hfz15_0 := blk_frozen BK101.out 0
            have hfz15_1 := blk_frozen BK101.out 1
            have hfz15_2 := blk_frozen BK101.out 2
            have hfz15_3 := blk_frozen BK101.out 3
            go_wp2
            go_ret
            exact ⟨by first | rfl | (simp [errW_none, errW_some] <;> rfl) | (simp only [← hji13]; first | rfl | (simp [errW_none, errW_some] <;> rfl)) | (simp [*, errW_none, errW_some] <;> rfl), by repeat (first | (with_reducible first | exact HB.out | apply below_alloc | apply pw_below_drewN | apply below_drew1 | refine below_set ?_ GE101.out) | exact HB.out)⟩
          · rw [if_neg c14] at H
            have c14b0 : decide (a0_2 < (ji13)) = false := decide_eq_false c14
            clear c14
            by_cases c16 : a0_3 = true
            · subst c16
              have H1 : (some 11) = some r := by rw [if_pos rfl] at H; exact H
              clear H
              have H := H1
              clear H1
              obtain rfl := Option.some.inj H
              have hcz17_0 : wc.cell? ⟨gb101, 0, none⟩ = some (.int .i64 a0_0) := (blk_cell BK101.out 0).trans rfl
              have hcz17_1 : wc.cell? ⟨gb101, 1, none⟩ = some (.int .i64 a0_1) := (blk_cell BK101.out 1).trans rfl
              have hcz17_2 : wc.cell? ⟨gb101, 2, none⟩ = some (.int .i64 a0_2) := (blk_cell BK101.out 2).trans rfl
              have hcz17_3 : wc.cell? ⟨gb101, 3, none⟩ = some (.bool true) := (blk_cell BK101.out 3).trans rfl
              have hfz17_0 := blk_frozen BK101.out 0
              have hfz17_1 := blk_frozen BK101.out 1
              have hfz17_2 := blk_frozen BK101.out 2
              have hfz17_3 := blk_frozen BK101.out 3
              go_wp2
              go_ret
              exact ⟨by first | rfl | (simp [errW_none, errW_some] <;> rfl) | (simp only [← hji13]; first | rfl | (simp [errW_none, errW_some] <;> rfl)) | (simp [*, errW_none, errW_some] <;> rfl), by repeat (first | (with_reducible first | exact HB.out | apply below_alloc | apply pw_below_drewN | apply below_drew1 | refine below_set ?_ GE101.out) | exact HB.out)⟩
            · replace c16 := Bool.eq_false_iff.mpr c16
              subst c16
              have H1 : (some 0) = some r := by rw [if_neg (show ¬ (false = true) by decide)] at H; exact H
              clear H
              have H := H1
              clear H1
              obtain rfl := Option.some.inj H
              have hcz18_0 : wc.cell? ⟨gb101, 0, none⟩ = some (.int .i64 a0_0) := (blk_cell BK101.out 0).trans rfl
              have hcz18_1 : wc.cell? ⟨gb101, 1, none⟩ = some (.int .i64 a0_1) := (blk_cell BK101.out 1).trans rfl
              have hcz18_2 : wc.cell? ⟨gb101, 2, none⟩ = some (.int .i64 a0_2) := (blk_cell BK101.out 2).trans rfl
              have hcz18_3 : wc.cell? ⟨gb101, 3, none⟩ = some (.bool false) := (blk_cell BK101.out 3).trans rfl
              have hfz18_0 := blk_frozen BK101.out 0
              have hfz18_1 := blk_frozen BK101.out 1
              have hfz18_2 := blk_frozen BK101.out 2
              have hfz18_3 := blk_frozen BK101.out 3
              go_wp2
              go_ret
              exact ⟨by first | rfl | (simp [errW_none, errW_some] <;> rfl) | (simp only [← hji13]; first | rfl | (simp [errW_none, errW_some] <;> rfl)) | (simp [*, errW_none, errW_some] <;> rfl), by repeat (first | (with_reducible first | exact HB.out | apply below_alloc | apply pw_below_drewN | apply below_drew1 | refine below_set ?_ GE101.out) | exact HB.out)⟩
        · rw [if_neg c12] at H
          have c12b0 : (a0_0 == 0) = false := beq_eq_false_iff_ne.mpr c12
          have c12b1 : (a0_0 != 0) = true := bne_iff_ne.mpr c12
          by_cases c19 : a0_1 = 0
          · rw [if_pos c19] at H
            have c19b0 : (a0_1 == 0) = true := beq_iff_eq.mpr c19
            have c19b1 : (a0_1 != 0) = false := bne_eq_false_iff_eq.mpr c19
            clear c19
            obtain rfl := Option.some.inj H
            have hcz20_0 : wc.cell? ⟨gb101, 0, none⟩ = some (.int .i64 a0_0) := (blk_cell BK101.out 0).trans rfl
            have hcz20_1 : wc.cell? ⟨gb101, 1, none⟩ = some (.int .i64 a0_1) := (blk_cell BK101.out 1).trans rfl
            have hcz20_2 : wc.cell? ⟨gb101, 2, none⟩ = some (.int .i64 a0_2) := (blk_cell BK101.out 2).trans rfl
            have hcz20_3 : wc.cell? ⟨gb101, 3, none⟩ = some (.bool a0_3) := (blk_cell BK101.out 3).trans rfl
            have hfz20_0 := blk_frozen BK101.out 0
            have hfz20_1 := blk_frozen BK101.out 1
            have hfz20_2 := blk_frozen BK101.out 2
            have hfz20_3 := blk_frozen BK101.out 3
            go_wp2
            go_ret
            exact ⟨by first | rfl | (simp [errW_none, errW_some] <;> rfl) | (simp [*, errW_none, errW_some] <;> rfl), by repeat (first | (with_reducible first | exact HB.out | apply below_alloc | apply pw_below_drewN | apply below_drew1 | refine below_set ?_ GE101.out) | exact HB.out)⟩
          · rw [if_neg c19] at H
            have c19b0 : (a0_1 == 0) = false := beq_eq_false_iff_ne.mpr c19
            have c19b1 : (a0_1 != 0) = true := bne_iff_ne.mpr c19
            obtain ⟨ji21, hji21⟩ : ∃ j_ : Int, (mn (wrap64 (a0_0 + a0_1)) 1) = j_ := ⟨_, rfl⟩
            replace H : (if (ji21) > a0_2 then (some 11) else (if a0_3 = true then (some 0) else (some 0))) = some r := by first | (rw [hji21] at H; exact H) | (simp only [hji21] at H ⊢; exact H)
            have hji21_ : (if 1 < (wrap64 (a0_0 + a0_1)) then 1 else (wrap64 (a0_0 + a0_1))) = ji21 := hji21
            by_cases c22 : (ji21) > a0_2
            · rw [if_pos c22] at H
              have c22b0 : decide (a0_2 < (ji21)) = true := decide_eq_true c22
              clear c22
              obtain rfl := Option.some.inj H
              have hcz23_0 : wc.cell? ⟨gb101, 0, none⟩ = some (.int .i64 a0_0) := (blk_cell BK101.out 0).trans rfl
              have hcz23_1 : wc.cell? ⟨gb101, 1, none⟩ = some (.int .i64 a0_1) := (blk_cell BK101.out 1).trans rfl
              have hcz23_2 : wc.cell? ⟨gb101, 2, none⟩ = some (.int .i64 a0_2) := (blk_cell BK101.out 2).trans rfl
              have hcz23_3 : wc.cell? ⟨gb101, 3, none⟩ = some (.bool a0_3) := (blk_cell BK101.out 3).trans rfl
              have hfz23_0 := blk_frozen BK101.out 0
              have hfz23_1 := blk_frozen BK101.out 1
              have hfz23_2 := blk_frozen BK101.out 2
              have hfz23_3 := blk_frozen BK101.out 3
              go_wp2
              go_ret
              exact ⟨by first | rfl | (simp [errW_none, errW_some] <;> rfl) | (simp only [← hji21]; first | rfl | (simp [errW_none, errW_some] <;> rfl)) | (simp [*, errW_none, errW_some] <;> rfl), by repeat (first | (with_reducible first | exact HB.out | apply below_alloc | apply pw_below_drewN | apply below_drew1 | refine below_set ?_ GE101.out) | exact HB.out)⟩
            · rw [if_neg c22] at H
              have c22b0 : decide (a0_2 < (ji21)) = false := decide_eq_false c22
              clear c22
              by_cases c24 : a0_3 = true
              · subst c24
                have H1 : (some 0) = some r := by rw [if_pos rfl] at H; exact H
                clear H
                have H := H1
                clear H1
                obtain rfl := Option.some.inj H
                have hcz25_0 : wc.cell? ⟨gb101, 0, none⟩ = some (.int .i64 a0_0) := (blk_cell BK101.out 0).trans rfl
                have hcz25_1 : wc.cell? ⟨gb101, 1, none⟩ = some (.int .i64 a0_1) := (blk_cell BK101.out 1).trans rfl
                have hcz25_2 : wc.cell? ⟨gb101, 2, none⟩ = some (.int .i64 a0_2) := (blk_cell BK101.out 2).trans rfl
                have hcz25_3 : wc.cell? ⟨gb101, 3, none⟩ = some (.bool true) := (blk_cell BK101.out 3).trans rfl
                have hfz25_0 := blk_frozen BK101.out 0
                have hfz25_1 := blk_frozen BK101.out 1
                have hfz25_2 := blk_frozen BK101.out 2
                have hfz25_3 := blk_frozen BK101.out 3
                go_wp2
                go_ret
                exact ⟨by first | rfl | (simp [errW_none, errW_some] <;> rfl) | (simp only [← hji21]; first | rfl | (simp [errW_none, errW_some] <;> rfl)) | (simp [*, errW_none, errW_some] <;> rfl), by repeat (first | (with_reducible first | exact HB.out | apply below_alloc | apply pw_below_drewN | apply below_drew1 | refine below_set ?_ GE101.out) | exact HB.out)⟩
              · replace c24 := Bool.eq_false_iff.mpr c24
                subst c24
                have H1 : (some 0) = some r := by rw [if_neg (show ¬ (false = true) by decide)] at H; exact H
                clear H
                have H := H1
                clear H1
                obtain rfl := Option.some.inj H
                have hcz26_0 : wc.cell? ⟨gb101, 0, none⟩ = some (.int .i64 a0_0) := (blk_cell BK101.out 0).trans rfl
                have hcz26_1 : wc.cell? ⟨gb101, 1, none⟩ = some (.int .i64 a0_1) := (blk_cell BK101.out 1).trans rfl
                have hcz26_2 : wc.cell? ⟨gb101, 2, none⟩ = some (.int .i64 a0_2) := (blk_cell BK101.out 2).trans rfl
                have hcz26_3 : wc.cell? ⟨gb101, 3, none⟩ = some (.bool false) := (blk_cell BK101.out 3).trans rfl
                have hfz26_0 := blk_frozen BK101.out 0
                have hfz26_1 := blk_frozen BK101.out 1
                have hfz26_2 := blk_frozen BK101.out 2
                have hfz26_3 := blk_frozen BK101.out 3
                go_wp2
                go_ret
                exact ⟨by first | rfl | (simp [errW_none, errW_some] <;> rfl) | (simp only [← hji21]; first | rfl | (simp [errW_none, errW_some] <;> rfl)) | (simp [*, errW_none, errW_some] <;> rfl), by repeat (first | (with_reducible first | exact HB.out | apply below_alloc | apply pw_below_drewN | apply below_drew1 | refine below_set ?_ GE101.out) | exact HB.out)⟩
end Go.Proofs.YtfcpebjjcijgcaaGreatDoor.G
-- slices.IndexFunc[[]unicodetext/api.Element,unicodetext/api.Element]: by hand
namespace Go.Proofs.YtfcpebjjcijgcaaGreatDoor.G
open Go.RowKit Go.Proofs.YtfcpebjjcijgcaaGreatDoorW.PrintWords Go.Proofs.YtfcpebjjcijgcaaGreatDoorW.PrintLast Go.Proofs.YtfcpebjjcijgcaaGreatDoorW.PrintMore
attribute [local go_sem] max2_int min2_int max_two min_two max_three min_three max_four min_four   -- for this text's walks alone
set_option linter.unusedVariables false
set_option linter.unusedSimpArgs false
set_option maxHeartbeats 400000 in
theorem api_Element_50.calls (p : S41 → Bool) (g : Nat) (lb : Array Value) (eg : ∀ args w, (callFunc g args).run Tryz.prog w = .ok (.enter g args) w) (A0 : Option Addr) (c0 : Nat) (l0 : List S41) (w : World) (hr0 : Kd.C k41 w A0 l0.length l0) (hp : PredK Tryz.prog k41 (fun cs => .agg cs.toArray) g lb p l0 w) :
    Calls Tryz.prog 50 #[.slice A0 l0.length c0, .func (.func g) #[] lb] w fun e w' => e = .returned (.int .i64 (idxP p l0)) ∧ Below w.heap.size w w' := by
  have HR := Aside0.mk hr0
  have HP := Aside0.mk hp
  have hlen : l0.length ≤ 9223372036854775807 := hr0.2.1
  clear hr0 hp
  go_enter Tryz.func50, Tryz.ntmps50
  go_wp2
  go_loopg [5, 8] l0.length (fun gg _ s8 wr => ∃ k : Nat, k ≤ l0.length ∧ l0.length - k ≤ gg ∧ s8 = .int .i64 k ∧ Aside0 (Below w.heap.size w wr) ∧ Aside0 (∀ j (hj : j < l0.length), j < k → p l0[j] = false))
  case atStart => exact ⟨0, Nat.zero_le _, by omega, rfl, ⟨Below.refl _ w⟩, ⟨fun j _ hj => absurd hj (Nat.not_lt_zero _)⟩⟩
  case round =>
    obtain ⟨k, hk, hg, rfl, BW, HA⟩ := hrel
    by_cases hlt : k < l0.length
    · have hltz : (k : Int) < (l0.length : Int) := by omega
      obtain ⟨ad, c, e, hcl, hK, hcells⟩ := Kd.row_at HR.out hlt
      cases e
      have hcall := HP.out l0[k] (List.getElem_mem hlt) wr c BW.out (Kd.K_below _ BW.out hK)
      obtain ⟨x, hx⟩ : ∃ x, l0[k] = x := ⟨_, rfl⟩
      rw [hx] at hK hcall
      have HX := Aside0.mk hx
      clear hx
      obtain rfl := k41_open hK
      have hx_0 : wr.cell? (ad.add (k * 4)) = some (.int .i64 x.f0) := pw_cell_below BW.out (hcells 0 _ rfl)
      have hx_1 : wr.cell? ⟨(ad.add (k * 4)).block, (ad.add (k * 4)).off + 1, none⟩ = some (.int .i64 x.f1) := by rw [← add_field _ _ 1 (by omega)]; exact pw_cell_below BW.out (hcells 1 _ rfl)
      have hx_2 : wr.cell? ⟨(ad.add (k * 4)).block, (ad.add (k * 4)).off + 2, none⟩ = some (.int .i64 x.f2) := by rw [← add_field _ _ 2 (by omega)]; exact pw_cell_below BW.out (hcells 2 _ rfl)
      have hx_3 : wr.cell? ⟨(ad.add (k * 4)).block, (ad.add (k * 4)).off + 3, none⟩ = some (.bool x.f3) := by rw [← add_field _ _ 3 (by omega)]; exact pw_cell_below BW.out (hcells 3 _ rfl)
      obtain ⟨b, hb⟩ : ∃ b, p x = b := ⟨_, rfl⟩
      (try simp only [List.headD_cons] at hcall)
      rw [hb] at hcall
      have HBB := Aside0.mk hb
      have HLT := Aside0.mk hlt
      clear hb
      try clear hcells
      try clear hcl
      try clear hK
      cases b with
      | true =>
        go_wp2_with (go_at_fn g; refine hcall.mono ?_; rintro e w' ⟨rfl, hb'⟩)
        go_ret
        refine ⟨?_, BW.out.trans (hb'.mono BW.out.size)⟩
        rw [idxP_hit HLT.out (by rw [HX.out]; exact HBB.out) (fun j hj => HA.out j _ hj)]
        rfl
      | false =>
        go_wp2_with (go_at_fn g; refine hcall.mono ?_; rintro e w' ⟨rfl, hb'⟩)
        go_roundg (l0.length - (k + 1))
        case measure => have := HLT.out; omega
        case rel =>
          refine ⟨k + 1, HLT.out, by omega, by go_num, ⟨BW.out.trans (hb'.mono BW.out.size)⟩, ⟨fun j hj hjk => ?_⟩⟩
          by_cases e : j = k
          · subst e
            rw [HX.out]
            exact HBB.out
          · exact HA.out j hj (by omega)
    · have hltz : ¬ (k : Int) < (l0.length : Int) := by omega
      go_wp2
      go_ret
      refine ⟨?_, BW.out⟩
      rw [idxP_miss (fun j hj => HA.out j hj (by omega))]
      rfl
end Go.Proofs.YtfcpebjjcijgcaaGreatDoor.G
-- slices.ContainsFunc[[]unicodetext/api.Element,unicodetext/api.Element]: by hand
namespace Go.Proofs.YtfcpebjjcijgcaaGreatDoor.G
open Go.RowKit Go.Proofs.YtfcpebjjcijgcaaGreatDoorW.PrintWords Go.Proofs.YtfcpebjjcijgcaaGreatDoorW.PrintLast Go.Proofs.YtfcpebjjcijgcaaGreatDoorW.PrintMore
attribute [local go_sem] max2_int min2_int max_two min_two max_three min_three max_four min_four   -- for this text's walks alone
set_option linter.unusedVariables false
set_option linter.unusedSimpArgs false
theorem api_Element_36.calls (p : S41 → Bool) (g : Nat) (lb : Array Value) (eg : ∀ args w, (callFunc g args).run Tryz.prog w = .ok (.enter g args) w) (A0 : Option Addr) (c0 : Nat) (l0 : List S41) (w : World) (hr0 : Kd.C k41 w A0 l0.length l0) (hp : PredK Tryz.prog k41 (fun cs => .agg cs.toArray) g lb p l0 w) :
    Calls Tryz.prog 36 #[.slice A0 l0.length c0, .func (.func g) #[] lb] w fun e w' => e = .returned (.bool (l0.any p)) ∧ Below w.heap.size w w' := by
  rw [← idxP_nonneg (p := p) (l := l0)]
  have HC := Aside0.mk (api_Element_50.calls p g lb eg A0 c0 l0 w hr0 hp)
  clear hr0 hp
  go_enter Tryz.func36, Tryz.ntmps36
  go_wp2_with fail
  refine HC.out.mono ?_
  rintro e w' ⟨rfl, hb⟩
  go_wp2
  go_ret
  exact ⟨rfl, hb⟩
end Go.Proofs.YtfcpebjjcijgcaaGreatDoor.G
-- by hand: lemmas
namespace Go.Proofs.YtfcpebjjcijgcaaGreatDoor.G
open Go.RowKit Go.Proofs.YtfcpebjjcijgcaaGreatDoorW.PrintWords Go.Proofs.YtfcpebjjcijgcaaGreatDoorW.PrintLast Go.Proofs.YtfcpebjjcijgcaaGreatDoorW.PrintMore
attribute [local go_sem] max2_int min2_int max_two min_two max_three min_three max_four min_four   -- for this text's walks alone
set_option linter.unusedVariables false
set_option linter.unusedSimpArgs false
/-- The error of an element. -/
def elemErr (e : S41) : Int :=
  if 0 ≤ e.f0 ∧ e.f0 ≤ 65535 ∧ 0 ≤ e.f1 ∧ e.f1 ≤ 65535 ∧ 0 ≤ e.f2 ∧ e.f2 ≤ 65535 then (if (e.f0 ≠ 0 ∧ e.f1 = 0) ∨ (1 ≤ e.f0 + e.f1 ∧ e.f2 = 0) ∨ (e.f3 = true ∧ e.f0 = 0) then 11 else 0) else 1
theorem element_at (k : Nat) (e : S41) : element_Check.f (k + 1) e.f0 e.f1 e.f2 e.f3 = some (elemErr e) := by
  obtain ⟨p, s, t, v⟩ := e
  unfold element_Check.f elemErr
  simp only [element_Check.j0]
  by_cases h : 0 ≤ p ∧ p ≤ 65535 ∧ 0 ≤ s ∧ s ≤ 65535 ∧ 0 ≤ t ∧ t ≤ 65535
  · rw [if_pos h, if_neg (by unfold mn; omega)]
    have h1 : decide (mx (mx p s) t > 65535) = false := decide_eq_false (by unfold mx; omega)
    have hw : wrap64 (p + s) = p + s := by unfold wrap64; omega
    rw [h1, hw, if_neg (by simp)]
    by_cases hp : p = 0
    · rw [if_pos hp]
      by_cases hm : mn (p + s) 1 > t
      · rw [if_pos hm, if_pos (.inr (.inl (by unfold mn at hm; omega)))]
      · rw [if_neg hm]
        cases v with
        | true => rw [if_pos rfl, if_pos (.inr (.inr ⟨rfl, hp⟩))]
        | false => rw [if_neg (by simp), if_neg (by unfold mn at hm; simp; omega)]
    · rw [if_neg hp]
      by_cases hs : s = 0
      · rw [if_pos hs, if_pos (.inl ⟨hp, hs⟩)]
      · rw [if_neg hs]
        by_cases hm : mn (p + s) 1 > t
        · rw [if_pos hm, if_pos (.inr (.inl (by unfold mn at hm; omega)))]
        · have hn : ¬ ((p ≠ 0 ∧ s = 0) ∨ (1 ≤ p + s ∧ t = 0) ∨ (v = true ∧ p = 0)) := by
            rintro (h | h | h)
            · exact hs h.2
            · unfold mn at hm; omega
            · exact hp h.2
          rw [if_neg hm, if_neg hn]
          cases v <;> rfl
  · rw [if_neg h]
    by_cases hm : mn (mn p s) t < 0
    · rw [if_pos hm]; simp
    · rw [if_neg hm]
      have h1 : decide (mx (mx p s) t > 65535) = true := decide_eq_true (by unfold mn at hm; unfold mx; omega)
      rw [h1]; simp
end Go.Proofs.YtfcpebjjcijgcaaGreatDoor.G
-- unicodetext/colltable.ofEntry: by hand
namespace Go.Proofs.YtfcpebjjcijgcaaGreatDoor.G
open Go.RowKit Go.Proofs.YtfcpebjjcijgcaaGreatDoorW.PrintWords Go.Proofs.YtfcpebjjcijgcaaGreatDoorW.PrintLast Go.Proofs.YtfcpebjjcijgcaaGreatDoorW.PrintMore
attribute [local go_sem] max2_int min2_int max_two min_two max_three min_three max_four min_four   -- for this text's walks alone
set_option linter.unusedVariables false
set_option linter.unusedSimpArgs false
-- BY HAND: function 18 (colltable_ofEntry)
/-- The first error of elements. -/
def elErr : List S41 → Int
  | [] => 0
  | e :: l => if elemErr e ≠ 0 then elemErr e else elErr l
theorem elErr_hit : ∀ (l : List S41) (i : Nat) (x : S41), l[i]? = some x → (∀ (j : Nat) (y : S41), j < i → l[j]? = some y → elemErr y = 0) → elemErr x ≠ 0 → elErr l = elemErr x
  | [], i, x, hx, _, _ => by simp at hx
  | e :: l, 0, x, hx, _, h => by
    obtain rfl : e = x := by simpa using hx
    exact if_pos h
  | e :: l, i + 1, x, hx, hb, h => by
    show (if elemErr e ≠ 0 then elemErr e else elErr l) = elemErr x
    rw [if_neg (by simp [hb 0 e (by omega) rfl])]
    exact elErr_hit l i x (by simpa using hx) (fun j y hj hy => hb (j + 1) y (by omega) (by simpa using hy)) h
theorem elErr_none : ∀ (l : List S41), (∀ (j : Nat) (y : S41), l[j]? = some y → elemErr y = 0) → elErr l = 0
  | [], _ => rfl
  | e :: l, h => by
    show (if elemErr e ≠ 0 then elemErr e else elErr l) = 0
    rw [if_neg (by simp [h 0 e rfl])]
    exact elErr_none l (fun j y hy => h (j + 1) y (by simpa using hy))
/-- A code point? -/
def validP (n : Int) : Bool := decide (0 ≤ n) && decide (n ≤ 1114111)
def enErr (base : Int) (codes : List Int) (els : List S41) : Int :=
  if codes.length < 1 ∨ 8 < codes.length ∨ 16 < els.length then 2 else if codes.any (fun n => !validP n) then 1 else if elErr els ≠ 0 then elErr els else if els.any (fun e => decide (base ≤ e.f0)) then 1 else 0
theorem valid_f (n : Int) : codepoint_Valid.f n = some (validP n) := by
  unfold codepoint_Valid.f validP
  by_cases h : n ≥ 0
  · rw [if_pos h]; simp [h]
  · rw [if_neg h]; simp [h]
theorem ofEntry1_pred (l : List Int) (w : World) : PredK Tryz.prog (Kd.int .i64) (fun cs => cs.headD undef) 33 #[] (fun n => !validP n) l w := by
  intro x _ W cs _ hK
  obtain rfl : cs = [.int .i64 x] := hK
  have HV := Aside0.mk (valid_f x)
  show Calls Tryz.prog 33 #[.int .i64 x] W fun e w' => e = .returned (.bool (!validP x)) ∧ Below W.heap.size W w'
  obtain ⟨b, hb⟩ : ∃ b, validP x = b := ⟨_, rfl⟩
  rw [hb] at HV ⊢
  clear hb
  go_enter Tryz.func33, Tryz.ntmps33
  go_wp2_with fail
  refine (codepoint_Valid.calls x b _ HV.out).mono ?_
  rintro e w' ⟨rfl, ⟨nd, rfl⟩⟩
  go_wp2
  go_ret
  exact ⟨rfl, pw_below_drewN (Below.refl _ _) _⟩
theorem ofEntry2_pred (l : List S41) (w : World) (g : Nat) (base : Int) (hg : g < w.heap.size) (hc : w.cell? ⟨g, 2, none⟩ = some (.int .i64 base)) : PredK Tryz.prog k41 (fun cs => .agg cs.toArray) 37 #[.pointer (some ⟨g, 0, none⟩)] (fun e => decide (base ≤ e.f0)) l w := by
  intro x _ W cs hb hK
  obtain rfl := k41_open hK
  show Calls Tryz.prog 37 #[.agg #[.int .i64 x.f0, .int .i64 x.f1, .int .i64 x.f2, .bool x.f3], .pointer (some ⟨g, 0, none⟩)] W _
  have hc2 : (W.alloc (.cells #[.int .i64 x.f0, .int .i64 x.f1, .int .i64 x.f2, .bool x.f3] 41)).cell? ⟨g, 2, none⟩ = some (.int .i64 base) := pw_cell_below (below_alloc (Below.refl _ _) _) (pw_cell_below hb hc)
  go_enter Tryz.func37, Tryz.ntmps37
  go_wp2
  go_ret
  exact ⟨rfl, below_alloc (Below.refl _ _) _⟩
def colltable_ofEntry.f (l0_0 : List (S50)) (l0_1 : List (S43)) (a0_2 : Int) (a0_3 : Int) (a0_4 : Int) (l1_0 : List Int) (l1_1 : List (S41)) : Option (Int) := some (enErr a0_2 l1_0 l1_1)
set_option maxHeartbeats 1000000 in
theorem colltable_ofEntry.calls (A0_0 : Option Addr) (c0_0 : Nat) (l0_0 : List (S50)) (A0_1 : Option Addr) (c0_1 : Nat) (l0_1 : List (S43)) (a0_2 : Int) (a0_3 : Int) (a0_4 : Int) (A1_0 : Option Addr) (c1_0 : Nat) (l1_0 : List Int) (A1_1 : Option Addr) (c1_1 : Nat) (l1_1 : List (S41)) (r : Int) (w : World) (hr0_0 : Kd.C k50 w A0_0 l0_0.length l0_0) (hc0_0 : l0_0.length ≤ c0_0) (hr0_1 : Kd.C k43 w A0_1 l0_1.length l0_1) (hc0_1 : l0_1.length ≤ c0_1) (hr1_0 : Kd.C (Kd.int .i64) w A1_0 l1_0.length l1_0) (hc1_0 : l1_0.length ≤ c1_0) (hr1_1 : Kd.C k41 w A1_1 l1_1.length l1_1) (hc1_1 : l1_1.length ≤ c1_1) (h : colltable_ofEntry.f l0_0 l0_1 a0_2 a0_3 a0_4 l1_0 l1_1 = some r) :
    Calls Tryz.prog 18 #[.agg #[.slice A0_0 l0_0.length c0_0, .slice A0_1 l0_1.length c0_1, .int .i64 a0_2, .int .i64 a0_3, .int .i64 a0_4], .agg #[.slice A1_0 l1_0.length c1_0, .slice A1_1 l1_1.length c1_1]] w fun e w' => e = .returned (.int .i64 r) ∧ Below w.heap.size w w' := by
  have HRES := Aside0.mk (Option.some.inj h)
  have HR0 := Aside0.mk hr1_0
  have HR1 := Aside0.mk hr1_1
  have HC0 := Aside0.mk hc1_0
  have HC1 := Aside0.mk hc1_1
  have hlen : l1_1.length ≤ 9223372036854775807 := hr1_1.2.1
  clear h hr0_0 hc0_0 hr0_1 hc0_1 hr1_0 hc1_0 hr1_1 hc1_1
  have HL := Aside0.mk (show (l1_0.length < 1 ∨ 8 < l1_0.length ∨ 16 < l1_1.length) → enErr a0_2 l1_0 l1_1 = 2 from fun h => if_pos h)
  by_cases h1 : l1_0.length < 1
  · have f1 : decide ((l1_0.length : Int) < 1) = true := decide_eq_true (by omega)
    have f2 : decide (l1_0.length < 1) = true := decide_eq_true h1
    have HE := Aside0.mk (HL.out (.inl h1))
    clear h1
    go_enter Tryz.func18, Tryz.ntmps18
    go_wp2
    go_ret
    exact ⟨by rw [← HRES.out, HE.out]; rfl, below_alloc (below_alloc (Below.refl _ _) _) _⟩
  have f1 : decide ((l1_0.length : Int) < 1) = false := decide_eq_false (by omega)
  have f2 : decide (l1_0.length < 1) = false := decide_eq_false h1
  by_cases h2 : 8 < l1_0.length
  · have f3 : decide (8 < (l1_0.length : Int)) = true := decide_eq_true (by omega)
    have f4 : decide (8 < l1_0.length) = true := decide_eq_true h2
    have HE := Aside0.mk (HL.out (.inr (.inl h2)))
    clear h1 h2
    go_enter Tryz.func18, Tryz.ntmps18
    go_wp2
    go_ret
    exact ⟨by rw [← HRES.out, HE.out]; rfl, below_alloc (below_alloc (Below.refl _ _) _) _⟩
  have f3 : decide (8 < (l1_0.length : Int)) = false := decide_eq_false (by omega)
  have f4 : decide (8 < l1_0.length) = false := decide_eq_false h2
  by_cases h3 : 16 < l1_1.length
  · have f5 : decide (16 < (l1_1.length : Int)) = true := decide_eq_true (by omega)
    have f6 : decide (16 < l1_1.length) = true := decide_eq_true h3
    have HE := Aside0.mk (HL.out (.inr (.inr h3)))
    clear h1 h2 h3
    go_enter Tryz.func18, Tryz.ntmps18
    go_wp2
    go_ret
    exact ⟨by rw [← HRES.out, HE.out]; rfl, below_alloc (below_alloc (Below.refl _ _) _) _⟩
  have f5 : decide (16 < (l1_1.length : Int)) = false := decide_eq_false (by omega)
  have f6 : decide (16 < l1_1.length) = false := decide_eq_false h3
  have HN := Aside0.mk (show enErr a0_2 l1_0 l1_1 = if l1_0.any (fun n => !validP n) then 1 else if elErr l1_1 ≠ 0 then elErr l1_1 else if l1_1.any (fun e => decide (a0_2 ≤ e.f0)) then 1 else 0 from if_neg (by omega))
  clear h1 h2 h3 HL
  go_enter Tryz.func18, Tryz.ntmps18
  go_wp2_with fail
  have hbox : Below w.heap.size w ((w.alloc (.cells #[.slice A0_0 l0_0.length c0_0, .slice A0_1 l0_1.length c0_1, .int .i64 a0_2, .int .i64 a0_3, .int .i64 a0_4] 25)).alloc (.cells #[.slice A1_0 l1_0.length c1_0, .slice A1_1 l1_1.length c1_1] 50)) := below_alloc (below_alloc (Below.refl _ _) _) _
  have hb1 := blk_alloc (blk_new w (.cells #[.slice A0_0 l0_0.length c0_0, .slice A0_1 l0_1.length c0_1, .int .i64 a0_2, .int .i64 a0_3, .int .i64 a0_4] 25)) (.cells #[.slice A1_0 l1_0.length c1_0, .slice A1_1 l1_1.length c1_1] 50)
  have hb2 : ((w.alloc (.cells #[.slice A0_0 l0_0.length c0_0, .slice A0_1 l0_1.length c0_1, .int .i64 a0_2, .int .i64 a0_3, .int .i64 a0_4] 25)).alloc (.cells #[.slice A1_0 l1_0.length c1_0, .slice A1_1 l1_1.length c1_1] 50)).heap[w.heap.size + 1]? = some (.cells #[.slice A1_0 l1_0.length c1_0, .slice A1_1 l1_1.length c1_1] 50) := by
    have := blk_new (w.alloc (.cells #[.slice A0_0 l0_0.length c0_0, .slice A0_1 l0_1.length c0_1, .int .i64 a0_2, .int .i64 a0_3, .int .i64 a0_4] 25)) (.cells #[.slice A1_0 l1_0.length c1_0, .slice A1_1 l1_1.length c1_1] 50)
    simpa using this
  generalize ((w.alloc (.cells #[.slice A0_0 l0_0.length c0_0, .slice A0_1 l0_1.length c0_1, .int .i64 a0_2, .int .i64 a0_3, .int .i64 a0_4] 25)).alloc (.cells #[.slice A1_0 l1_0.length c1_0, .slice A1_1 l1_1.length c1_1] 50)) = w1 at hbox hb1 hb2 ⊢
  have HB := Aside0.mk hbox
  have HB1 := Aside0.mk hb1
  have HB2 := Aside0.mk hb2
  clear hbox hb1 hb2
  refine (slices_ContainsFunc_int_int.calls (fun n => !validP n) 33 #[] (enters_of Tryz.func33 (by kernel_rfl) rfl) _ _ l1_0 _ (Kd.C_below HR0.out HB.out) (ofEntry1_pred _ _)).mono ?_
  rintro e w2 ⟨rfl, hb⟩
  have HBn := Aside0.mk (HB.out.trans (hb.mono HB.out.size))
  have HB1n := Aside0.mk (blk_below HB1.out hb)
  have HB2n := Aside0.mk (blk_below HB2.out hb)
  clear HB HB1 HB2 hb
  obtain ⟨bv, hbv⟩ : ∃ b, l1_0.any (fun n => !validP n) = b := ⟨_, rfl⟩
  rw [hbv]
  have HBV := Aside0.mk hbv
  clear hbv
  cases bv with
  | true =>
    go_wp2
    go_ret
    exact ⟨by rw [← HRES.out, HN.out, HBV.out]; rfl, HBn.out⟩
  | false =>
    have hc : w2.cell? ⟨w.heap.size + 1, 1, none⟩ = some (.slice A1_1 l1_1.length c1_1) := (blk_cell HB2n.out 1).trans rfl
    go_wp2
    go_loopg [30] l1_1.length (fun g v30 w' => ∃ (x : Int), v30 = .int .i64 x ∧ Aside0 (g = l1_1.length - x.toNat ∧ 0 ≤ x ∧ x ≤ l1_1.length ∧ ∀ j y, j < x.toNat → l1_1[j]? = some y → elemErr y = 0) ∧ Aside0 (w'.heap[w.heap.size]? = some (.cells #[.slice A0_0 l0_0.length c0_0, .slice A0_1 l0_1.length c0_1, .int .i64 a0_2, .int .i64 a0_3, .int .i64 a0_4] 25 (0, 0))) ∧ Aside0 (w'.heap[w.heap.size + 1]? = some (.cells #[.slice A1_0 l1_0.length c1_0, .slice A1_1 l1_1.length c1_1] 50 (0, 0))) ∧ Aside0 (Below w.heap.size w w'))
    case atStart => exact ⟨0, rfl, ⟨by simp, by omega, by omega, fun j y h1 h2 => absurd h1 (by simp)⟩, HB1n, HB2n, HBn⟩
    clear hc HB1n HB2n HBn
    case round =>
      obtain ⟨x, rfl, HG, HB1, HB2, HB⟩ := hrel
      have h0 : 0 ≤ x := HG.out.2.1
      by_cases hlt : x < (l1_1.length : Int)
      · obtain ⟨ad, e, hx0, hx1, hx2, hx3⟩ := at_T41 HR1.out x h0 hlt
        cases e
        replace hx0 := pw_cell_below HB.out hx0
        replace hx1 := pw_cell_below HB.out hx1
        replace hx2 := pw_cell_below HB.out hx2
        replace hx3 := pw_cell_below HB.out hx3
        have hget : l1_1[x.toNat]? = some (rd_T41 l1_1 x) := by
          unfold rd_T41
          rw [List.getD_eq_getElem?_getD, List.getElem?_eq_getElem (by omega)]
          rfl
        have HWR := Aside0.mk (wrap_up h0 (show x < 9223372036854775807 by omega))
        obtain ⟨gx, hgx⟩ : ∃ gx, rd_T41 l1_1 x = gx := ⟨_, rfl⟩
        rw [hgx] at hx0 hx1 hx2 hx3 hget
        have HGET := Aside0.mk hget
        clear hgx hget
        have HEL := Aside0.mk (element_at 0 gx)
        obtain ⟨r1, hr1⟩ : ∃ r1, elemErr gx = r1 := ⟨_, rfl⟩
        rw [hr1] at HEL
        have HR := Aside0.mk hr1
        clear hr1
        go_wp2_with fail
        refine (element_Check.calls 1 gx.f0 gx.f1 gx.f2 gx.f3 r1 _ HEL.out).mono ?_
        rintro e w3 ⟨rfl, hbe⟩
        have HB1n := Aside0.mk (blk_below (blk_alloc HB1.out _) hbe)
        have HB2n := Aside0.mk (blk_below (blk_alloc HB2.out _) hbe)
        have HBn := Aside0.mk (below_step (below_alloc HB.out _) hbe)
        clear hbe
        by_cases hr : r1 = 0
        · subst hr
          go_wp2
          go_roundg (l1_1.length - (x + 1).toNat)
          case measure => have := HG.out; omega
          case rel =>
            refine ⟨x + 1, by rw [← HWR.out], ⟨rfl, by omega, by omega, fun j y h1 h2 => ?_⟩, HB1n, HB2n, HBn⟩
            by_cases h : j < x.toNat
            · exact HG.out.2.2.2 j y h h2
            · obtain rfl : j = x.toNat := by omega
              rw [HGET.out] at h2
              rw [← Option.some.inj h2]
              exact HR.out
        · have hr' : (r1 != 0) = true := by rw [bne_iff_ne]; exact hr
          have HNZ := Aside0.mk hr
          clear hr
          go_wp2
          go_ret
          refine ⟨?_, HBn.out⟩
          have he := elErr_hit l1_1 x.toNat gx HGET.out (fun j y h1 h2 => HG.out.2.2.2 j y h1 h2) (by rw [HR.out]; exact HNZ.out)
          rw [← HRES.out, HN.out, HBV.out, he, HR.out, if_neg (by simp), if_pos HNZ.out]
          rfl
      · have HE0 := Aside0.mk (elErr_none l1_1 (fun j y h => by
          have hj := (List.getElem?_eq_some_iff.1 h).1
          exact HG.out.2.2.2 j y (by omega) h))
        have hc : wr.cell? ⟨w.heap.size + 1, 1, none⟩ = some (.slice A1_1 l1_1.length c1_1) := (blk_cell HB2.out 1).trans rfl
        have hcb : wr.cell? ⟨w.heap.size, 2, none⟩ = some (.int .i64 a0_2) := (blk_cell HB1.out 2).trans rfl
        have HP := Aside0.mk (ofEntry2_pred l1_1 wr w.heap.size a0_2 (blk_lt HB1.out) hcb)
        clear hcb
        go_wp2_with fail
        refine (api_Element_36.calls (fun e => decide (a0_2 ≤ e.f0)) 37 _ (enters_of Tryz.func37 (by kernel_rfl) rfl) _ _ l1_1 _ (Kd.C_below HR1.out HB.out) HP.out).mono ?_
        rintro e w2 ⟨rfl, hb⟩
        have HBn := Aside0.mk (HB.out.trans (hb.mono HB.out.size))
        clear hb hc
        obtain ⟨bz, hbz⟩ : ∃ b, l1_1.any (fun e => decide (a0_2 ≤ e.f0)) = b := ⟨_, rfl⟩
        rw [hbz]
        have HBZ := Aside0.mk hbz
        clear hbz
        cases bz with
        | true =>
          go_wp2
          go_ret
          exact ⟨by rw [← HRES.out, HN.out, HBV.out, HE0.out, HBZ.out]; rfl, HBn.out⟩
        | false =>
          go_wp2
          go_ret
          exact ⟨by rw [← HRES.out, HN.out, HBV.out, HE0.out, HBZ.out]; rfl, HBn.out⟩
end Go.Proofs.YtfcpebjjcijgcaaGreatDoor.G
-- unicodetext/codepoint.order: printed by gprint.py
namespace Go.Proofs.YtfcpebjjcijgcaaGreatDoor.G
open Go.RowKit Go.Proofs.YtfcpebjjcijgcaaGreatDoorW.PrintWords Go.Proofs.YtfcpebjjcijgcaaGreatDoorW.PrintLast Go.Proofs.YtfcpebjjcijgcaaGreatDoorW.PrintMore
attribute [local go_sem] max2_int min2_int max_two min_two max_three min_three max_four min_four   -- for this text's walks alone
set_option linter.unusedVariables false
set_option linter.unusedSimpArgs false
/-! ### codepoint_order: function 38 -/
def codepoint_order.f (a0 : Int) (a1 : Int) : Option (Int) := if a0 < a1 then (some (-1)) else (if a0 > a1 then (some 1) else (some 0))
set_option maxHeartbeats 8000000 in
set_option maxRecDepth 100000 in
theorem codepoint_order.calls (a0 : Int) (a1 : Int) (r : Int) (w : World) (h : codepoint_order.f a0 a1 = some r) :
    Calls Tryz.prog 38 #[.int .i64 a0, .int .i64 a1] w fun e w' => e = .returned (.int .i64 r) ∧ Drawn0 w w' := by
  have H : (if a0 < a1 then (some (-1)) else (if a0 > a1 then (some 1) else (some 0))) = some r := h
  clear h
  by_cases c3 : a0 < a1
  · rw [if_pos c3] at H
    have c3b0 : decide (a0 < a1) = true := decide_eq_true c3
    clear c3
    obtain rfl := Option.some.inj H
    go_enter Tryz.func38, Tryz.ntmps38
    go_wp2
    go_ret
    exact ⟨by first | rfl | (simp; done) | (simp [*]; done), by repeat (first | exact Drawn0.refl _ | apply Drawn0.step)⟩
  · rw [if_neg c3] at H
    have c3b0 : decide (a0 < a1) = false := decide_eq_false c3
    clear c3
    by_cases c4 : a0 > a1
    · rw [if_pos c4] at H
      have c4b0 : decide (a1 < a0) = true := decide_eq_true c4
      clear c4
      obtain rfl := Option.some.inj H
      go_enter Tryz.func38, Tryz.ntmps38
      go_wp2
      go_ret
      exact ⟨by first | rfl | (simp; done) | (simp [*]; done), by repeat (first | exact Drawn0.refl _ | apply Drawn0.step)⟩
    · rw [if_neg c4] at H
      have c4b0 : decide (a1 < a0) = false := decide_eq_false c4
      clear c4
      obtain rfl := Option.some.inj H
      go_enter Tryz.func38, Tryz.ntmps38
      go_wp2
      go_ret
      exact ⟨by first | rfl | (simp; done) | (simp [*]; done), by repeat (first | exact Drawn0.refl _ | apply Drawn0.step)⟩
end Go.Proofs.YtfcpebjjcijgcaaGreatDoor.G
-- unicodetext/codepoint.Compare: by hand
namespace Go.Proofs.YtfcpebjjcijgcaaGreatDoor.G
open Go.RowKit Go.Proofs.YtfcpebjjcijgcaaGreatDoorW.PrintWords Go.Proofs.YtfcpebjjcijgcaaGreatDoorW.PrintLast Go.Proofs.YtfcpebjjcijgcaaGreatDoorW.PrintMore
attribute [local go_sem] max2_int min2_int max_two min_two max_three min_three max_four min_four   -- for this text's walks alone
set_option linter.unusedVariables false
set_option linter.unusedSimpArgs false
-- BY HAND: function 19 (codepoint_Compare)
/-- Which of two sequences is less: -1, 0, 1. -/
def cmpL : List Int → List Int → Int
  | [], [] => 0
  | [], _ :: _ => -1
  | _ :: _, [] => 1
  | a :: l, b :: m => if a = b then cmpL l m else if a < b then -1 else 1
theorem cmpL_drop (l m : List Int) (i : Nat) (h1 : i < l.length) (h2 : i < m.length) : cmpL (l.drop i) (m.drop i) = if rd l i = rd m i then cmpL (l.drop (i + 1)) (m.drop (i + 1)) else if rd l i < rd m i then -1 else 1 := by
  rw [List.drop_eq_getElem_cons h1, List.drop_eq_getElem_cons h2]
  simp only [cmpL, rd, Int.toNat_natCast, List.getD_eq_getElem?_getD, List.getElem?_eq_getElem h1, List.getElem?_eq_getElem h2, Option.getD_some]
theorem cmpL_end (l m : List Int) (i : Nat) (h1 : i ≤ l.length) (h2 : i ≤ m.length) (h : i = l.length ∨ i = m.length) : cmpL (l.drop i) (m.drop i) = if (l.length : Int) < (m.length : Int) then -1 else if (m.length : Int) < (l.length : Int) then 1 else 0 := by
  cases ha : l.drop i with
  | nil =>
    have e1 : l.length ≤ i := by have := congrArg List.length ha; simp at this; omega
    cases hb : m.drop i with
    | nil =>
      have e2 : m.length ≤ i := by have := congrArg List.length hb; simp at this; omega
      rw [if_neg (by omega), if_neg (by omega)]
      rfl
    | cons b mb =>
      have e2 : i < m.length := by have := congrArg List.length hb; simp at this; omega
      rw [if_pos (by omega)]
      rfl
  | cons a la =>
    have e1 : i < l.length := by have := congrArg List.length ha; simp at this; omega
    have e2 : m.length ≤ i := by omega
    rw [List.drop_eq_nil_of_le e2, if_neg (by omega), if_pos (by omega)]
    rfl
theorem order_f (a b : Int) : codepoint_order.f a b = some (if a < b then -1 else if b < a then 1 else 0) := by
  unfold codepoint_order.f
  split
  · rfl
  · split <;> rfl
def codepoint_Compare.f (l0 : List Int) (l1 : List Int) : Option (Int) := some (cmpL l0 l1)
set_option maxHeartbeats 1000000 in
theorem codepoint_Compare.calls (A0 : Option Addr) (c0 : Nat) (l0 : List Int) (A1 : Option Addr) (c1 : Nat) (l1 : List Int) (r : Int) (w : World) (hr0 : Kd.C (Kd.int .i64) w A0 l0.length l0) (hc0 : l0.length ≤ c0) (hr1 : Kd.C (Kd.int .i64) w A1 l1.length l1) (hc1 : l1.length ≤ c1) (h : codepoint_Compare.f l0 l1 = some r) :
    Calls Tryz.prog 19 #[.slice A0 l0.length c0, .slice A1 l1.length c1] w fun e w' => e = .returned (.int .i64 r) ∧ Below w.heap.size w w' := by
  have HRES := Aside0.mk (Option.some.inj h)
  have HR0 := Aside0.mk hr0
  have HR1 := Aside0.mk hr1
  have hm0 : l0.length ≤ 9223372036854775807 := hr0.2.1
  have hm1 : l1.length ≤ 9223372036854775807 := hr1.2.1
  clear h hr0 hr1 hc0 hc1
  obtain ⟨n, hn⟩ : ∃ n : Nat, (if l1.length < l0.length then l1.length else l0.length) = n := ⟨_, rfl⟩
  have hn1 : n ≤ l0.length := by split at hn <;> omega
  have hn2 : n ≤ l1.length := by split at hn <;> omega
  have hn3 : n = l0.length ∨ n = l1.length := by split at hn <;> omega
  have e1 : (if (l1.length : Int) < (l0.length : Int) then (l1.length : Int) else (l0.length : Int)) = (n : Int) := by split <;> split at hn <;> omega
  have e2 : (if l1.length < l0.length then (l1.length : Int) else (l0.length : Int)) = (n : Int) := by split <;> split at hn <;> omega
  have HN3 := Aside0.mk hn3
  clear hn hn3
  go_enter Tryz.func19, Tryz.ntmps19
  go_wp2
  repeat (go_quiet (fail); try go_wp2)
  go_loopg [11] n (fun g v11 w' => ∃ i : Nat, v11 = .int .i64 i ∧ Aside0 (g = n - i ∧ i ≤ n ∧ cmpL (l0.drop i) (l1.drop i) = cmpL l0 l1) ∧ Aside0 (Below w.heap.size w w'))
  case atStart => exact ⟨0, rfl, ⟨by simp, by omega, by simp⟩, ⟨by first | exact Below.refl _ _ | exact pw_below_drewN (Below.refl _ _) _ | exact below_drew (Below.refl _ _)⟩⟩
  case round =>
    obtain ⟨i, rfl, HG, HB⟩ := hrel
    clear e1 e2
    by_cases hlt : i < n
    · have hlz : (i : Int) < (n : Int) := by omega
      have p0 : 0 ≤ (i : Int) := by omega
      have q0 : (i : Int) < (l0.length : Int) := by omega
      have q1 : (i : Int) < (l1.length : Int) := by omega
      obtain ⟨ad, e, hx⟩ := Kd.at_int HR0.out (i : Int) p0 q0
      obtain ⟨ad1, e1, hy⟩ := Kd.at_int HR1.out (i : Int) p0 q1
      cases e
      cases e1
      replace hx := pw_cell_below HB.out hx
      replace hy := pw_cell_below HB.out hy
      rw [Int.toNat_natCast] at hx hy
      have HST := Aside0.mk (cmpL_drop l0 l1 i (by omega) (by omega))
      obtain ⟨a, ha⟩ : ∃ a, rd l0 (i : Int) = a := ⟨_, rfl⟩
      obtain ⟨b, hb⟩ : ∃ b, rd l1 (i : Int) = b := ⟨_, rfl⟩
      rw [ha] at hx HST
      rw [hb] at hy HST
      clear ha hb
      by_cases hab : a = b
      · subst hab
        go_wp2
        repeat (go_quiet (fail); try go_wp2)
        go_roundg (n - (i + 1))
        case measure => have := HG.out; omega
        case rel =>
          refine ⟨i + 1, by go_num, ⟨rfl, by omega, ?_⟩, ⟨by first | exact HB.out | exact pw_below_drewN HB.out _ | exact below_drew HB.out⟩⟩
          rw [← HG.out.2.2, HST.out]
          simp
      · have hab' : (a == b) = false := beq_eq_false_iff_ne.2 hab
        have hab2 : (a != b) = true := bne_iff_ne.2 hab
        obtain ⟨r1, hr1⟩ : ∃ r1 : Int, (if a < b then -1 else if b < a then 1 else 0) = r1 := ⟨_, rfl⟩
        have HORD := Aside0.mk (hr1 ▸ order_f a b)
        have HFIN : Aside0 (cmpL l0 l1 = r1) := ⟨by rw [← HG.out.2.2, HST.out, if_neg hab, ← hr1]; split <;> (try rfl); split <;> (try rfl); omega⟩
        clear hab hr1
        go_wp2
        repeat (go_quiet (fail); try go_wp2)
        go_quiet ((go_at_call 38; (with_reducible refine (codepoint_order.calls a b r1 _ HORD.out).mono ?_); rintro e w' ⟨rfl, ⟨nd, rfl⟩⟩; (try first | exact ⟨rfl, _, World.drewN_drewN _ _ _⟩ | exact ⟨rfl, _, Eq.trans (World.drewN_drewN _ _ _) (congrArg (World.drewN _) (Nat.add_assoc _ _ _))⟩)))
        go_wp2
        go_ret
        exact ⟨by rw [← HRES.out, HFIN.out]; rfl, by repeat (first | exact HB.out | apply pw_below_drewN | apply below_drew1)⟩
    · obtain ⟨r1, hr1⟩ : ∃ r1 : Int, (if (l0.length : Int) < (l1.length : Int) then -1 else if (l1.length : Int) < (l0.length : Int) then 1 else 0) = r1 := ⟨_, rfl⟩
      have HORD := Aside0.mk (hr1 ▸ order_f (l0.length : Int) (l1.length : Int))
      have HFIN : Aside0 (cmpL l0 l1 = r1) := ⟨by rw [← HG.out.2.2, cmpL_end l0 l1 i (by have := HG.out; omega) (by have := HG.out; omega) (by have := HG.out; have := HN3.out; omega), hr1]⟩
      clear hr1
      go_wp2_with fail
      refine (codepoint_order.calls (l0.length : Int) (l1.length : Int) r1 _ HORD.out).mono ?_
      rintro e w' ⟨rfl, ⟨nd, rfl⟩⟩
      go_wp2
      go_ret
      exact ⟨by rw [← HRES.out, HFIN.out]; rfl, pw_below_drewN HB.out _⟩
end Go.Proofs.YtfcpebjjcijgcaaGreatDoor.G
