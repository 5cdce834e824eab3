/- What the rows' list of refusals gives the walks: each variable's cell, each pointee apart from the others. -/
import Derived.Test.YtbdfjiobegadjaaDoorRows
import Derived.LaidLaws
import Derived.LaidEql
import Derived.Stop.LaidErr
import Derived.WalkKit
namespace Go.Proofs.YtbdfjiobegadjaaDoor
open Go
set_option maxRecDepth 100000
/-- The refusals' cells, of the first three: variable i holds a pointer of its own. -/
structure Errs (W : World) (ad : Nat → Addr) : Prop where
  cell : ∀ i, i < 3 → W.cell? ⟨i, 0, none⟩ = some (.iface 148 (.pointer (some (ad i))))
  inj : ∀ i j, i < 3 → j < 3 → ad i = ad j → i = j
  blk : ∀ i, i < 3 → ∃ c t, W.heap[(ad i).block]? = some (.cells c t (0, 0))
abbrev sent (text : List UInt8) : DataW Unit := .iface "*errors.errorString" (.ptr (.agg [.lit (.string text)]))
def names : List String := ["copse/api.ErrArg", "copse/api.ErrText", "copse/api.ErrMany", "copse/api.ErrShort", "copse/api.ErrTwice", "copse/api.ErrLost", "copse/api.ErrFull", "copse/api.ErrDead", "copse/api.ErrCorrupt", "copse/api.ErrStatus", "copse/api.ErrTxid", "copse/api.ErrOrder", "copse/api.ErrKind"]
theorem globals_at : ∀ i, i < 13 → Tryd.prog.globalNamed (names.getD i "") = some i ∧ (Tryd.prog.globals[i]?).map (·.type) = some 26 := by
  have h : (List.range 13).all (fun i => Tryd.prog.globalNamed (names.getD i "") == some i && (Tryd.prog.globals[i]?).map (·.type) == some 26) = true := by kernel_rfl
  intro i hi
  have := List.all_eq_true.1 h i (List.mem_range.2 hi)
  simpa using this
theorem star : "*" ++ "errors.errorString" = "*errors.errorString" := by decide
theorem row148 (u : TypeId) (h : Tryd.prog.typeName? 3 u = some "*errors.errorString") : u = 148 :=
  typeName_ptr_named (nm := "errors.errorString") (by rw [star]; kernel_rfl) (by kernel_rfl) (by decide) u (by rw [star]; exact h)
theorem cells162 : Tryd.prog.cellsOf 162 = 1 := by kernel_rfl
theorem cells9 : Tryd.prog.cellsOf 9 = 1 := by kernel_rfl
theorem open_sents {W : World} : ∀ (l : List (Nat × List UInt8)) (ps : List MemPlace), (∀ x ∈ l, x.1 < 13) → DataW.LaidVars Tryd.prog W (l.map fun x => (names.getD x.1 "", sent x.2)) ps →
    (∀ b off, MemPlace.cell b off ∈ ps → ∀ u v, W.cell? ⟨b, off, none⟩ = some (.iface u v) → Value.okWide Tryd.prog W .any 0 u v) →
    ∃ az : List Addr, az.length = l.length ∧ ps = (l.zip az).flatMap (fun (x : (Nat × List UInt8) × Addr) => [MemPlace.cell x.1.1 0, MemPlace.cell x.2.block x.2.off]) ∧
      ∀ (j : Nat) (x : Nat × List UInt8) (a : Addr), l[j]? = some x → az[j]? = some a → W.cell? ⟨x.1, 0, none⟩ = some (.iface 148 (.pointer (some a)))
  | [], ps, _, h, _ => ⟨[], rfl, h, fun j x a hx => by simp at hx⟩
  | x :: l, ps, hl, h, hrows => by
    obtain ⟨g0, t0, cs0, f0, p0, q0, hg0, ht0, hv0, hd0, hq0, e0⟩ := h
    obtain ⟨hg, ht⟩ := globals_at x.1 (hl x (by simp))
    obtain rfl := Option.some.inj (hg.symm.trans hg0)
    obtain rfl := Option.some.inj (ht.symm.trans ht0)
    obtain ⟨l0⟩ := cs0
    have hcell : ∀ u v, l0 = [.iface u v] → W.cell? ⟨x.1, 0, none⟩ = some (.iface u v) := fun u v e => by
      subst e
      simpa using World.var?_cell hg hv0 0
    have ok0 : ∀ u v, l0 = [.iface u v] → Value.okWide Tryd.prog W .any 0 u v := fun u v e => by
      have hc := hcell u v e
      subst e
      exact hrows x.1 0 (by rw [e0]; simp [MemPlace.row]) u v hc
    obtain ⟨a, s, hcs, hc0, hs0, hz0, rfl⟩ := errorString_of_trod Tryd.underlying26 row148 Tryd.underlying148 Tryd.underlying162 rfl rfl Tryd.underlying9 cells162 cells9 hd0 ok0
    have hcs' : l0 = [.iface 148 (.pointer (some a))] := hcs
    subst hcs'
    obtain ⟨az, h1, h2, h3⟩ := open_sents l q0 (fun y hy => hl y (by simp [hy])) hq0 (fun b off hm => hrows b off (by rw [e0]; simp [hm]))
    refine ⟨a :: az, by simp [h1], by rw [e0, h2]; simp [MemPlace.row], ?_⟩
    intro j y b hy hb
    cases j with
    | zero =>
      simp only [List.getElem?_cons_zero, Option.some.injEq] at hy hb
      subst hy; subst hb
      exact hcell _ _ rfl
    | succ j =>
      simp only [List.getElem?_cons_succ] at hy hb
      exact h3 j y b hy hb
theorem mem_places {l : List (Nat × List UInt8)} {az : List Addr} {j : Nat} {x : Nat × List UInt8} {a : Addr} (h1 : l[j]? = some x) (h2 : az[j]? = some a) :
    MemPlace.cell a.block a.off ∈ (l.zip az).flatMap (fun (x : (Nat × List UInt8) × Addr) => [MemPlace.cell x.1.1 0, MemPlace.cell x.2.block x.2.off]) := by
  rw [List.mem_flatMap]
  exact ⟨(x, a), List.mem_of_getElem? (List.getElem?_zip_eq_some.2 ⟨h1, h2⟩), by simp⟩
theorem nodup_at {l : List (Nat × List UInt8)} : ∀ {az : List Addr}, ((l.zip az).flatMap (fun (x : (Nat × List UInt8) × Addr) => [MemPlace.cell x.1.1 0, MemPlace.cell x.2.block x.2.off])).Nodup → az.length = l.length →
    ∀ (i j : Nat) (a b : Addr), az[i]? = some a → az[j]? = some b → a = b → i = j := by
  induction l with
  | nil => intro az _ hl i j a b hi; rw [List.length_nil, List.length_eq_zero_iff] at hl; subst hl; simp at hi
  | cons x l ih =>
    intro az hn hl i j a b hi hj e
    cases az with
    | nil => simp at hi
    | cons c az =>
      simp only [List.zip_cons_cons, List.flatMap_cons, List.nodup_append] at hn
      have hl' : az.length = l.length := by simpa using hl
      have far : ∀ (k : Nat) (d : Addr), az[k]? = some d → c ≠ d := by
        intro k d hk hcd
        have hlt : k < l.length := by rw [← hl']; exact (List.getElem?_eq_some_iff.1 hk).1
        have := hn.2.2 (MemPlace.cell c.block c.off) (by simp) _ (mem_places (x := l[k]) (List.getElem?_eq_getElem hlt) hk)
        rw [hcd] at this
        exact this rfl
      cases i with
      | zero =>
        cases j with
        | zero => rfl
        | succ j =>
          simp only [List.getElem?_cons_zero, Option.some.injEq, List.getElem?_cons_succ] at hi hj
          exact absurd (hi.trans e) (far j b hj)
      | succ i =>
        cases j with
        | zero =>
          simp only [List.getElem?_cons_zero, Option.some.injEq, List.getElem?_cons_succ] at hi hj
          exact absurd (hj.trans e.symm) (far i a hi)
        | succ j =>
          simp only [List.getElem?_cons_succ] at hi hj
          rw [ih hn.2.1 hl' i j a b hi hj e]
/-- The four texts that the row lays, and their variables. -/
def texts : List (List UInt8) := (Rows.wireStreamRow.laid.drop 3).map fun x => match x.2 with | .iface _ (.ptr (.agg [.lit (.string t)])) => t | _ => []
def ixs : List Nat := [0, 1, 2, 5]
theorem all_laid : Rows.wireStreamRow.laid.drop 3 = (ixs.zip texts).map fun x => (names.getD x.1 "", sent x.2) := by rfl
theorem errs_of_laid {W : World} (h : laidMet Tryd.prog (Rows.wireStreamRow.laid.drop 3) W) : ∃ ad, Errs W ad := by
  obtain ⟨ps, hl, hnd, hrows⟩ := h
  rw [all_laid] at hl
  have hzl : (ixs.zip texts).length = 4 := rfl
  have hix : ∀ x ∈ ixs.zip texts, x.1 < 13 := fun x hx => (show ∀ i ∈ ixs, i < 13 by decide) x.1 (List.of_mem_zip hx).1
  obtain ⟨az, h1, h2, h3⟩ := open_sents _ ps hix hl (fun b off hm => (hrows b off hm).2)
  rw [hzl] at h1
  have hget : ∀ i, i < 3 → az[i]? = some (az.getD i default) ∧ (ixs.zip texts)[i]? = some (i, texts.getD i []) := by
    intro i hi
    refine ⟨by rw [List.getD_eq_getElem?_getD, List.getElem?_eq_getElem (by omega)]; rfl, ?_⟩
    match i, hi with
    | 0, _ => rfl
    | 1, _ => rfl
    | 2, _ => rfl
  rw [h2] at hnd
  refine ⟨fun i => az.getD i default, fun i hi => h3 i _ _ (hget i hi).2 (hget i hi).1, fun i j hi hj e => nodup_at hnd (by rw [h1, hzl]) i j _ _ (hget i hi).1 (hget j hj).1 e, fun i hi => ?_⟩
  exact (hrows _ (az.getD i default).off (by rw [h2]; exact mem_places (hget i hi).2 (hget i hi).1)).1
end Go.Proofs.YtbdfjiobegadjaaDoor
