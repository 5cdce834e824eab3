/- Whatever data reads by a type reads by the kind of that type: the frame of a law's parameters. Plain, over any program. -/
import Derived.Test.YthlolfncdjaniaaDoorWWords
import Derived.ChangeArms
import Derived.DataReads
import Derived.SizedLaws
namespace Go.Proofs.YthlolfncdjaniaaDoor.Op
open Go Go.RowKit Go.Proofs.YthlolfncdjaniaaDoorW.PrintWords
set_option linter.unusedVariables false
/-- At this fuel: what the walk of the data takes at type t is of kind d, and Q of what it stands for. -/
structure OpensAt (P : Program) (n : Nat) (t : TypeId) {α : Type} (d : Kd α) (Q : α → Prop) : Prop where
  run : ∀ {H : Type} (enc : TypeId × Value → H) (W : World) (sp : Nat → Bool) (held : Bool) (cs : List Value) (x : DataW H × List MemPlace),
    DataW.trod enc P W 0 sp held n t cs = some x → (∀ m ∈ x.1.weights P t, m ≤ reachBytes) → ∃ a : α, d.K W a cs ∧ Q a
section
variable {P : Program} {n : Nat} {t e : TypeId} {α β γ : Type} {d : Kd α} {Q : α → Prop}
theorem opens_mono (h : OpensAt P n t d Q) {Q' : α → Prop} (hQ : ∀ a, Q a → Q' a) : OpensAt P n t d Q' := .mk fun enc W sp held cs x hx hw => by
  obtain ⟨a, h1, h2⟩ := h.run enc W sp held cs x hx hw
  exact ⟨a, h1, hQ a h2⟩
theorem opens_int {k : IntKind} (ht : P.underlying t = some (.int k)) : OpensAt P n t (Kd.int k) (fun a => (Lit.int k a).wf = true) := .mk fun enc W sp held cs x hx hw => by
  cases n with
  | zero => simp [DataW.trod] at hx
  | succ n =>
    unfold DataW.trod at hx
    rw [ht] at hx
    split at hx <;> simp_all
    exact ⟨_, rfl, by first | assumption | (rename_i h1 h2; first | exact h1.1.2 | exact h2.1.2 | simp_all)⟩
theorem opens_bool (ht : P.underlying t = some .bool) : OpensAt P n t Kd.bool (fun _ => True) := .mk fun enc W sp held cs x hx hw => by
  cases n with
  | zero => simp [DataW.trod] at hx
  | succ n =>
    unfold DataW.trod at hx
    rw [ht] at hx
    split at hx
    all_goals try (exfalso; simp_all; done)
    rename_i b _
    exact ⟨b, rfl, trivial⟩
theorem opens_string (ht : P.underlying t = some .string) : OpensAt P n t Kd.string (fun s => s.size ≤ reachBytes) := .mk fun enc W sp held cs x hx hw => by
  cases n with
  | zero => simp [DataW.trod] at hx
  | succ n =>
    unfold DataW.trod at hx
    rw [ht] at hx
    split at hx
    all_goals try (exfalso; simp_all; done)
    rename_i s _
    split at hx
    · obtain rfl := Option.some.inj hx
      refine ⟨s, rfl, ?_⟩
      have := hw s.data.toList.length (by simp [DataW.weights])
      simpa using this
    · cases hx
theorem cells_of (W : World) (a : Addr) (k : Nat) (cs : List Value) (h : W.cells? 0 a k = some cs) : cs.length = k ∧ ∀ i u, cs[i]? = some u → W.cell? (a.add i) = some u := by
  obtain ⟨_, h1, h2⟩ := World.cells?_some h
  refine ⟨h1, fun i u hu => ?_⟩
  have := (List.getElem?_eq_some_iff.1 hu).1
  rw [h2 i (by omega), hu]
theorem weights_elem {H : Type} {P : Program} {e : TypeId} : ∀ {l : List (DataW H)} {y : DataW H}, y ∈ l → ∀ m ∈ y.weights P e, m ∈ DataW.weightsAll P e l
  | z :: l, y, hy, m, hm => by
    rw [DataW.weightsAll]
    rcases List.mem_cons.1 hy with rfl | hy
    · exact List.mem_append_left _ hm
    · exact List.mem_append_right _ (weights_elem hy m hm)
theorem choose_list {α β : Type} (R : β → α → Prop) : ∀ l : List β, (∀ y ∈ l, ∃ a, R y a) → ∃ as : List α, as.length = l.length ∧ ∀ (i : Nat) (y : β) (a : α), l[i]? = some y → as[i]? = some a → R y a
  | [], _ => ⟨[], rfl, fun i y a h => by simp at h⟩
  | y :: l, h => by
    obtain ⟨a, ha⟩ := h y (by simp)
    obtain ⟨as, h1, h2⟩ := choose_list R l (fun z hz => h z (by simp [hz]))
    refine ⟨a :: as, by simp [h1], fun i z b hz hb => ?_⟩
    cases i with
    | zero =>
      simp only [List.getElem?_cons_zero, Option.some.injEq] at hz hb
      rw [← hz, ← hb]; exact ha
    | succ i =>
      simp only [List.getElem?_cons_succ] at hz hb
      exact h2 i z b hz hb
theorem opens_slice (ht : P.underlying t = some (.slice e)) (hc : P.cellsOf e = d.sz) (he : ∀ m, m + 1 = n → OpensAt P m e d Q) :
    OpensAt P n t (Kd.slice e d) (fun l => l.length * P.bytesOf e ≤ reachBytes ∧ l.length ≤ maxLen ∧ ∀ a ∈ l, Q a) := .mk fun {H} enc W sp held cs x hx hw => by
  rcases DataW.trod_slice ht hx with ⟨rfl, rfl⟩ | ⟨a, len, cap, elems, rest, m, rfl, rfl, rfl, hb, hl, hm, hlen, hel, hsp, hns⟩
  · exact ⟨[], ⟨none, 0, rfl, Nat.le_refl _, rfl, by simp, fun h => absurd h (by simp)⟩, by simp, by simp, by simp⟩
  · have hone : ∀ i y, elems[i]? = some y → ∃ b : α, (∃ c, c.length = d.sz ∧ d.K W b c ∧ ∀ j u, c[j]? = some u → W.cell? (a.add (i * d.sz + j)) = some u) ∧ Q b := by
      intro i y hy
      have hi : i < len := by have := (List.getElem?_eq_some_iff.1 hy).1; omega
      have h1 := hel i hi
      rw [hy, Option.bind_eq_some_iff] at h1
      obtain ⟨c, hc1, hc2⟩ := h1
      obtain ⟨h3, h4⟩ := cells_of W _ _ _ hc1
      obtain ⟨b, h5, h6⟩ := (he m rfl).run enc W sp held c y hc2 (fun k hk => hw k (by
        simp only [DataW.weights, ht]
        exact List.mem_cons_of_mem _ (List.mem_append_left _ (weights_elem (List.mem_map.2 ⟨y, List.mem_of_getElem? hy, rfl⟩) k hk))))
      refine ⟨b, ⟨c, h3.trans hc, h5, fun j u hu => ?_⟩, h6⟩
      have := h4 j u hu
      rw [hc] at this
      rw [← this]
      congr 1
      unfold Addr.add
      by_cases hz : i * d.sz = 0 <;> by_cases hz2 : j = 0 <;> simp [hz, hz2, Nat.add_assoc]
    have hlist : ∀ p ∈ elems.zipIdx, ∃ b : α, (∃ c, c.length = d.sz ∧ d.K W b c ∧ ∀ j u, c[j]? = some u → W.cell? (a.add (p.2 * d.sz + j)) = some u) ∧ Q b := by
      intro p hp
      obtain ⟨y, i⟩ := p
      exact hone i y (by simpa using (List.mem_zipIdx_iff_getElem?.1 hp))
    obtain ⟨l, h1, h2⟩ := choose_list _ _ hlist
    have hll : l.length = len := by rw [h1, List.length_zipIdx, hlen]
    have hat : ∀ i b, l[i]? = some b → (∃ c, c.length = d.sz ∧ d.K W b c ∧ ∀ j u, c[j]? = some u → W.cell? (a.add (i * d.sz + j)) = some u) ∧ Q b := by
      intro i b hb
      have hi : i < elems.length := by have := (List.getElem?_eq_some_iff.1 hb).1; omega
      have hz : elems.zipIdx[i]? = some (elems[i], i) := by simp [List.getElem?_zipIdx, List.getElem?_eq_getElem hi]
      exact h2 i _ b hz hb
    refine ⟨l, ⟨some a, cap, by rw [hll], by omega, rfl, by unfold maxLen at hm; omega, fun _ => ⟨a, rfl, fun j p hj => ?_⟩⟩, ?_, by omega, fun b hb => ?_⟩
    · obtain ⟨⟨c, h3, h4, h5⟩, _⟩ := hat j p hj
      exact ⟨c, h3, h4, h5⟩
    · have := hw ((elems.length + rest.length) * P.bytesOf e) (by simp [DataW.weights, ht])
      refine Nat.le_trans (Nat.mul_le_mul_right _ ?_) this
      omega
    · obtain ⟨i, hi⟩ := List.getElem?_of_mem hb
      exact (hat i b hi).2
/-- The fields from place off on, one behind the other, up to the end of the struct's cells. -/
structure OpensF (P : Program) (n : Nat) (fs : List Field) (off total : Nat) {α : Type} (d : Kd α) (Q : α → Prop) : Prop where
  run : ∀ {H : Type} (enc : TypeId × Value → H) (W : World) (sp : Nat → Bool) (held : Bool) (cs : List Value) (xs : List (DataW H × List MemPlace)), cs.length = total → xs.length = fs.length →
    (∀ (i : Nat) (f : Field), fs[i]? = some f → DataW.trod enc P W 0 sp held n f.type ((cs.drop f.offset).take (P.cellsOf f.type)) = xs[i]?) →
    (∀ m ∈ DataW.weightsEach P (fs.map (·.type)) (xs.map (·.1)), m ≤ reachBytes) → ∃ a : α, d.K W a (cs.drop off) ∧ Q a
theorem opensF_last {f : Field} {off total : Nat} (ho : f.offset = off) (hs : off + P.cellsOf f.type = total) (h : OpensAt P n f.type d Q) : OpensF P n [f] off total d Q := .mk fun enc W sp held cs xs hl hx hf hw => by
  have h1 := hf 0 f rfl
  cases xs with
  | nil => simp at hx
  | cons x xs =>
    rw [List.getElem?_cons_zero, ho, List.take_of_length_le (by rw [List.length_drop]; omega)] at h1
    exact h.run enc W sp held _ x h1 (fun m hm => hw m (by simp [DataW.weightsEach, hm]))
theorem opensF_cons {f : Field} {fs : List Field} {off off' total : Nat} {d' : Kd β} {Q' : β → Prop} (ho : f.offset = off) (hs : off + P.cellsOf f.type = off') (h : OpensAt P n f.type d Q) (h' : OpensF P n fs off' total d' Q') :
    OpensF P n (f :: fs) off total (Kd.pair d d') (fun x => Q x.1 ∧ Q' x.2) := .mk fun enc W sp held cs xs hl hx hf hw => by
  cases xs with
  | nil => simp at hx
  | cons x xs =>
    have h1 := hf 0 f rfl
    rw [List.getElem?_cons_zero, ho] at h1
    obtain ⟨a, ha, qa⟩ := h.run enc W sp held _ x h1 (fun m hm => hw m (by simp [DataW.weightsEach, hm]))
    obtain ⟨b, hb, qb⟩ := h'.run enc W sp held cs xs hl (by simpa using hx) (fun i g hg => by
      have := hf (i + 1) g (by simpa using hg)
      simpa using this) (fun m hm => hw m (by simp [DataW.weightsEach]; exact .inr (by simpa using hm)))
    refine ⟨(a, b), ⟨_, _, ?_, ha, hb⟩, qa, qb⟩
    rw [← hs, ← List.drop_drop, List.take_append_drop]
theorem opens_struct {fs : Array Field} (ht : P.underlying t = some (.struct fs)) (h : ∀ m, m + 1 = n → OpensF P m fs.toList 0 (P.cellsOf t) d Q) : OpensAt P n t d Q := .mk fun {H} enc W sp held cs x hx hw => by
  obtain ⟨xs, m, rfl, rfl, hl, hs, hf⟩ := DataW.trod_struct ht hx
  obtain ⟨a, h1, h2⟩ := (h m rfl).run enc W sp held cs xs hl (by simpa using hs) (fun i f hf' => hf i f (by simpa using hf')) (fun k hk => hw k (by simp only [DataW.weights, ht]; exact hk))
  exact ⟨a, by simpa using h1, h2⟩
theorem opens_iso (f : β → α) (g : α → β) (hfg : ∀ a, f (g a) = a) (h : OpensAt P n t d Q) : OpensAt P n t (Kd.iso d f) (fun b => Q (f b)) := .mk fun enc W sp held cs x hx hw => by
  obtain ⟨a, h1, h2⟩ := h.run enc W sp held cs x hx hw
  exact ⟨g a, by show d.K W (f (g a)) cs; rw [hfg]; exact h1, by show Q (f (g a)); rw [hfg]; exact h2⟩
/-- From a law's one parameter. -/
theorem opens_param {H : Type} {enc : TypeId × Value → H} {W : World} {sp : Nat → Bool} {held : Bool} {v : Value} {D : DataW H} {ps : List MemPlace} {ts : List TypeId} {ds : List (DataW H)} {j : Nat}
    (h : ∀ n, OpensAt P n t d Q) (hx : DataW.Trod enc P W 0 sp held t v D ps) (hw : (DataW.weightsEach P ts ds).all (· ≤ reachBytes) = true) (hj : ts[j]? = some t) (hd : ds[j]? = some D) : ∃ a : α, d.K W a v.cells.toList ∧ Q a := by
  obtain ⟨n, hn⟩ := hx
  refine (h n).run enc W sp held _ _ hn (fun m hm => ?_)
  have := List.all_eq_true.1 hw m (DataW.weights_mem_each hj hd m hm)
  simpa using this
end
end Go.Proofs.YthlolfncdjaniaaDoor.Op
