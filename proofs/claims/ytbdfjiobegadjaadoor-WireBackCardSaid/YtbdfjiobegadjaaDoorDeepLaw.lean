/- What the law's own 'deep' gives: an answer that may be, of so many bytes at most. Plain law. -/
import Derived.Test.YtbdfjiobegadjaaDoorLine
namespace Go.Proofs.YtbdfjiobegadjaaDoor.Wr
open Go Go.RowKit Go.Proofs.YtbdfjiobegadjaaDoor.Tk Go.Proofs.YtbdfjiobegadjaaDoor.PWireMemory Go.Proofs.YtbdfjiobegadjaaDoorW.PrintWords Go.Proofs.YtbdfjiobegadjaaDoorW.PrintLast Go.Proofs.YtbdfjiobegadjaaDoorW.PrintMore
set_option linter.unusedVariables false
set_option linter.unusedSectionVars false
set_option linter.unusedSimpArgs false
/-- The kind that 'deep' makes of any. -/
def kindF (k : Int) : Int := 1 + pickF (wrap64 (k - 1)) 6
theorem kindF_range (k : Int) : 1 ≤ kindF k ∧ kindF k ≤ 6 := by
  have := pickF_range (wrap64 (k - 1)) 6 (by omega)
  unfold kindF
  omega
/-- What 'deep' answers where so many lists may still lie around. -/
def deepS : Nat → S24 → S24
  | d, x =>
    if kindF x.f0 = 1 ∨ kindF x.f0 = 2 then ⟨kindF x.f0, 0, lineS x.f2, []⟩
    else if kindF x.f0 = 3 then ⟨3, x.f1, ⟨#[]⟩, []⟩
    else if kindF x.f0 = 4 then ⟨4, 0, headF x.f2, []⟩
    else if kindF x.f0 = 6 then match d with
      | 0 => ⟨5, 0, ⟨#[]⟩, []⟩
      | d + 1 => ⟨6, 0, ⟨#[]⟩, (x.f3.take 5).map (deepS d)⟩
    else ⟨5, 0, ⟨#[]⟩, []⟩
/-- The numbers are int64s, as deep as 'deep' goes. -/
def rangeD : Nat → S24 → Prop
  | 0, x => -9223372036854775808 ≤ x.f1 ∧ x.f1 ≤ 9223372036854775807
  | d + 1, x => (-9223372036854775808 ≤ x.f1 ∧ x.f1 ≤ 9223372036854775807) ∧ ∀ y ∈ x.f3, rangeD d y
theorem rangeD_f1 {d : Nat} {x : S24} (h : rangeD d x) : -9223372036854775808 ≤ x.f1 ∧ x.f1 ≤ 9223372036854775807 := by
  cases d with
  | zero => exact h
  | succ d => exact h.1
theorem okD_leaf {d : Nat} {x : S24} (h : leafOk x) : okD d x := by
  cases d with
  | zero => exact h
  | succ d => exact .inl h
theorem deep_ok : ∀ (d : Nat) (x : S24), rangeD d x → okD d (deepS d x)
  | d, x, hr => by
    unfold deepS
    split
    · rename_i h
      exact okD_leaf (.inl ⟨h, rfl, (lineS_ok x.f2).1, rfl⟩)
    · split
      · exact okD_leaf (.inr (.inl ⟨rfl, rfl, rfl, (rangeD_f1 hr).1, (rangeD_f1 hr).2⟩))
      · split
        · exact okD_leaf (.inr (.inr (.inl ⟨rfl, rfl, by have := headF_size x.f2; show (headF x.f2).size ≤ _; omega, rfl⟩)))
        · split
          · cases d with
            | zero => exact okD_leaf (.inr (.inr (.inr ⟨rfl, rfl, rfl, rfl⟩)))
            | succ d =>
              refine .inr ⟨rfl, rfl, rfl, ?_, fun y hy => ?_⟩
              · show ((x.f3.take 5).map (deepS d)).length ≤ 2000
                simp; omega
              · obtain ⟨z, hz, rfl⟩ := List.mem_map.1 hy
                exact deep_ok d z (hr.2 z (List.mem_of_mem_take hz))
          · exact okD_leaf (.inr (.inr (.inr ⟨rfl, rfl, rfl, rfl⟩)))
def lenD : Nat → Nat
  | 0 => 400
  | d + 1 => 5 * lenD d + 400
theorem lenD_pos : ∀ d, 400 ≤ lenD d
  | 0 => Nat.le_refl _
  | d + 1 => by rw [lenD]; omega
theorem flat_bound (f : S24 → List UInt8) (m : Nat) : ∀ l : List S24, (∀ y ∈ l, (f y).length ≤ m) → (l.flatMap f).length ≤ l.length * m
  | [], _ => by simp
  | y :: l, h => by
    have h1 := h y (by simp)
    have h2 := flat_bound f m l (fun z hz => h z (by simp [hz]))
    rw [List.flatMap_cons, List.length_append, List.length_cons, Nat.add_mul]
    omega
theorem leaf_len {d : Nat} (x : S24) (h6 : x.f0 ≠ 6) : encD d x = leafB x := by
  cases d with
  | zero => rfl
  | succ d => rw [encD, if_neg h6]
theorem line_len (t : ByteArray) (h : t.size ≤ 300) : (t.data.toList ++ [(13 : UInt8), 10]).length ≤ 302 := by
  have : t.data.toList.length = t.size := by simp
  simp only [List.length_append, List.length_cons, List.length_nil]
  omega
theorem deep_len : ∀ (d : Nat) (x : S24), rangeD d x → (encD d (deepS d x)).length ≤ lenD d
  | d, x, hr => by
    have hp := lenD_pos d
    unfold deepS
    split
    · rename_i h
      have hl := line_len (lineS x.f2) (lineS_ok x.f2).2
      rw [leaf_len _ (by show kindF x.f0 ≠ 6; omega)]
      unfold leafB
      split
      · show (43 :: ((lineS x.f2).data.toList ++ [13, 10])).length ≤ _
        rw [List.length_cons]; omega
      · split
        · show (45 :: ((lineS x.f2).data.toList ++ [13, 10])).length ≤ _
          rw [List.length_cons]; omega
        · rename_i h1 h2
          exact absurd h (by simp only at h1 h2; omega)
    · split
      · rw [leaf_len _ (show (3 : Int) ≠ 6 by decide)]
        have hf := rangeD_f1 hr
        have := Lib.itoa_length_le x.f1 hf.1 hf.2
        show (58 :: (Lib.itoa x.f1 ++ [13, 10])).length ≤ _
        simp only [List.length_cons, List.length_append, List.length_nil]
        omega
      · split
        · rw [leaf_len _ (show (4 : Int) ≠ 6 by decide)]
          have h3 := headF_size x.f2
          have h4 := Lib.itoa_length_le ((headF x.f2).size : Int) (by omega) (by omega)
          have h5 : (headF x.f2).data.toList.length = (headF x.f2).size := by simp
          show (bulkB (headF x.f2)).length ≤ _
          unfold bulkB
          simp only [List.length_cons, List.length_append, List.length_nil]
          omega
        · split
          · cases d with
            | zero => show 5 ≤ lenD 0; decide
            | succ d =>
              have hb := flat_bound (encD d) (lenD d) ((x.f3.take 5).map (deepS d)) (fun y hy => by
                obtain ⟨z, hz, rfl⟩ := List.mem_map.1 hy
                exact deep_len d z (hr.2 z (List.mem_of_mem_take hz)))
              have h5 : ((x.f3.take 5).map (deepS d)).length ≤ 5 := by simp; omega
              have h6 := Lib.itoa_length_le (((x.f3.take 5).map (deepS d)).length : Int) (by omega) (by omega)
              have h7 : ((x.f3.take 5).map (deepS d)).length * lenD d ≤ 5 * lenD d := Nat.mul_le_mul_right _ h5
              rw [show encD (d + 1) ⟨6, 0, ⟨#[]⟩, (x.f3.take 5).map (deepS d)⟩ = (42 :: (Lib.itoa ((x.f3.take 5).map (deepS d)).length ++ [13, 10])) ++ ((x.f3.take 5).map (deepS d)).flatMap (encD d) from by rw [encD]; rfl]
              simp only [List.length_append, List.length_cons, List.length_nil, lenD]
              omega
          · rw [leaf_len _ (show (5 : Int) ≠ 6 by decide)]; show 5 ≤ _; omega
end Go.Proofs.YtbdfjiobegadjaaDoor.Wr
