/- Plain facts on the order of texts, and what is above all that begin with one. -/
import Derived.Test.YthlolfncdjaniaaAbove
import Derived.Lib.Strings
namespace Go.Proofs.Ythlolfncdjaniaa.Ab
open Go.RowKit

theorem less_all255 : ∀ (s t : List UInt8), (∀ c ∈ s, c = 255) → s.isPrefixOf t = !Op.bytesLess t s
  | [], [], _ => rfl
  | [], _ :: _, _ => rfl
  | a :: s, [], _ => by simp [Op.bytesLess]
  | a :: s, b :: t, h => by
    have ha : a = 255 := h a (by simp)
    have ih := less_all255 s t (fun c hc => h c (by simp [hc]))
    subst ha
    simp only [List.isPrefixOf, Op.bytesLess, ih]
    by_cases e : b = 255
    · subst e; simp
    · have : b < 255 := by
        rw [UInt8.lt_iff_toNat_lt]
        have h1 : b.toNat ≠ 255 := fun h => e (UInt8.toNat_inj.1 h)
        have h2 := b.toNat_lt
        have h3 : (255 : UInt8).toNat = 255 := rfl
        omega
      simp [this, Ne.symm e]
theorem succ_lt {c : UInt8} (h : c ≠ 255) : (c + 1).toNat = c.toNat + 1 := by
  have h1 : c.toNat ≠ 255 := fun e => h (UInt8.toNat_inj.1 e)
  have h2 := c.toNat_lt
  rw [UInt8.toNat_add, show (1 : UInt8).toNat = 1 from rfl]; omega
theorem less_up : ∀ (p : List UInt8) (c : UInt8) (q t : List UInt8), c ≠ 255 → (∀ x ∈ q, x = 255) →
    (p ++ c :: q).isPrefixOf t = (!Op.bytesLess t (p ++ c :: q) && Op.bytesLess t (p ++ [c + 1]))
  | [], c, q, [], _, _ => by simp [Op.bytesLess]
  | [], c, q, d :: t, hc, hq => by
    have hs := succ_lt hc
    have ih := less_all255 q t hq
    simp only [List.nil_append, List.isPrefixOf, Op.bytesLess, ih]
    by_cases e : d = c
    · subst e
      have h1 : d < d + 1 := by rw [UInt8.lt_iff_toNat_lt, hs]; omega
      simp [h1]
    · by_cases l : d < c
      · simp [l, Ne.symm e]
      · have h2 : ¬ d < c + 1 := by
          rw [UInt8.lt_iff_toNat_lt, hs]
          rw [UInt8.lt_iff_toNat_lt] at l
          have : d.toNat ≠ c.toNat := fun h => e (UInt8.toNat_inj.1 h)
          omega
        simp [l, h2, Ne.symm e, e]
  | a :: p, c, q, [], _, _ => by simp [Op.bytesLess]
  | a :: p, c, q, d :: t, hc, hq => by
    have ih := less_up p c q t hc hq
    simp only [List.cons_append, List.isPrefixOf, Op.bytesLess, ih]
    by_cases e : d = a
    · subst e; simp
    · by_cases l : d < a
      · simp [l, Ne.symm e]
      · have e1 : (a == d) = false := beq_eq_false_iff_ne.2 (Ne.symm e)
        have e2 : (d == a) = false := beq_eq_false_iff_ne.2 e
        simp [l, e1, e2]

/-- What stands above s: none just if all bytes are 255. -/
theorem ab_no (s : ByteArray) : ∀ n, n ≤ s.size → (ab s n).2 = false → (ab s n).1 = ⟨#[]⟩ ∧ ∀ i, i < n → bt s i = 255
  | 0, _, _ => ⟨rfl, fun i h => absurd h (by omega)⟩
  | n + 1, hn, h => by
    simp only [ab] at h ⊢
    by_cases c : bt s n = 255
    · rw [if_pos c] at h ⊢
      obtain ⟨h1, h2⟩ := ab_no s n (by omega) h
      exact ⟨h1, fun i hi => by
        by_cases e : i = n
        · rw [e]; exact c
        · exact h2 i (by omega)⟩
    · rw [if_neg c] at h; cases h
theorem ab_yes (s : ByteArray) : ∀ n, n ≤ s.size → (ab s n).2 = true → ∃ m, m < n ∧ (ab s n).1 = s.extract 0 m ++ strOfNums [(bt s m + 1) % 256] ∧ bt s m ≠ 255 ∧ ∀ i, m < i → i < n → bt s i = 255
  | 0, _, h => by cases h
  | n + 1, hn, h => by
    simp only [ab] at h ⊢
    by_cases c : bt s n = 255
    · rw [if_pos c] at h ⊢
      obtain ⟨m, h1, h2, h3, h4⟩ := ab_yes s n (by omega) h
      exact ⟨m, by omega, h2, h3, fun i hi hj => by
        by_cases e : i = n
        · rw [e]; exact c
        · exact h4 i hi (by omega)⟩
    · rw [if_neg c]
      exact ⟨n, by omega, rfl, c, fun i hi hj => by omega⟩
theorem bt_list (s : ByteArray) (i : Nat) (h : i < s.size) : bt s i = ((s.data.toList[i]'(by simpa using h)).toNat : Int) := by
  simp [bt, h]; rfl
theorem bt_255 (s : ByteArray) (i : Nat) (h : i < s.size) : bt s i = 255 ↔ s.data.toList[i]'(by simpa using h) = 255 := by
  rw [bt_list s i h]
  constructor
  · intro e; exact UInt8.toNat_inj.1 (by rw [show (255 : UInt8).toNat = 255 from rfl]; omega)
  · intro e; rw [e]; rfl
/-- Does s begin with t? As begins says it. -/
def begB (s t : ByteArray) : Bool := decide (t.size ≤ s.size) && ((s.extract 0 t.size).toList == t.toList)
theorem begB_eq (s t : ByteArray) : begB s t = t.toList.isPrefixOf s.toList := by
  unfold begB
  rw [Bool.eq_iff_iff, List.isPrefixOf_iff_prefix, List.prefix_iff_eq_take, Bool.and_eq_true, decide_eq_true_eq, beq_iff_eq]
  rw [Lib.toList_data, Lib.toList_data, Lib.toList_data]
  have e : (s.extract 0 t.size).data.toList = s.data.toList.take t.size := by simp [ByteArray.data_extract]
  have e2 : t.data.toList.length = t.size := by simp
  rw [e, e2]
  constructor
  · exact fun h => h.2.symm
  · intro h
    refine ⟨?_, h.symm⟩
    have := congrArg List.length h
    simp at this
    omega
theorem up_no (s t : ByteArray) (h : (ab s s.size).2 = false) : (ab s s.size).1.toList = [] ∧ begB t s = !Op.bytesLess t.toList s.toList := by
  obtain ⟨h1, h2⟩ := ab_no s s.size (Nat.le_refl _) h
  refine ⟨by rw [h1, Lib.toList_data], ?_⟩
  rw [begB_eq]
  refine less_all255 _ _ fun c hc => ?_
  rw [Lib.toList_data] at hc
  obtain ⟨i, hi, rfl⟩ := List.mem_iff_getElem.1 hc
  exact (bt_255 s i (by simpa using hi)).1 (h2 i (by simpa using hi))
theorem up_yes (s t : ByteArray) (h : (ab s s.size).2 = true) : begB t s = (!Op.bytesLess t.toList s.toList && Op.bytesLess t.toList (ab s s.size).1.toList) := by
  obtain ⟨m, hm, h1, h2, h3⟩ := ab_yes s s.size (Nat.le_refl _) h
  have hl : m < s.data.toList.length := by simpa using hm
  have hsplit : s.data.toList = s.data.toList.take m ++ s.data.toList[m] :: s.data.toList.drop (m + 1) := by
    rw [List.getElem_cons_drop, List.take_append_drop]
  have hne : s.data.toList[m] ≠ 255 := fun e => h2 ((bt_255 s m hm).2 e)
  have hup : (ab s s.size).1.toList = s.data.toList.take m ++ [s.data.toList[m] + 1] := by
    rw [h1, Lib.toList_data]
    simp only [ByteArray.data_append, Array.toList_append, strOfNums_data, List.map_cons, List.map_nil, ByteArray.data_extract]
    congr 1
    · simp
    · rw [bt_list s m hm]
      congr 1
      apply UInt8.toNat_inj.1
      rw [succ_lt hne]
      have h2 := (s.data.toList[m]).toNat_lt
      have h3 : (s.data.toList[m]).toNat ≠ 255 := fun e => hne (UInt8.toNat_inj.1 e)
      rw [UInt8.toNat_ofNat']
      omega
  rw [begB_eq, hup]
  rw [Lib.toList_data, Lib.toList_data]
  generalize t.data.toList = tl
  have hq : ∀ x ∈ s.data.toList.drop (m + 1), x = 255 := by
    intro x hx
    obtain ⟨i, hi, rfl⟩ := List.mem_iff_getElem.1 hx
    rw [List.getElem_drop]
    simp at hi
    exact (bt_255 s (m + 1 + i) (by omega)).1 (h3 _ (by omega) (by omega))
  have := less_up (s.data.toList.take m) s.data.toList[m] (s.data.toList.drop (m + 1)) tl hne hq
  rw [← hsplit] at this
  exact this
end Go.Proofs.Ythlolfncdjaniaa.Ab
