/- The pieces that strings.FieldsFunc takes at spaces and tabs are the words byte by byte. Plain law. -/
import Derived.Test.YtbdfjiobegadjaaDoorSRead
import Derived.Lib.FieldsP
namespace Go.Proofs.YtbdfjiobegadjaaDoor.Rd
open Go Go.RowKit Go.Proofs.YtbdfjiobegadjaaDoor.Tk Go.Proofs.YtbdfjiobegadjaaDoor.PWireMemory Go.Proofs.YtbdfjiobegadjaaDoorW.PrintWords Go.Proofs.YtbdfjiobegadjaaDoorW.PrintLast Go.Proofs.YtbdfjiobegadjaaDoorW.PrintMore
set_option linter.unusedVariables false
set_option linter.unusedSimpArgs false
def isSep (r : Nat) : Bool := r == 32 || r == 9
/-- The byte at i. -/
def byt (s : ByteArray) (i : Nat) : Nat := (s.get! i).toNat
theorem byt_bt (s : ByteArray) (i : Nat) (h : i < s.size) : (byt s i : Int) = bt s i := by
  unfold byt bt
  have h' : (i : Int).toNat < s.size := by omega
  rw [dif_pos h']
  simp [ByteArray.get!, h]
  rfl
theorem dec_facts (s : ByteArray) (i : Nat) (h : i < s.size) :
    (byt s i < 128 → Utf8.decode s i = (byt s i, 1)) ∧ (128 ≤ byt s i → 128 ≤ (Utf8.decode s i).1 ∧ 1 ≤ (Utf8.decode s i).2 ∧ i + (Utf8.decode s i).2 ≤ s.size ∧ ∀ k, i ≤ k → k < i + (Utf8.decode s i).2 → 128 ≤ byt s k) := by
  have hb : (s.get! (i + 0)).toNat = byt s i := rfl
  have one : ∀ b, 128 ≤ byt s i → 128 ≤ b → 128 ≤ ((b, 1) : Nat × Nat).1 ∧ 1 ≤ ((b, 1) : Nat × Nat).2 ∧ i + ((b, 1) : Nat × Nat).2 ≤ s.size ∧ ∀ k, i ≤ k → k < i + ((b, 1) : Nat × Nat).2 → 128 ≤ byt s k := fun b hb hb' =>
    ⟨hb', Nat.le_refl _, h, fun k h1 h2 => by
      have : k = i := by simp only at h2; omega
      rw [this]; exact hb⟩
  have cont : ∀ k, (decide (i + k < s.size) && (s.get! (i + k)).toNat / 64 == 2) = true → i + k < s.size ∧ 128 ≤ byt s (i + k) := by
    intro k hk
    simp only [Bool.and_eq_true, decide_eq_true_eq, beq_iff_eq] at hk
    refine ⟨hk.1, ?_⟩
    have := hk.2
    unfold byt
    omega
  refine ⟨fun hlt => ?_, fun hge => ?_⟩
  · unfold Utf8.decode
    simp only [hb]
    rw [if_pos hlt]
  · unfold Utf8.decode
    simp only [hb]
    rw [if_neg (by omega)]
    split
    · rename_i h1
      simp only [Bool.and_eq_true] at h1
      have c1 := cont 1 (by simpa using h1.2)
      split
      · rename_i h2
        refine ⟨by simpa using h2, by simp, by simp; omega, fun k k1 k2 => ?_⟩
        simp only at k2
        rcases (show k = i ∨ k = i + 1 by omega) with rfl | rfl
        · exact hge
        · exact c1.2
      · exact one _ hge (by decide)
    · split
      · rename_i h1
        simp only [Bool.and_eq_true] at h1
        have c1 := cont 1 (by simpa using h1.1.2)
        have c2 := cont 2 (by simpa using h1.2)
        split
        · rename_i h2
          simp only [Bool.and_eq_true, decide_eq_true_eq] at h2
          refine ⟨by simp only; omega, by simp, by simp; omega, fun k k1 k2 => ?_⟩
          simp only at k2
          rcases (show k = i ∨ k = i + 1 ∨ k = i + 2 by omega) with rfl | rfl | rfl
          · exact hge
          · exact c1.2
          · exact c2.2
        · exact one _ hge (by decide)
      · split
        · rename_i h1
          simp only [Bool.and_eq_true] at h1
          have c1 := cont 1 (by simpa using h1.1.1.2)
          have c2 := cont 2 (by simpa using h1.1.2)
          have c3 := cont 3 (by simpa using h1.2)
          split
          · rename_i h2
            simp only [Bool.and_eq_true, decide_eq_true_eq] at h2
            refine ⟨by simp only; omega, by simp, by simp; omega, fun k k1 k2 => ?_⟩
            simp only at k2
            rcases (show k = i ∨ k = i + 1 ∨ k = i + 2 ∨ k = i + 3 by omega) with rfl | rfl | rfl | rfl
            · exact hge
            · exact c1.2
            · exact c2.2
            · exact c3.2
          · exact one _ hge (by decide)
        · exact one _ hge (by decide)
/-- The numbers of s's bytes from i up to j. -/
def cut (s : ByteArray) (i j : Nat) : List Int := ((List.range (j - i)).map fun k => bt s (i + k : Nat))
theorem cut_nil (s : ByteArray) (i : Nat) : cut s i i = [] := by simp [cut]
theorem cut_snoc (s : ByteArray) (i j : Nat) (h : i ≤ j) : cut s i (j + 1) = cut s i j ++ [bt s (j : Nat)] := by
  unfold cut
  rw [show j + 1 - i = (j - i) + 1 by omega, List.range_succ, List.map_append]
  simp only [List.map_cons, List.map_nil]
  rw [show i + (j - i) = j by omega]
theorem cut_cons (s : ByteArray) (i j : Nat) (h : i < j) : cut s i j = bt s (i : Nat) :: cut s (i + 1) j := by
  unfold cut
  rw [show j - i = (j - (i + 1)) + 1 by omega, List.range_succ_eq_map]
  simp only [List.map_cons, List.map_map, Nat.add_zero]
  congr 1
  apply List.map_congr_left
  intro k _
  simp only [Function.comp_apply]
  congr 2
  omega
theorem cut_ne (s : ByteArray) (i j : Nat) (h : i < j) : cut s i j ≠ [] := by rw [cut_cons s i j h]; simp
theorem cut_str (s : ByteArray) (i j : Nat) (h : i ≤ j) (hj : j ≤ s.size) : strOfNums (cut s i j) = s.extract i j := by
  have hs : (s.extract i j).size = j - i := by rw [ByteArray.size_extract]; omega
  have hl : (strOfNums (cut s i j)).size = j - i := by
    show ((cut s i j).map _).toArray.size = _
    simp [cut]
  apply ByteArray.ext_getElem
  · omega
  · intro k h1 h2
    have hk : k < j - i := by omega
    have hb : ((s[i + k]'(by omega)).toNat : Int) = bt s (i + k : Nat) := bt_at s ((i + k : Nat) : Int) (by omega)
    rw [ByteArray.getElem_extract]
    show (((cut s i j).map fun n => UInt8.ofNat n.toNat).toArray[k]'(by simp [cut]; omega)) = _
    simp only [cut, List.map_map, List.getElem_toArray, List.getElem_map, List.getElem_range, Function.comp_apply]
    rw [← hb]
    simp
/-- Over bytes that are no separators the word at hand grows. -/
theorem words_run (s : ByteArray) : ∀ (d a pos q : Nat), a ≤ pos → pos + d = q → q ≤ s.size → (∀ k, pos ≤ k → k < q → 128 ≤ byt s k ∨ (byt s k ≠ 32 ∧ byt s k ≠ 9)) →
    wordsA (cut s a pos) (cut s pos s.size) = wordsA (cut s a q) (cut s q s.size)
  | 0, a, pos, q, h1, h2, h3, h4 => by
    obtain rfl : pos = q := by omega
    rfl
  | d + 1, a, pos, q, h1, h2, h3, h4 => by
    have hb := h4 pos (Nat.le_refl _) (by omega)
    have hc := byt_bt s pos (by omega)
    rw [cut_cons s pos s.size (by omega), wordsA, if_neg (by omega), ← cut_snoc s a pos h1]
    exact words_run s d a (pos + 1) q (by omega) (by omega) h3 (fun k k1 k2 => h4 k (by omega) k2)
theorem spans_words (s : ByteArray) : ∀ (f pos : Nat) (st : Option Nat) (acc : List (Nat × Nat)), pos ≤ s.size → s.size ≤ pos + f → (∀ a, st = some a → a < pos) →
    (Lib.closeSpans s (Lib.spansFromP isSep s f pos st acc)).map (fun x => s.extract x.1 x.2) =
      acc.map (fun x => s.extract x.1 x.2) ++ (wordsA (match st with | none => [] | some a => cut s a pos) (cut s pos s.size)).map strOfNums
  | 0, pos, st, acc, h1, h2, h3 => by
    obtain rfl : pos = s.size := by omega
    rw [Lib.spansFromP, cut_nil]
    cases st with
    | none => simp [Lib.closeSpans, wordsA]
    | some a =>
      have ha := h3 a rfl
      simp only [Lib.closeSpans, wordsA, if_neg (cut_ne s a s.size ha), List.map_append, List.map_cons, List.map_nil]
      rw [cut_str s a s.size (by omega) (Nat.le_refl _)]
  | f + 1, pos, st, acc, h1, h2, h3 => by
    by_cases hlt : pos < s.size
    · obtain ⟨d1, d2⟩ := dec_facts s pos hlt
      have hbt := byt_bt s pos hlt
      unfold Lib.spansFromP
      rw [if_pos hlt]
      by_cases hsep : byt s pos = 32 ∨ byt s pos = 9
      · rw [d1 (by omega)]
        have hp : isSep (byt s pos) = true := by unfold isSep; rcases hsep with h | h <;> rw [h] <;> rfl
        simp only [hp, if_true]
        have hcut := cut_cons s pos s.size hlt
        cases st with
        | none =>
          rw [spans_words s f (pos + 1) none acc (by omega) (by omega) (fun a h => by cases h), hcut]
          rw [wordsA, if_pos (by omega)]
          simp
        | some a =>
          have ha := h3 a rfl
          rw [spans_words s f (pos + 1) none (acc ++ [(a, pos)]) (by omega) (by omega) (fun a h => by cases h), hcut]
          rw [wordsA, if_pos (by omega), if_neg (cut_ne s a pos ha)]
          simp only [List.map_append, List.map_cons, List.map_nil, List.append_assoc]
          rw [cut_str s a pos (by omega) (by omega)]
      · have key : ∃ r wd, Utf8.decode s pos = (r, wd) ∧ isSep r = false ∧ 1 ≤ wd ∧ pos + wd ≤ s.size ∧ ∀ k, pos ≤ k → k < pos + wd → 128 ≤ byt s k ∨ (byt s k ≠ 32 ∧ byt s k ≠ 9) := by
          by_cases h128 : byt s pos < 128
          · refine ⟨_, _, d1 h128, ?_, Nat.le_refl _, by omega, fun k k1 k2 => .inr ?_⟩
            · unfold isSep; simp; omega
            · have : k = pos := by omega
              rw [this]; omega
          · obtain ⟨e1, e2, e3, e4⟩ := d2 (by omega)
            have n1 : (Utf8.decode s pos).1 ≠ 32 := by omega
            have n2 : (Utf8.decode s pos).1 ≠ 9 := by omega
            exact ⟨(Utf8.decode s pos).1, (Utf8.decode s pos).2, rfl, by simp [isSep, n1, n2], e2, e3, fun k k1 k2 => .inl (e4 k k1 k2)⟩
        obtain ⟨r, wd, hd, hr, w1, w2, hall⟩ := key
        rw [hd]
        simp only [hr, Bool.false_eq_true, if_false]
        cases st with
        | none =>
          rw [spans_words s f (pos + wd) (some pos) acc w2 (by omega) (fun a h => by obtain rfl := Option.some.inj h; omega)]
          have := words_run s wd pos pos (pos + wd) (Nat.le_refl _) rfl w2 hall
          rw [cut_nil] at this
          rw [this]
        | some a =>
          have ha := h3 a rfl
          rw [spans_words s f (pos + wd) (some a) acc w2 (by omega) (fun b h => by obtain rfl := Option.some.inj h; omega)]
          rw [words_run s wd a pos (pos + wd) (by omega) rfl w2 hall]
    · rw [Lib.spansFromP_end _ _ _ _ _ _ hlt]
      obtain rfl : pos = s.size := by omega
      rw [cut_nil]
      cases st with
      | none => simp [Lib.closeSpans, wordsA]
      | some a =>
        have ha := h3 a rfl
        simp only [Lib.closeSpans, wordsA, if_neg (cut_ne s a s.size ha), List.map_append, List.map_cons, List.map_nil]
        rw [cut_str s a s.size (by omega) (Nat.le_refl _)]
theorem cut_all (text : List Int) (h : ∀ c ∈ text, 0 ≤ c ∧ c ≤ 255) : cut (strOfNums text) 0 (strOfNums text).size = text := by
  have hs : (strOfNums text).size = text.length := by
    show (text.map _).toArray.size = _
    simp
  rw [hs]
  apply List.ext_getElem
  · simp [cut]
  · intro k h1 h2
    have hc := h text[k] (List.getElem_mem h2)
    have hb : (((strOfNums text)[k]'(by omega)).toNat : Int) = bt (strOfNums text) (k : Nat) := bt_at (strOfNums text) ((k : Nat) : Int) (by omega)
    simp only [cut, List.getElem_map, List.getElem_range, Nat.zero_add]
    rw [← hb]
    show (((text.map fun n => UInt8.ofNat n.toNat).toArray[k]'(by simpa using h2)).toNat : Int) = _
    simp only [List.getElem_toArray, List.getElem_map, UInt8.toNat_ofNat']
    omega
theorem fields_words (text : List Int) (h : ∀ c ∈ text, 0 ≤ c ∧ c ≤ 255) : Lib.goFieldsP isSep (strOfNums text) = wordsOf text := by
  have := spans_words (strOfNums text) (strOfNums text).size 0 none [] (by omega) (by omega) (fun a h => by cases h)
  unfold Lib.goFieldsP Lib.spansOfP wordsOf
  rw [this, cut_all text h]
  simp
end Go.Proofs.YtbdfjiobegadjaaDoor.Rd
