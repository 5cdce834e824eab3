/- The walks of tuple.Above and of the law's own begins; what is above all texts that begin with one: plain law. -/
import Derived.Test.YthlolfncdjaniaaDoorOrder
import Derived.RegionTactic
import Derived.Deep.QuietTactic
import Derived.Laws.BytesArg
import Derived.OwnWalk
namespace Go.Proofs.YthlolfncdjaniaaDoor.Ab
open Go Go.RowKit
set_option linter.unusedVariables false
set_option linter.unusedSectionVars false
set_option linter.unusedSimpArgs false
/-- The byte at i, as a number. -/
def bt (s : ByteArray) (i : Nat) : Int := if h : i < s.size then ((s[i]'h).toNat : Int) else 0
/-- What both come to when the first n bytes are still to be looked at. -/
def ab (s : ByteArray) : Nat → ByteArray × Bool
  | 0 => ((⟨#[]⟩ : ByteArray), false)
  | n + 1 => if bt s n = 255 then ab s n else (s.extract 0 n ++ strOfNums [(bt s n + 1) % 256], true)
def Told (s : ByteArray) (w : World) (e : Ending) (w' : World) : Prop := e = .returned (.tuple #[.string (ab s s.size).1, .bool (ab s s.size).2]) ∧ Below w.heap.size w w'
theorem told_of {s : ByteArray} {w w' : World} {t : ByteArray} {b : Bool} (h : Hid ((t, b) = ab s s.size)) (hb : Below w.heap.size w w') :
    Told s w (.returned (.tuple #[.string t, .bool b])) w' := ⟨by rw [← h.out], hb⟩
theorem ab_eq {s : ByteArray} {n : Nat} (hlt : n < s.size) (c : bt s n = 255) (hab : Hid (ab s (n + 1) = ab s s.size)) : Hid (ab s n = ab s s.size) := by
  have h := hab.out
  simp only [ab] at h; rw [if_pos c] at h; exact h
theorem ab_ne {s : ByteArray} {n : Nat} (hlt : n < s.size) (c : ¬ bt s n = 255) (hab : Hid (ab s (n + 1) = ab s s.size)) :
    Hid ((s.extract 0 n ++ strOfNums [(((s[n]).toNat : Int) + 1) % 256], true) = ab s s.size) := by
  have h := hab.out
  simp only [ab] at h; rw [if_neg c, show bt s n = ((s[n]).toNat : Int) from by simp [bt, hlt]] at h; exact h
theorem one_byte (w : World) (x : Int) : ∀ dst, Tryd.prog.underlying dst = some .string → (Sem.run Tryd.prog (convert 68 dst (.slice (some ⟨w.heap.size, 0, none⟩) 1 1)) (w.alloc (.cells #[.int .u8 x] 5)).drew) = .ok (.string (strOfNums [x])) (w.alloc (.cells #[.int .u8 x] 5)).drew :=
  run_convert_bytes_arg (P := Tryd.prog) ((w.alloc (.cells #[.int .u8 x] 5)).drew) 68 5 Tryd.underlying68 Tryd.underlying5 w.heap.size 0 1 1 [x] rfl (by
    intro i hi
    obtain rfl : i = 0 := by omega
    rw [World.cell?_drew, World.cell?_alloc_new]; rfl)
theorem one_size (x : Int) : (strOfNums [x]).size = 1 := strOfNums_size [x]
set_option maxHeartbeats 1000000 in
set_option maxRecDepth 100000 in
theorem above_any (s : ByteArray) (w : World) (hs : s.size ≤ 140737488351232) :
    Calls Tryd.prog 18 #[.string s] w (Told s w) := by
  go_enter Tryd.func18, Tryd.ntmps18
  go_wp2
  go_loop [4] (fun l => ∃ n : Nat, n ≤ s.size ∧ l = .int .i64 ((n : Int) - 1) ∧ Hid (ab s n = ab s s.size)) (fun l => (intOf l + 1).toNat)
  case atStart => exact ⟨s.size, Nat.le_refl _, by simp, rfl⟩
  case round =>
    obtain ⟨n, hn, rfl, hab⟩ := hrel
    cases n with
    | zero =>
      go_wp2
      go_ret2
      exact told_of hab (Below.refl _ _)
    | succ n =>
      have hlt : n < s.size := by omega
      by_cases c : bt s n = 255
      · have c1 : ((s[n]).toNat : Int) = 255 := by simpa [bt, hlt] using c
        have hab' := ab_eq hlt c hab
        clear hab c
        go_wp2
        go_round
        case rel => exact ⟨n, by omega, rfl, hab'⟩
        case measure => simp [intOf]
      · have c1 : ¬ ((s[n]).toNat : Int) = 255 := by simpa [bt, hlt] using c
        have hab' := ab_ne hlt c hab
        clear hab c
        have hle : n ≤ s.size := by omega
        have hcv := one_byte w ((((s[n]).toNat : Int) + 1) % 256) 9 Tryd.underlying9
        have hsz := one_size ((((s[n]).toNat : Int) + 1) % 256)
        go_wp2
        go_region
        go_wp2
        go_ret2
        exact told_of hab' (((Below.refl _ _).alloc (Nat.le_refl _) _).drew)
theorem less_all255 : ∀ (s t : List UInt8), (∀ c ∈ s, c = 255) → s.isPrefixOf t = !Op.bytesLess t s
  | [], [], _ => rfl
  | [], _ :: _, _ => rfl
  | a :: s, [], _ => by simp [Op.bytesLess]
  | a :: s, b :: t, h => by
    have ha : a = 255 := h a (by simp)
    have ih := less_all255 s t (fun c hc => h c (by simp [hc]))
    subst ha
    simp only [List.isPrefixOf, Op.bytesLess, ih]
    by_cases e : b = 255
    · subst e; simp
    · have : b < 255 := by
        rw [UInt8.lt_iff_toNat_lt]
        have h1 : b.toNat ≠ 255 := fun h => e (UInt8.toNat_inj.1 h)
        have h2 := b.toNat_lt
        have h3 : (255 : UInt8).toNat = 255 := rfl
        omega
      simp [this, Ne.symm e]
theorem succ_lt {c : UInt8} (h : c ≠ 255) : (c + 1).toNat = c.toNat + 1 := by
  have h1 : c.toNat ≠ 255 := fun e => h (UInt8.toNat_inj.1 e)
  have h2 := c.toNat_lt
  rw [UInt8.toNat_add, show (1 : UInt8).toNat = 1 from rfl]; omega
theorem less_up : ∀ (p : List UInt8) (c : UInt8) (q t : List UInt8), c ≠ 255 → (∀ x ∈ q, x = 255) →
    (p ++ c :: q).isPrefixOf t = (!Op.bytesLess t (p ++ c :: q) && Op.bytesLess t (p ++ [c + 1]))
  | [], c, q, [], _, _ => by simp [Op.bytesLess]
  | [], c, q, d :: t, hc, hq => by
    have hs := succ_lt hc
    have ih := less_all255 q t hq
    simp only [List.nil_append, List.isPrefixOf, Op.bytesLess, ih]
    by_cases e : d = c
    · subst e
      have h1 : d < d + 1 := by rw [UInt8.lt_iff_toNat_lt, hs]; omega
      simp [h1]
    · by_cases l : d < c
      · simp [l, Ne.symm e]
      · have h2 : ¬ d < c + 1 := by
          rw [UInt8.lt_iff_toNat_lt, hs]
          rw [UInt8.lt_iff_toNat_lt] at l
          have : d.toNat ≠ c.toNat := fun h => e (UInt8.toNat_inj.1 h)
          omega
        simp [l, h2, Ne.symm e, e]
  | a :: p, c, q, [], _, _ => by simp [Op.bytesLess]
  | a :: p, c, q, d :: t, hc, hq => by
    have ih := less_up p c q t hc hq
    simp only [List.cons_append, List.isPrefixOf, Op.bytesLess, ih]
    by_cases e : d = a
    · subst e; simp
    · by_cases l : d < a
      · simp [l, Ne.symm e]
      · have e1 : (a == d) = false := beq_eq_false_iff_ne.2 (Ne.symm e)
        have e2 : (d == a) = false := beq_eq_false_iff_ne.2 e
        simp [l, e1, e2]

/-- What stands above s: none just if all bytes are 255. -/
theorem ab_no (s : ByteArray) : ∀ n, n ≤ s.size → (ab s n).2 = false → (ab s n).1 = ⟨#[]⟩ ∧ ∀ i, i < n → bt s i = 255
  | 0, _, _ => ⟨rfl, fun i h => absurd h (by omega)⟩
  | n + 1, hn, h => by
    simp only [ab] at h ⊢
    by_cases c : bt s n = 255
    · rw [if_pos c] at h ⊢
      obtain ⟨h1, h2⟩ := ab_no s n (by omega) h
      exact ⟨h1, fun i hi => by
        by_cases e : i = n
        · rw [e]; exact c
        · exact h2 i (by omega)⟩
    · rw [if_neg c] at h; cases h
theorem ab_yes (s : ByteArray) : ∀ n, n ≤ s.size → (ab s n).2 = true → ∃ m, m < n ∧ (ab s n).1 = s.extract 0 m ++ strOfNums [(bt s m + 1) % 256] ∧ bt s m ≠ 255 ∧ ∀ i, m < i → i < n → bt s i = 255
  | 0, _, h => by cases h
  | n + 1, hn, h => by
    simp only [ab] at h ⊢
    by_cases c : bt s n = 255
    · rw [if_pos c] at h ⊢
      obtain ⟨m, h1, h2, h3, h4⟩ := ab_yes s n (by omega) h
      exact ⟨m, by omega, h2, h3, fun i hi hj => by
        by_cases e : i = n
        · rw [e]; exact c
        · exact h4 i hi (by omega)⟩
    · rw [if_neg c]
      exact ⟨n, by omega, rfl, c, fun i hi hj => by omega⟩
theorem bt_list (s : ByteArray) (i : Nat) (h : i < s.size) : bt s i = ((s.data.toList[i]'(by simpa using h)).toNat : Int) := by
  simp [bt, h]; rfl
theorem bt_255 (s : ByteArray) (i : Nat) (h : i < s.size) : bt s i = 255 ↔ s.data.toList[i]'(by simpa using h) = 255 := by
  rw [bt_list s i h]
  constructor
  · intro e; exact UInt8.toNat_inj.1 (by rw [show (255 : UInt8).toNat = 255 from rfl]; omega)
  · intro e; rw [e]; rfl
/-- Does s begin with t? As begins says it. -/
def begB (s t : ByteArray) : Bool := decide (t.size ≤ s.size) && ((s.extract 0 t.size).toList == t.toList)
theorem begB_eq (s t : ByteArray) : begB s t = t.toList.isPrefixOf s.toList := by
  unfold begB
  rw [Bool.eq_iff_iff, List.isPrefixOf_iff_prefix, List.prefix_iff_eq_take, Bool.and_eq_true, decide_eq_true_eq, beq_iff_eq]
  rw [Lib.toList_data, Lib.toList_data, Lib.toList_data]
  have e : (s.extract 0 t.size).data.toList = s.data.toList.take t.size := by simp [ByteArray.data_extract]
  have e2 : t.data.toList.length = t.size := by simp
  rw [e, e2]
  constructor
  · exact fun h => h.2.symm
  · intro h
    refine ⟨?_, h.symm⟩
    have := congrArg List.length h
    simp at this
    omega
theorem up_no (s t : ByteArray) (h : (ab s s.size).2 = false) : (ab s s.size).1.toList = [] ∧ begB t s = !Op.bytesLess t.toList s.toList := by
  obtain ⟨h1, h2⟩ := ab_no s s.size (Nat.le_refl _) h
  refine ⟨by rw [h1, Lib.toList_data], ?_⟩
  rw [begB_eq]
  refine less_all255 _ _ fun c hc => ?_
  rw [Lib.toList_data] at hc
  obtain ⟨i, hi, rfl⟩ := List.mem_iff_getElem.1 hc
  exact (bt_255 s i (by simpa using hi)).1 (h2 i (by simpa using hi))
theorem up_yes (s t : ByteArray) (h : (ab s s.size).2 = true) : begB t s = (!Op.bytesLess t.toList s.toList && Op.bytesLess t.toList (ab s s.size).1.toList) := by
  obtain ⟨m, hm, h1, h2, h3⟩ := ab_yes s s.size (Nat.le_refl _) h
  have hl : m < s.data.toList.length := by simpa using hm
  have hsplit : s.data.toList = s.data.toList.take m ++ s.data.toList[m] :: s.data.toList.drop (m + 1) := by
    rw [List.getElem_cons_drop, List.take_append_drop]
  have hne : s.data.toList[m] ≠ 255 := fun e => h2 ((bt_255 s m hm).2 e)
  have hup : (ab s s.size).1.toList = s.data.toList.take m ++ [s.data.toList[m] + 1] := by
    rw [h1, Lib.toList_data]
    simp only [ByteArray.data_append, Array.toList_append, strOfNums_data, List.map_cons, List.map_nil, ByteArray.data_extract]
    congr 1
    · simp
    · rw [bt_list s m hm]
      congr 1
      apply UInt8.toNat_inj.1
      rw [succ_lt hne]
      have h2 := (s.data.toList[m]).toNat_lt
      have h3 : (s.data.toList[m]).toNat ≠ 255 := fun e => hne (UInt8.toNat_inj.1 e)
      rw [UInt8.toNat_ofNat']
      omega
  rw [begB_eq, hup]
  rw [Lib.toList_data, Lib.toList_data]
  generalize t.data.toList = tl
  have hq : ∀ x ∈ s.data.toList.drop (m + 1), x = 255 := by
    intro x hx
    obtain ⟨i, hi, rfl⟩ := List.mem_iff_getElem.1 hx
    rw [List.getElem_drop]
    simp at hi
    exact (bt_255 s (m + 1 + i) (by omega)).1 (h3 _ (by omega) (by omega))
  have := less_up (s.data.toList.take m) s.data.toList[m] (s.data.toList.drop (m + 1)) tl hne hq
  rw [← hsplit] at this
  exact this
set_option maxHeartbeats 1000000 in
set_option maxRecDepth 100000 in
theorem begins_any (s t : ByteArray) (w : World) (hs : s.size ≤ 140737488351232) (ht : t.size ≤ 140737488351232) :
    Calls Tryd.prog 17 #[.string s, .string t] w fun e w' => e = .returned (.bool (begB s t)) ∧ w = w' := by
  by_cases h : t.size ≤ s.size
  · go_enter Tryd.func17, Tryd.ntmps17
    go_wp2
    go_ret
    exact ⟨by simp [begB, h], rfl⟩
  · have h' : s.size < t.size := by omega
    go_enter Tryd.func17, Tryd.ntmps17
    go_wp2
    go_ret
    exact ⟨by simp [begB, h], rfl⟩

theorem above_no (s : ByteArray) (w : World) (hs : s.size ≤ 140737488351232) (h : (ab s s.size).2 = false) :
    Calls Tryd.prog 18 #[.string s] w fun e w' => e = .returned (.tuple #[.string ⟨#[]⟩, .bool false]) ∧ Below w.heap.size w w' :=
  (above_any s w hs).mono fun _ _ ⟨he, hb⟩ => ⟨by rw [he, h, (ab_no s s.size (Nat.le_refl _) h).1], hb⟩
theorem above_yes (s : ByteArray) (w : World) (hs : s.size ≤ 140737488351232) (h : (ab s s.size).2 = true) :
    Calls Tryd.prog 18 #[.string s] w fun e w' => e = .returned (.tuple #[.string (ab s s.size).1, .bool true]) ∧ Below w.heap.size w w' :=
  (above_any s w hs).mono fun _ _ ⟨he, hb⟩ => ⟨by rw [he, h], hb⟩
end Go.Proofs.YthlolfncdjaniaaDoor.Ab
