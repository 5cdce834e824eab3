/- What is sent is what is read: plain law over the reader's machine. -/
import Derived.Test.YtbdfjiobegadjaaDoorStrB
import Derived.Test.YtbdfjiobegadjaaDoorSReadN
namespace Go.Proofs.YtbdfjiobegadjaaDoor.Sm
open Go Go.RowKit Go.Proofs.YtbdfjiobegadjaaDoor.Wr Go.Proofs.YtbdfjiobegadjaaDoor.Tk Go.Proofs.YtbdfjiobegadjaaDoor.Rd Go.Proofs.YtbdfjiobegadjaaDoorW.PrintWords Go.Proofs.YtbdfjiobegadjaaDoorW.PrintLast Go.Proofs.YtbdfjiobegadjaaDoorW.PrintMore
set_option linter.unusedVariables false
set_option linter.unusedSimpArgs false
abbrev I (c : UInt8) : Int := (c.toNat : Int)
/-- All that the reader answers while it goes over these bytes, and where it stands then. -/
def outs : St → List UInt8 → Option (List (List ByteArray) × St)
  | st, [] => some ([], st)
  | st, c :: r => match stepF st (I c) with
    | .go s' => outs s' r
    | .whole l => (outs .start r).map (fun x => (l :: x.1, x.2))
    | .bad _ => none
theorem outs_app : ∀ (a b : List UInt8) (st : St), outs st (a ++ b) = (outs st a).bind fun x => (outs x.2 b).map fun y => (x.1 ++ y.1, y.2)
  | [], b, st => by cases h : outs st b <;> simp [outs, h]
  | c :: a, b, st => by
    rw [List.cons_append, outs, outs]
    cases stepF st (I c) with
    | go s' => exact outs_app a b s'
    | whole l =>
      dsimp only
      rw [outs_app a b .start]
      cases outs .start a with
      | none => rfl
      | some x =>
        dsimp only [Option.bind_some, Option.map_some]
        cases outs x.2 b <;> rfl
    | bad k => rfl
theorem outs_go {st st' : St} {a b : List UInt8} (h : outs st a = some ([], st')) : outs st (a ++ b) = outs st' b := by
  rw [outs_app, h]
  show (outs st' b).map (fun y => ([] ++ y.1, y.2)) = _
  cases outs st' b <;> rfl
theorem outs_one {st : St} {a b : List UInt8} {l : List (List ByteArray)} (h : outs st a = some (l, .start)) : outs st (a ++ b) = (outs .start b).map fun y => (l ++ y.1, y.2) := by
  rw [outs_app, h]
  rfl
/-! #### numerals -/
theorem nDigits_le : ∀ (k u : Nat), 1 ≤ k → u < 10 ^ k → Lib.nDigits u ≤ k
  | 0, u, h, _ => by omega
  | k + 1, u, _, h => by
    by_cases hu : u < 10
    · rw [Lib.nDigits_small hu]; omega
    · rw [Lib.nDigits_big hu]
      have hk : 1 ≤ k := by
        rcases Nat.eq_zero_or_pos k with rfl | hk
        · simp at h; omega
        · exact hk
      have := nDigits_le k (u / 10) hk (by rw [Nat.pow_succ] at h; omega)
      omega
theorem dec_outs (t : Th) : ∀ u : Nat, u < 1000000 → outs (.num t 0 0) (Lib.decDigits u) = some ([], .num t u (Lib.nDigits u)) := by
  intro u
  induction u using Nat.strongRecOn with
  | _ u ih =>
    intro hu
    by_cases h : u < 10
    · rw [Lib.decDigits_one h, Lib.nDigits_small h, outs]
      have hc : I (UInt8.ofNat (48 + u)) = 48 + (u : Int) := by show ((UInt8.ofNat (48 + u)).toNat : Int) = _; rw [UInt8.toNat_ofNat']; omega
      rw [hc, stepF, if_neg (by omega), if_neg (by omega)]
      simp only [outs]
      congr 4
      omega
    · rw [Lib.decDigits, dif_neg h, Lib.nDigits_big h, outs_go (ih (u / 10) (by omega) (by omega)), outs]
      have hc : I (UInt8.ofNat (48 + u % 10)) = 48 + ((u % 10 : Nat) : Int) := by show ((UInt8.ofNat (48 + u % 10)).toNat : Int) = _; rw [UInt8.toNat_ofNat']; omega
      have h5 := nDigits_le 5 (u / 10) (by omega) (by omega)
      have h1 := Lib.nDigits_pos (u / 10)
      rw [hc, stepF, if_neg (by omega), if_neg (by omega)]
      simp only [outs]
      congr 4
      omega
theorem num_outs (t : Th) (u : Nat) (hu : u < 1000000) (r : List UInt8) : outs (.num t 0 0) (Lib.itoa u ++ ([13, 10] ++ r)) = match thenF t u with
    | .go s' => outs s' r
    | .whole l => (outs .start r).map (fun x => (l :: x.1, x.2))
    | .bad _ => none := by
  rw [Lib.itoa_nonneg, outs_go (dec_outs t u hu), List.cons_append, outs]
  have h1 := Lib.nDigits_pos u
  rw [show stepF (.num t u (Lib.nDigits u)) (I 13) = .go (.numd t u) by rw [stepF, if_pos ⟨rfl, by omega⟩]]
  dsimp only
  rw [List.cons_append, outs, show stepF (.numd t u) (I 10) = thenF t u by rw [stepF, if_neg (by decide)], List.nil_append]
/-! #### words of a command -/
theorem body_outs (left need : Nat) (list : List ByteArray) : ∀ (a : List UInt8) (text : List Int) (r : List UInt8), a ≠ [] → text.length + a.length = need → outs (.body left need list text) (a ++ r) = outs (.bodyEnd left list (text ++ a.map I)) r
  | [], text, r, h, _ => absurd rfl h
  | c :: a, text, r, _, h => by
    rw [List.cons_append, outs, stepF]
    by_cases ha : a = []
    · subst ha
      rw [if_pos (by simpa using h)]
      rfl
    · have hl : a.length ≠ 0 := fun e => ha (List.eq_nil_of_length_eq_zero e)
      rw [if_neg (by simp at h; omega)]
      dsimp only
      rw [body_outs left need list a (text ++ [I c]) r ha (by simp at h ⊢; omega)]
      simp
theorem str_of (s : ByteArray) : strOfNums (s.data.toList.map I) = s := by
  apply ByteArray.ext
  show ((s.data.toList.map I).map (fun n => UInt8.ofNat n.toNat)).toArray = s.data
  rw [List.map_map, show ((fun n : Int => UInt8.ofNat n.toNat) ∘ I) = id by funext c; simp [I], List.map_id]
theorem bulk_outs (left : Nat) (list : List ByteArray) (s : ByteArray) (hs : s.size ≤ 65536) (r : List UInt8) : outs (.dollar left list) (bulkB s ++ r) =
    if left = 1 then (outs .start r).map (fun x => ((list ++ [s]) :: x.1, x.2)) else outs (.dollar (left - 1) (list ++ [s])) r := by
  have hend : ∀ text : List Int, strOfNums text = s → outs (.bodyEnd left list text) ([13, 10] ++ r) = if left = 1 then (outs .start r).map (fun x => ((list ++ [s]) :: x.1, x.2)) else outs (.dollar (left - 1) (list ++ [s])) r := fun text ht => by
    rw [List.cons_append, outs, show stepF (.bodyEnd left list text) (I 13) = .go (.worded left list text) by rw [stepF, if_neg (by decide)]]
    dsimp only
    rw [List.cons_append, outs, List.nil_append, stepF, if_neg (by decide), ht]
    by_cases h1 : left = 1
    · rw [if_pos h1, if_pos h1]
    · rw [if_neg h1, if_neg h1]
  unfold bulkB
  rw [List.append_assoc, List.cons_append, outs, show stepF (.dollar left list) (I 36) = .go (.num (.sized left list) 0 0) by rw [stepF, if_neg (by decide)]]
  dsimp only
  rw [List.append_assoc, num_outs _ _ (by omega), thenF, if_neg (by omega), List.append_assoc]
  have hl : s.data.toList.length = s.size := by simp
  by_cases h0 : s.size = 0
  · rw [if_pos h0]
    dsimp only
    have : s.data.toList = [] := List.eq_nil_of_length_eq_zero (by omega)
    rw [this, List.nil_append]
    refine hend [] ?_
    have e := str_of s
    rw [this] at e
    exact e
  · rw [if_neg h0]
    dsimp only
    rw [body_outs left s.size list s.data.toList [] _ (fun e => by rw [e] at hl; simp at hl; omega) (by simp), List.nil_append]
    exact hend _ (str_of s)
theorem bulks_outs : ∀ (l : List ByteArray) (left : Nat) (list : List ByteArray) (r : List UInt8), l ≠ [] → l.length = left → (∀ s ∈ l, s.size ≤ 65536) → outs (.dollar left list) (l.flatMap bulkB ++ r) = (outs .start r).map (fun x => ((list ++ l) :: x.1, x.2))
  | [], _, _, _, h, _, _ => absurd rfl h
  | s :: l, left, list, r, _, hl, hs => by
    rw [List.flatMap_cons, List.append_assoc, bulk_outs left list s (hs s (by simp))]
    by_cases h0 : l = []
    · subst h0
      rw [if_pos (by simpa using hl.symm)]
      rfl
    · have : l.length ≠ 0 := fun e => h0 (List.eq_nil_of_length_eq_zero e)
      rw [if_neg (by simp at hl; omega), bulks_outs l (left - 1) (list ++ [s]) r h0 (by simp at hl; omega) (fun x hx => hs x (by simp [hx]))]
      simp
theorem cmd_outs (l : List ByteArray) (h0 : l ≠ []) (h16 : l.length ≤ 16) (hs : ∀ s ∈ l, s.size ≤ 65536) : outs .start (cmdB l) = some ([l], .start) := by
  have hl : l.length ≠ 0 := fun e => h0 (List.eq_nil_of_length_eq_zero e)
  unfold cmdB
  rw [List.cons_append, outs, show stepF .start (I 42) = .go (.num .counted 0 0) by rw [stepF, if_pos (by decide)]]
  dsimp only
  rw [List.append_assoc, num_outs _ _ (by omega), thenF, if_neg hl, if_neg (by omega)]
  dsimp only
  have := bulks_outs l l.length [] [] h0 rfl hs
  rw [List.append_nil] at this
  rw [this]
  rfl
/-! #### words of a plain line -/
theorem lines_outs : ∀ (a : List UInt8) (text : List Int) (r : List UInt8), text.length + a.length ≤ 4096 → (∀ c ∈ a, (c.toNat = 9 ∨ 32 ≤ c.toNat) ∧ c.toNat ≠ 127) → outs (.line text) (a ++ r) = outs (.line (text ++ a.map I)) r
  | [], text, r, _, _ => by simp
  | c :: a, text, r, hl, hc => by
    have h := hc c (by simp)
    rw [List.cons_append, outs, show stepF (.line text) (I c) = .go (.line (text ++ [I c])) by
      show Rd.lineF text (I c) = _
      unfold Rd.lineF
      rw [if_neg (by simp only [I]; omega), if_neg (by simp at hl; omega), if_neg (by simp only [I]; omega)]]
    dsimp only
    rw [lines_outs a (text ++ [I c]) r (by simp at hl ⊢; omega) (fun d hd => hc d (by simp [hd]))]
    simp
theorem end_outs (text : List Int) (r : List UInt8) : outs (.line text) ([13, 10] ++ r) = match endF text 10 with
    | .go s' => outs s' r
    | .whole l => (outs .start r).map (fun x => (l :: x.1, x.2))
    | .bad _ => none := by
  rw [List.cons_append, outs, show stepF (.line text) (I 13) = .go (.lineEnd text) by show Rd.lineF text 13 = _; unfold Rd.lineF; rw [if_pos rfl]]
  rfl
theorem wordsA_word : ∀ (w now r : List Int), (∀ c ∈ w, c ≠ 32 ∧ c ≠ 9) → wordsA now (w ++ r) = wordsA (now ++ w) r
  | [], now, r, _ => by simp
  | c :: w, now, r, h => by
    have := h c (by simp)
    rw [List.cons_append, wordsA, if_neg (by omega), wordsA_word w (now ++ [c]) r (fun d hd => h d (by simp [hd]))]
    simp
/-- A word that a plain line may hold. -/
def okW (w : ByteArray) : Prop := 1 ≤ w.size ∧ w.size ≤ 200 ∧ ∀ c ∈ w.data.toList, 32 < c.toNat ∧ c.toNat ≠ 127
def wordB (w : ByteArray) : List UInt8 := w.data.toList ++ [9, 32]
theorem words_line : ∀ (l : List ByteArray), (∀ w ∈ l, okW w) → (wordsA [] ((l.flatMap wordB).map I)).map strOfNums = l
  | [], _ => rfl
  | w :: l, h => by
    obtain ⟨h1, h2, h3⟩ := h w (by simp)
    have hl : w.data.toList.length = w.size := by simp
    have hne : w.data.toList.map I ≠ [] := fun e => by
      rw [List.map_eq_nil_iff] at e
      rw [e] at hl
      simp at hl
      omega
    rw [List.flatMap_cons, List.map_append]
    unfold wordB
    rw [List.map_append, List.append_assoc, wordsA_word _ _ _ (fun c hc => by
      obtain ⟨d, hd, rfl⟩ := List.mem_map.1 hc
      have := h3 d hd
      simp only [I]
      omega), List.nil_append]
    show (wordsA (w.data.toList.map I) (9 :: 32 :: (l.flatMap wordB).map I)).map strOfNums = _
    rw [wordsA, if_pos (by omega), if_neg hne, wordsA, if_pos (by omega), if_pos rfl, List.nil_append, List.cons_append, List.map_cons, str_of, List.nil_append, words_line l (fun x hx => h x (by simp [hx]))]
def lineL (l : List ByteArray) : List UInt8 := 32 :: (l.flatMap wordB ++ [13, 10, 32, 13, 10])
theorem flat_len (l : List ByteArray) (h : ∀ w ∈ l, w.size ≤ 200) : (l.flatMap wordB).length ≤ 202 * l.length := by
  induction l with
  | nil => simp
  | cons w l ih =>
    have := ih (fun x hx => h x (by simp [hx]))
    have := h w (by simp)
    have hl : w.data.toList.length = w.size := by simp
    simp only [List.flatMap_cons, List.length_append, List.length_cons, wordB, List.length_nil, hl] at *
    omega
theorem line_outs (l : List ByteArray) (h0 : l ≠ []) (h16 : l.length ≤ 16) (h : ∀ w ∈ l, okW w) : outs .start (lineL l) = some ([l], .start) := by
  have hfl := flat_len l (fun w hw => (h w hw).2.1)
  have hw : wordsOf (32 :: (l.flatMap wordB).map I) = l := by
    unfold wordsOf
    rw [wordsA, if_pos (by omega), if_pos rfl, List.nil_append]
    exact words_line l h
  unfold lineL
  rw [outs, show stepF .start (I 32) = .go (.line [32]) by rfl]
  dsimp only
  rw [lines_outs _ _ _ (by simp only [List.length_cons, List.length_nil]; omega) (fun c hc => by
    obtain ⟨w, hw, hc⟩ := List.mem_flatMap.1 hc
    rcases List.mem_append.1 hc with hc | hc
    · have := (h w hw).2.2 c hc
      omega
    · simp at hc
      rcases hc with rfl | rfl <;> decide)]
  rw [show ([13, 10, 32, 13, 10] : List UInt8) = [13, 10] ++ [32, 13, 10] from rfl, end_outs, show [(32 : Int)] ++ (l.flatMap wordB).map I = 32 :: (l.flatMap wordB).map I from rfl]
  unfold endF
  rw [if_neg (by omega), hw, if_neg (by omega), if_neg h0]
  dsimp only
  rw [show outs .start [32, 13, 10] = some ([], .start) from rfl]
  rfl
end Go.Proofs.YtbdfjiobegadjaaDoor.Sm
