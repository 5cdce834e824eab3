/- The reader's machine and the document's reading from the first byte come to the same. Plain law. -/
import Derived.Test.YtbdfjiobegadjaaDoorRefB
import Derived.Test.YtbdfjiobegadjaaDoorReadN
namespace Go.Proofs.YtbdfjiobegadjaaDoor.Rf
open Go Go.RowKit Go.Proofs.YtbdfjiobegadjaaDoor.Tk Go.Proofs.YtbdfjiobegadjaaDoor.Pl Go.Proofs.YtbdfjiobegadjaaDoor.Rd Go.Proofs.YtbdfjiobegadjaaDoor.PWireMemory Go.Proofs.YtbdfjiobegadjaaDoorW.PrintWords Go.Proofs.YtbdfjiobegadjaaDoorW.PrintLast Go.Proofs.YtbdfjiobegadjaaDoorW.PrintMore
set_option linter.unusedVariables false
set_option linter.unusedSimpArgs false
/-- The machine from i on. -/
def runA (s : ByteArray) (i : Nat) (st : St) : RunR := runF s (s.size - i) i st
theorem runA_end (s : ByteArray) (i : Nat) (st : St) (h : ¬ i < s.size) : runA s i st = .more st := by unfold runA; rw [show s.size - i = 0 by omega, runF]
theorem runA_step (s : ByteArray) (i : Nat) (st : St) (h : i < s.size) : runA s i st = match stepF st (bt s i) with | .go st' => runA s (i + 1) st' | .whole l => .whole l (i + 1) | .bad k => .bad k := by
  unfold runA
  rw [show s.size - i = (s.size - (i + 1)) + 1 by omega, runF]
  cases stepF st (bt s (i : Nat)) <;> rfl
/-- r follows R: what R refuses, r refuses; where R misses something, r waits; else r goes on as f says. -/
def Fol {α : Type} (R : Res α) (r : RunR) (f : α → Nat → RunR) : Prop := match R with
  | .ok a j => r = f a j
  | .no k => if k = 3 then ∃ st, r = .more st else r = .bad k
theorem Fol.more {α : Type} {r : RunR} {f : α → Nat → RunR} (st : St) (h : r = .more st) : Fol (.no 3) r f := ⟨st, h⟩
theorem Fol.as {α β : Type} {R : Res α} {r : RunR} {f : α → Nat → RunR} {g : β → Nat → RunR} (y : β) (h : Fol R r f) (hf : ∀ a j, R = .ok a j → f a j = g y j) : Fol (R.as y) r g := by
  cases R with
  | no k => exact h
  | ok a j => exact h.trans (hf a j rfl)
theorem Fol.map {α β : Type} {R : Res α} {r : RunR} {f : α → Nat → RunR} {g : β → Nat → RunR} (m : α → β) (h : Fol R r f) (hf : ∀ a j, R = .ok a j → f a j = g (m a) j) : Fol (R.map m) r g := by
  cases R with
  | no k => exact h
  | ok a j => exact h.trans (hf a j rfl)
theorem Fol.next {α β : Type} {R : Res α} {p : α → Nat → Res β} {r : RunR} {f : α → Nat → RunR} {g : β → Nat → RunR} (h : Fol R r f) (hp : ∀ a j, R = .ok a j → Fol (p a j) (f a j) g) : Fol (nextR R p) r g := by
  cases R with
  | no k => exact h
  | ok a j =>
    have := hp a j rfl
    rw [← (show r = f a j from h)] at this
    exact this
theorem bt_is (s : ByteArray) (i : Nat) (h : i < s.size) (c : UInt8) : (s[i] = c ↔ bt s (i : Nat) = (c.toNat : Int)) := by
  rw [bt_nat' s i h]
  constructor
  · intro e; rw [e]
  · intro e
    have : (s[i]).toNat = c.toNat := by omega
    exact UInt8.toNat_inj.1 this
theorem exp_fol (s : ByteArray) (c : UInt8) (i : Nat) (st : St) (hst : ∀ x, x ≠ (c.toNat : Int) → stepF st x = .bad 1) :
    Fol (expect s [c] i) (runA s i st) (fun _ j => match stepF st (c.toNat : Int) with | .go st' => runA s j st' | .whole l => .whole l j | .bad k => .bad k) := by
  rw [expect]
  by_cases hi : i < s.size
  · rw [dif_pos hi]
    by_cases hc : s[i] = c
    · rw [if_pos hc, expect]
      show runA s i st = _
      rw [runA_step s i st hi, (bt_is s i hi c).1 hc]
    · rw [if_neg hc]
      show runA s i st = .bad 1
      rw [runA_step s i st hi, hst _ (fun e => hc ((bt_is s i hi c).2 e))]
  · rw [dif_neg hi]
    exact Fol.more st (runA_end s i st hi)
/-- What is done with a number, and on. -/
def contF (s : ByteArray) (t : Th) (n j : Nat) : RunR := match thenF t n with
  | .go st => runA s j st
  | .whole l => .whole l j
  | .bad k => .bad k
theorem num_fol (s : ByteArray) (t : Th) : ∀ (f n many i : Nat), i + f = s.size → Fol (numF s f n many i) (runA s i (.num t n many)) (fun v j => contF s t v j)
  | 0, n, many, i, h => by
    rw [numF]
    exact Fol.more _ (runA_end s i _ (by omega))
  | f + 1, n, many, i, h => by
    rw [numF, runA_step s i _ (by omega), stepF]
    by_cases h13 : bt s (i : Nat) = 13 ∧ 0 < many
    · rw [if_pos h13, if_pos h13]
      refine (exp_fol s 10 (i + 1) (.numd t n) (fun x hx => by rw [stepF]; exact if_pos hx)).as n (fun u j _ => ?_)
      rw [show stepF (.numd t n) ((10 : UInt8).toNat : Int) = thenF t n by rw [stepF, if_neg (by decide)]]
      rfl
    · rw [if_neg h13, if_neg h13]
      by_cases hb : bt s (i : Nat) < 48 ∨ 57 < bt s (i : Nat) ∨ many = 6 ∨ (many = 1 ∧ n = 0)
      · rw [if_pos hb, if_pos (by omega)]
        rfl
      · rw [if_neg hb, if_neg (by omega)]
        exact num_fol s t f _ _ (i + 1) (by omega)
theorem body_run (s : ByteArray) (left need : Nat) (list : List ByteArray) (i0 : Nat) : ∀ (d i : Nat), i0 ≤ i → i + d = i0 + need → 0 < d →
    runA s i (.body left need list (cut s i0 i)) = if i0 + need ≤ s.size then runA s (i0 + need) (.bodyEnd left list (cut s i0 (i0 + need))) else .more (.body left need list (cut s i0 (max i s.size)))
  | 0, i, _, _, h => by omega
  | d + 1, i, h0, h1, _ => by
    have hcl : (cut s i0 i).length = i - i0 := by simp [cut]
    by_cases hi : i < s.size
    · rw [runA_step s i _ hi, stepF, hcl]
      by_cases hd : d = 0
      · subst hd
        rw [if_pos (by omega)]
        rw [if_pos (by omega), ← cut_snoc s i0 i h0, show i + 1 = i0 + need by omega]
      · rw [if_neg (by omega)]
        simp only
        rw [← cut_snoc s i0 i h0, body_run s left need list i0 d (i + 1) (by omega) (by omega) (by omega)]
        rw [show max (i + 1) s.size = max i s.size by omega]
    · rw [runA_end s i _ hi, if_neg (by omega), show max i s.size = i by omega]
def wordC (s : ByteArray) (left : Nat) (list : List ByteArray) (w : ByteArray) (j : Nat) : RunR := if left = 1 then .whole (list ++ [w]) j else runA s j (.dollar (left - 1) (list ++ [w]))
theorem word_fol (s : ByteArray) (left : Nat) (list : List ByteArray) (i : Nat) : Fol (wordR s i) (runA s i (.dollar left list)) (wordC s left list) := by
  unfold wordR
  have h1 := exp_fol s 36 i (.dollar left list) (fun x hx => by rw [stepF]; exact if_pos hx)
  rw [show stepF (.dollar left list) ((36 : UInt8).toNat : Int) = .go (.num (.sized left list) 0 0) by rw [stepF, if_neg (by decide)]] at h1
  cases hx : expect s [36] i with
  | no k => rw [hx] at h1; exact h1
  | ok u j =>
    rw [hx] at h1
    have h1 : runA s i (.dollar left list) = runA s j (.num (.sized left list) 0 0) := h1
    have hj : j = i + 1 ∧ j ≤ s.size := by
      rw [expect] at hx
      split at hx
      · split at hx
        · simp only [expect, Res.ok.injEq] at hx; omega
        · cases hx
      · cases hx
    rw [h1]
    have h2 := num_fol s (.sized left list) (s.size - j) 0 0 j (by omega)
    dsimp only
    unfold numS
    cases hn : numF s (s.size - j) 0 0 j with
    | no k => rw [hn] at h2; exact h2
    | ok n j2 =>
      rw [hn] at h2
      have h2 : runA s j (.num (.sized left list) 0 0) = contF s (.sized left list) n j2 := h2
      have hj2 := numF_le hn (by omega)
      simp only
      rw [h2]
      unfold contF
      rw [thenF]
      by_cases hbig : 65536 < n
      · rw [if_pos hbig, if_pos hbig]; rfl
      · rw [if_neg hbig, if_neg hbig]
        have fin : j2 + n ≤ s.size → Fol ((expect s [13, 10] (j2 + n)).as (s.extract j2 (j2 + n))) (runA s (j2 + n) (.bodyEnd left list (cut s j2 (j2 + n)))) (wordC s left list) := by
          intro hle
          rw [expect_cons]
          refine Fol.as (f := fun (_ : Unit) j => wordC s left list (s.extract j2 (j2 + n)) j) _ (Fol.next (exp_fol s 13 (j2 + n) _ (fun x hx => by rw [stepF]; exact if_pos hx)) (fun u j3 _ => ?_)) (fun _ _ _ => rfl)
          rw [show stepF (.bodyEnd left list (cut s j2 (j2 + n))) ((13 : UInt8).toNat : Int) = .go (.worded left list (cut s j2 (j2 + n))) by rw [stepF, if_neg (by decide)]]
          have h3 := exp_fol s 10 j3 (.worded left list (cut s j2 (j2 + n))) (fun x hx => by rw [stepF]; exact if_pos hx)
          have e : stepF (.worded left list (cut s j2 (j2 + n))) ((10 : UInt8).toNat : Int) = if left = 1 then .whole (list ++ [s.extract j2 (j2 + n)]) else .go (.dollar (left - 1) (list ++ [s.extract j2 (j2 + n)])) := by
            rw [stepF, if_neg (by decide), cut_str s j2 (j2 + n) (by omega) hle]
          rw [e] at h3
          cases hy : expect s [10] j3 with
          | no k => rw [hy] at h3; exact h3
          | ok u' j4 =>
            rw [hy] at h3
            refine Eq.trans (show _ = _ from h3) ?_
            unfold wordC
            dsimp only
            by_cases hl1 : left = 1
            · rw [if_pos hl1, if_pos hl1]
            · rw [if_neg hl1, if_neg hl1]
        by_cases h0 : n = 0
        · subst h0
          rw [if_neg (by omega), if_pos rfl]
          simp only
          have := fin (by omega)
          rw [Nat.add_zero, cut_nil] at this
          exact this
        · rw [if_neg h0]
          simp only
          have hb := body_run s left n list j2 n j2 (Nat.le_refl _) rfl (by omega)
          rw [cut_nil] at hb
          rw [hb]
          by_cases hle : j2 + n ≤ s.size
          · rw [if_neg (by omega), if_pos hle]
            exact fin hle
          · rw [if_pos (by omega), if_neg hle]
            exact Fol.more _ rfl
theorem words_fol (s : ByteArray) : ∀ (n : Nat) (list : List ByteArray) (i : Nat), Fol (wordsR s (n + 1) i) (runA s i (.dollar (n + 1) list)) (fun l j => .whole (list ++ l) j)
  | n, list, i => by
    rw [wordsR]
    have h := word_fol s (n + 1) list i
    cases hw : wordR s i with
    | no k => rw [hw] at h; exact h
    | ok w j =>
      rw [hw] at h
      rw [show runA s i (.dollar (n + 1) list) = wordC s (n + 1) list w j from h]
      unfold wordC
      cases n with
      | zero =>
        rw [if_pos rfl]
        rfl
      | succ n =>
        rw [if_neg (by omega), show n + 1 + 1 - 1 = n + 1 by omega]
        exact (words_fol s n (list ++ [w]) j).map _ (fun l j' _ => by simp)
theorem array_fol (s : ByteArray) (h : 0 < s.size) (h42 : bt s (0 : Nat) = 42) : Fol (arrayR s 0) (runA s 0 .start) (fun l j => .whole l j) := by
  unfold arrayR
  have h1 : Fol (nextR (expect s [42] 0) fun _ j => numS s j) (runA s 0 .start) (fun v j => contF s .counted v j) := by
    have he : expect s [42] 0 = .ok () 1 := by
      rw [expect, dif_pos h, if_pos ((bt_is s 0 h 42).2 h42), expect]
    rw [he]
    show Fol (numS s 1) _ _
    rw [runA_step s 0 _ h, h42, show stepF .start 42 = .go (.num .counted 0 0) by rw [stepF, if_pos rfl]]
    exact num_fol s .counted (s.size - 1) 0 0 1 (by omega)
  refine Fol.next h1 (fun n j _ => ?_)
  unfold arrN contF
  rw [thenF]
  by_cases h0 : n = 0
  · rw [if_pos h0, if_pos h0]; rfl
  · rw [if_neg h0, if_neg h0]
    by_cases h16 : 16 < n
    · rw [if_pos h16, if_pos h16]; rfl
    · rw [if_neg h16, if_neg h16]
      obtain ⟨m, rfl⟩ : ∃ m, n = m + 1 := ⟨n - 1, by omega⟩
      exact words_fol s m [] j
def lineC (s : ByteArray) (t : ByteArray) (j : Nat) : RunR := match lineN t j with
  | .no k => .bad k
  | .ok l j => if l = [] then runA s j .start else .whole l j
theorem line_fol (s : ByteArray) : ∀ (f : Nat) (text : List Int) (i : Nat), i + f = s.size → (∀ c ∈ text, 0 ≤ c ∧ c ≤ 255) → Fol (linR s f text i) (runA s i (.line text)) (lineC s)
  | 0, text, i, h, _ => by
    rw [linR]
    exact Fol.more _ (runA_end s i _ (by omega))
  | f + 1, text, i, h, ht => by
    rw [linR, runA_step s i _ (by omega), stepF, lineF]
    by_cases h13 : bt s (i : Nat) = 13
    · rw [if_pos h13, if_pos h13]
      refine (exp_fol s 10 (i + 1) (.lineEnd text) (fun x hx => by rw [stepF, endF]; exact if_pos hx)).as _ (fun u j _ => ?_)
      rw [show stepF (.lineEnd text) ((10 : UInt8).toNat : Int) = if 16 < (wordsOf text).length then .bad 2 else if wordsOf text = [] then .go .start else .whole (wordsOf text) by rw [stepF, endF, if_neg (by decide)]]
      unfold lineC lineN
      rw [cut_all text ht]
      by_cases h16 : 16 < (wordsOf text).length
      · rw [if_pos h16, if_pos h16]
      · rw [if_neg h16, if_neg h16]
        by_cases hn : wordsOf text = []
        · rw [if_pos hn]; simp only; rw [if_pos hn]
        · rw [if_neg hn]; simp only; rw [if_neg hn]
    · rw [if_neg h13, if_neg h13]
      by_cases hfull : text.length = 4096
      · rw [if_pos hfull, if_pos hfull]; rfl
      · rw [if_neg hfull, if_neg hfull]
        by_cases hb : bt s (i : Nat) ≠ 9 ∧ (bt s (i : Nat) < 32 ∨ bt s (i : Nat) = 127)
        · rw [if_pos hb, if_pos (by omega)]; rfl
        · rw [if_neg hb, if_neg (by omega)]
          refine line_fol s f _ (i + 1) (by omega) (fun c hc => ?_)
          rcases List.mem_append.1 hc with hc | hc
          · exact ht c hc
          · rw [List.mem_singleton.1 hc]; exact bt_range s _
theorem one_fol (s : ByteArray) : Fol (oneR s) (runA s 0 .start) (fun l j => if l = [] then runA s j .start else .whole l j) := by
  unfold oneR
  by_cases h0 : s.size = 0
  · rw [if_pos h0]
    exact Fol.more _ (runA_end s 0 _ (by omega))
  · rw [if_neg h0]
    by_cases h42 : bt s (0 : Nat) = 42
    · rw [if_pos h42]
      have h := array_fol s (by omega) h42
      cases ha : arrayR s 0 with
      | no k => rw [ha] at h; exact h
      | ok l j =>
        rw [ha] at h
        have hl : l ≠ [] := by
          unfold arrayR at ha
          cases hx : nextR (expect s [42] 0) (fun _ j => numS s j) with
          | no k => rw [hx] at ha; cases ha
          | ok n j2 =>
            rw [hx] at ha
            have ha : arrN s n j2 = .ok l j := ha
            unfold arrN at ha
            split at ha
            · cases ha
            · split at ha
              · cases ha
              · have := wordsR_len ha
                intro e
                rw [e] at this
                simp at this
                omega
        exact (show runA s 0 .start = .whole l j from h).trans (if_neg hl).symm
    · rw [if_neg h42]
      have hst : runA s 0 .start = runA s 0 (.line []) := by
        rw [runA_step s 0 _ (by omega), runA_step s 0 _ (by omega)]
        simp only [stepF]
        rw [if_neg h42]
      rw [hst]
      have h := line_fol s s.size [] 0 (by omega) (by simp)
      refine Fol.next h (fun t j _ => ?_)
      unfold lineC
      cases hl : lineN t j with
      | no k =>
        unfold lineN at hl
        split at hl
        · cases hl; rfl
        · cases hl
      | ok l j' => rfl
end Go.Proofs.YtbdfjiobegadjaaDoor.Rf
/- Two readers that were fed the same stay in step: the machine that goes on, and the reading from the first byte. Plain law. -/
namespace Go.Proofs.YtbdfjiobegadjaaDoor.Rf
open Go Go.RowKit Go.Proofs.YtbdfjiobegadjaaDoor.Tk Go.Proofs.YtbdfjiobegadjaaDoor.Pl Go.Proofs.YtbdfjiobegadjaaDoor.Rd Go.Proofs.YtbdfjiobegadjaaDoor.PWireMemory Go.Proofs.YtbdfjiobegadjaaDoorW.PrintWords Go.Proofs.YtbdfjiobegadjaaDoorW.PrintLast Go.Proofs.YtbdfjiobegadjaaDoorW.PrintMore
set_option linter.unusedVariables false
set_option linter.unusedSimpArgs false
def shiftR (d : Nat) : RunR → RunR
  | .more st => .more st
  | .whole l i => .whole l (d + i)
  | .bad k => .bad k
theorem bt_ext (s : ByteArray) (j i : Nat) (h : j + i < s.size) : bt (s.extract j s.size) (i : Nat) = bt s ((j + i : Nat) : Int) := by
  have h1 : i < (s.extract j s.size).size := by rw [ByteArray.size_extract]; omega
  rw [bt_nat' _ i h1, bt_nat' s (j + i) h, ByteArray.getElem_extract]
theorem run_ext (s : ByteArray) (j : Nat) (hj : j ≤ s.size) : ∀ (f i : Nat) (st : St), j + i + f = s.size → runF s f (j + i) st = shiftR j (runF (s.extract j s.size) f i st)
  | 0, i, st, h => rfl
  | f + 1, i, st, h => by
    rw [runF, runF, bt_ext s j i (by omega)]
    cases stepF st (bt s ((j + i : Nat) : Int)) with
    | go st' =>
      simp only
      rw [show j + i + 1 = j + (i + 1) by omega]
      exact run_ext s j hj f (i + 1) st' (by omega)
    | whole l => simp only [shiftR]; congr 1
    | bad k => rfl
theorem runA_ext (s : ByteArray) (j : Nat) (st : St) (hj : j ≤ s.size) : runA s j st = shiftR j (runA (s.extract j s.size) 0 st) := by
  unfold runA
  have := run_ext s j hj (s.size - j) 0 st (by omega)
  rw [show (s.extract j s.size).size - 0 = s.size - j by rw [ByteArray.size_extract]; omega]
  exact this
/-- The document's Next, asked of s, and the machine over s from the beginning. -/
inductive Meets (s : ByteArray) : RefR → RunR → Prop
  | more (s' : ByteArray) (st : St) (h : runA s' 0 .start = .more st) (hl : s'.size ≤ s.size) : Meets s (.more s') (.more st)
  | whole (l : List ByteArray) (i : Nat) (hi : i ≤ s.size) (hl : l ≠ []) : Meets s (.whole l (s.extract i s.size)) (.whole l i)
  | bad (k : Nat) (hk : k < 3) : Meets s (.bad k) (.bad k)
theorem expect_no {s : ByteArray} : ∀ {l : List UInt8} {i k : Nat}, expect s l i = .no k → k = 1 ∨ k = 3
  | [], i, k, h => by cases h
  | c :: l, i, k, h => by
    rw [expect] at h
    split at h
    · split at h
      · exact expect_no h
      · simp only [Res.no.injEq] at h; omega
    · simp only [Res.no.injEq] at h; omega
theorem as_no {α β : Type} {R : Res α} {y : β} {k : Nat} (h : R.as y = .no k) : R = .no k := by cases R <;> cases h; rfl
theorem map_no {α β : Type} {R : Res α} {f : α → β} {k : Nat} (h : R.map f = .no k) : R = .no k := by cases R <;> cases h; rfl
theorem numF_no {s : ByteArray} : ∀ {f n many i k : Nat}, numF s f n many i = .no k → k = 1 ∨ k = 3
  | 0, _, _, _, k, h => by rw [numF] at h; simp only [Res.no.injEq] at h; omega
  | f + 1, n, many, i, k, h => by
    rw [numF] at h
    split at h
    · exact expect_no (as_no h)
    · split at h
      · simp only [Res.no.injEq] at h; omega
      · exact numF_no h
theorem wordR_no {s : ByteArray} {i k : Nat} (h : wordR s i = .no k) : k = 1 ∨ k = 2 ∨ k = 3 := by
  unfold wordR at h
  split at h
  · rename_i k' hx
    obtain rfl := Res.no.inj h
    have := expect_no hx
    omega
  · split at h
    · rename_i k' hx
      obtain rfl := Res.no.inj h
      have := numF_no hx
      omega
    · split at h
      · simp only [Res.no.injEq] at h; omega
      · split at h
        · simp only [Res.no.injEq] at h; omega
        · have := expect_no (as_no h)
          omega
theorem wordsR_no {s : ByteArray} : ∀ {n i k : Nat}, wordsR s n i = .no k → k = 1 ∨ k = 2 ∨ k = 3
  | 0, _, _, h => by cases h
  | n + 1, i, k, h => by
    rw [wordsR] at h
    split at h
    · rename_i k' hx
      obtain rfl := Res.no.inj h
      exact wordR_no hx
    · exact wordsR_no (map_no h)
theorem linR_no {s : ByteArray} : ∀ {f : Nat} {text : List Int} {i k : Nat}, linR s f text i = .no k → k = 1 ∨ k = 2 ∨ k = 3
  | 0, _, _, k, h => by rw [linR] at h; simp only [Res.no.injEq] at h; omega
  | f + 1, text, i, k, h => by
    rw [linR] at h
    split at h
    · have := expect_no (as_no h)
      omega
    · split at h
      · simp only [Res.no.injEq] at h; omega
      · split at h
        · simp only [Res.no.injEq] at h; omega
        · exact linR_no h
theorem oneR_no {s : ByteArray} {k : Nat} (h : oneR s = .no k) : k = 1 ∨ k = 2 ∨ k = 3 := by
  unfold oneR at h
  split at h
  · simp only [Res.no.injEq] at h; omega
  · split at h
    · unfold arrayR at h
      cases hx : expect s [42] 0 with
      | no k' =>
        rw [hx] at h
        obtain rfl := Res.no.inj h
        have := expect_no hx
        omega
      | ok u j =>
        rw [hx, show nextR (Res.ok u j) (fun _ j => numS s j) = numS s j from rfl] at h
        cases hn : numS s j with
        | no k' =>
          rw [hn] at h
          obtain rfl := Res.no.inj h
          have := numF_no hn
          omega
        | ok n j2 =>
          rw [hn] at h
          have h : arrN s n j2 = .no k := h
          unfold arrN at h
          split at h
          · simp only [Res.no.injEq] at h; omega
          · split at h
            · simp only [Res.no.injEq] at h; omega
            · exact wordsR_no h
    · cases hx : linR s s.size [] 0 with
      | no k' =>
        rw [hx] at h
        obtain rfl := Res.no.inj h
        exact linR_no hx
      | ok t j =>
        rw [hx] at h
        have h : lineN t j = .no k := h
        unfold lineN at h
        split at h
        · simp only [Res.no.injEq] at h; omega
        · cases h
theorem next_meets : ∀ (f : Nat) (s : ByteArray), s.size < f → Meets s (nextF f s) (runA s 0 .start)
  | 0, s, h => by omega
  | f + 1, s, h => by
    rw [nextF]
    have ho := one_fol s
    cases hx : oneR s with
    | no k =>
      rw [hx] at ho
      have hk := oneR_no hx
      dsimp only
      by_cases h3 : k = 3
      · subst h3
        obtain ⟨st, hst⟩ : ∃ st, runA s 0 .start = .more st := ho
        rw [if_pos rfl, hst]
        exact .more s st hst (Nat.le_refl _)
      · rw [if_neg h3]
        have : runA s 0 .start = .bad k := by
          unfold Fol at ho
          dsimp only at ho
          rw [if_neg h3] at ho
          exact ho
        rw [this]
        exact .bad k (by omega)
    | ok l i =>
      rw [hx] at ho
      have hi := oneR_lt hx
      have hs : (s.extract i s.size).size = s.size - i := by rw [ByteArray.size_extract]; omega
      dsimp only
      have ho : runA s 0 .start = if l = [] then runA s i .start else .whole l i := ho
      by_cases hl : l = []
      · rw [if_pos hl] at ho ⊢
        rw [ho, runA_ext s i .start hi.2]
        have ih := next_meets f (s.extract i s.size) (by omega)
        generalize hR : nextF f (s.extract i s.size) = R at ih
        generalize hr : runA (s.extract i s.size) 0 .start = r at ih
        cases ih with
        | more s' st h hle => exact .more s' st h (by omega)
        | whole l' j hj hne =>
          have e : (s.extract i s.size).extract j (s.extract i s.size).size = s.extract (i + j) s.size := by
            rw [ByteArray.extract_extract, hs]
            congr 1
            omega
          rw [e]
          exact Meets.whole (s := s) l' (i + j) (by omega) hne
        | bad k hk => exact .bad k hk
      · rw [if_neg hl] at ho ⊢
        rw [ho]
        exact .whole l i hi.2 hl
theorem bt_left (P w : ByteArray) (i : Nat) (h : i < P.size) : bt (P ++ w) (i : Nat) = bt P (i : Nat) := by
  rw [bt_nat' _ i (by rw [ByteArray.size_append]; omega), bt_nat' P i h, ByteArray.getElem_append_left h]
theorem bt_right (P w : ByteArray) (i : Nat) (h : i < w.size) : bt (P ++ w) ((P.size + i : Nat) : Int) = bt w (i : Nat) := by
  rw [bt_nat' _ (P.size + i) (by rw [ByteArray.size_append]; omega), bt_nat' w i h, ByteArray.getElem_append_right (by omega)]
  congr 2
  simp
theorem run_left (P w : ByteArray) : ∀ (f i : Nat) (st : St), i + f = P.size → runA (P ++ w) i st = match runF P f i st with
    | .more st' => runA (P ++ w) P.size st'
    | .whole l j => .whole l j
    | .bad k => .bad k
  | 0, i, st, h => by
    obtain rfl : i = P.size := by omega
    rfl
  | f + 1, i, st, h => by
    rw [runA_step _ i st (by rw [ByteArray.size_append]; omega), bt_left P w i (by omega), runF]
    cases stepF st (bt P (i : Nat)) with
    | go st' => exact run_left P w f (i + 1) st' (by omega)
    | whole l => rfl
    | bad k => rfl
theorem run_right (P w : ByteArray) : ∀ (f i : Nat) (st : St), i + f = w.size → runA (P ++ w) (P.size + i) st = shiftR P.size (runF w f i st)
  | 0, i, st, h => by
    rw [runA_end _ _ _ (by rw [ByteArray.size_append]; omega)]
    rfl
  | f + 1, i, st, h => by
    rw [runA_step _ _ st (by rw [ByteArray.size_append]; omega), bt_right P w i (by omega), runF]
    cases stepF st (bt w (i : Nat)) with
    | go st' => exact run_right P w f (i + 1) st' (by omega)
    | whole l => rfl
    | bad k => rfl
theorem app_nil (s : ByteArray) : s ++ (⟨#[]⟩ : ByteArray) = s := by ext1; simp
theorem nil_app (s : ByteArray) : (⟨#[]⟩ : ByteArray) ++ s = s := by ext1; simp
/-- The machine has gone over P, which waits still with the other; behind it both have the same. -/
def Sync (st : St) (wp wr : ByteArray) : Prop := ∃ P : ByteArray, wr = P ++ wp ∧ runA P 0 .start = .more st
theorem sync_new : Sync .start ⟨#[]⟩ ⟨#[]⟩ := ⟨⟨#[]⟩, rfl, rfl⟩
theorem Sync.feed {st : St} {wp wr : ByteArray} (h : Sync st wp wr) (d : ByteArray) : Sync st (wp ++ d) (wr ++ d) := by
  obtain ⟨P, e, h⟩ := h
  exact ⟨P, by rw [e, ByteArray.append_assoc], h⟩
theorem Sync.run {st : St} {wp wr : ByteArray} (h : Sync st wp wr) : ∃ d, wr.size = d + wp.size ∧ runA wr 0 .start = shiftR d (runF wp wp.size 0 st) ∧ ∀ i, i ≤ wp.size → wr.extract (d + i) wr.size = wp.extract i wp.size := by
  obtain ⟨P, rfl, h⟩ := h
  refine ⟨P.size, by rw [ByteArray.size_append], ?_, fun i hi => ?_⟩
  · rw [run_left P wp P.size 0 .start (by omega)]
    have h : runF P P.size 0 .start = .more st := h
    rw [h]
    exact run_right P wp wp.size 0 st (by omega)
  · rw [ByteArray.size_append]
    apply ByteArray.ext_getElem
    · rw [ByteArray.size_extract, ByteArray.size_extract, ByteArray.size_append]; omega
    · intro k h1 h2
      rw [ByteArray.size_extract] at h2
      rw [ByteArray.getElem_extract, ByteArray.getElem_extract, ByteArray.getElem_append_right (by omega)]
      congr 1
      omega
/-- What both come to when they are asked. -/
inductive Both (wp wr : ByteArray) : RunR → RefR → Prop
  | more (st : St) (s : ByteArray) (h : Sync st ⟨#[]⟩ s) (hl : s.size ≤ wr.size) : Both wp wr (.more st) (.more s)
  | whole (l : List ByteArray) (i : Nat) (hi : i ≤ wp.size) (h : Sync .start (wp.extract i wp.size) (wp.extract i wp.size)) (hl : l ≠ []) : Both wp wr (.whole l i) (.whole l (wp.extract i wp.size))
  | bad (k : Nat) (hk : k < 3) : Both wp wr (.bad k) (.bad k)
theorem runF_le {s : ByteArray} : ∀ {f i : Nat} {st : St} {l : List ByteArray} {j : Nat}, runF s f i st = .whole l j → j ≤ i + f
  | 0, _, _, _, _, h => by cases h
  | f + 1, i, st, l, j, h => by
    rw [runF] at h
    split at h
    · have := runF_le h; omega
    · simp only [RunR.whole.injEq] at h; omega
    · cases h
theorem Sync.both {st : St} {wp wr : ByteArray} (h : Sync st wp wr) : Both wp wr (runF wp wp.size 0 st) (nextF (wr.size + 1) wr) := by
  obtain ⟨d, hd, hrun, hext⟩ := h.run
  have hm := next_meets (wr.size + 1) wr (by omega)
  rw [hrun] at hm
  generalize hr : runF wp wp.size 0 st = r at hm
  generalize nextF (wr.size + 1) wr = R at hm
  cases r with
  | more st' =>
    have hm : Meets wr R (.more st') := hm
    cases hm with
    | more s' _ h hl => exact .more st' s' ⟨s', (app_nil s').symm, h⟩ hl
  | whole l i =>
    have hi := runF_le hr
    have hm : Meets wr R (.whole l (d + i)) := hm
    cases hm with
    | whole _ _ hi' hl =>
      rw [hext i (by omega)]
      exact .whole l i (by omega) ⟨⟨#[]⟩, (nil_app _).symm, rfl⟩ hl
  | bad k =>
    have hm : Meets wr R (.bad k) := hm
    cases hm with
    | bad _ hk => exact .bad k hk
end Go.Proofs.YtbdfjiobegadjaaDoor.Rf
