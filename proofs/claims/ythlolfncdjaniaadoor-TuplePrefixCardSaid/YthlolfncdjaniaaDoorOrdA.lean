/- Lists that stand equal are the same; turned round; beginnings; how long texts are: plain law. -/
import Derived.Test.YthlolfncdjaniaaDoorOrd
namespace Go.Proofs.YthlolfncdjaniaaDoor.Tu
open Go Go.RowKit Go.Proofs.YthlolfncdjaniaaDoor.PTuplePrefix Go.Proofs.YthlolfncdjaniaaDoorW.PrintWords
set_option linter.unusedVariables false
set_option linter.unusedSimpArgs false
theorem cb_zero : ∀ {s t : List UInt8}, cb s t = 0 → s = t
  | [], [], _ => rfl
  | [], _ :: _, h => by cases h
  | _ :: _, [], h => by cases h
  | a :: s, b :: t, h => by
    rw [cb_cons] at h
    split at h
    · cases h
    · rename_i h1
      split at h
      · cases h
      · rename_i h2
        rw [ueq h1 h2, cb_zero h]
theorem cb_neg : ∀ (s t : List UInt8), cb t s = - cb s t
  | [], [] => rfl
  | [], _ :: _ => rfl
  | _ :: _, [] => rfl
  | a :: s, b :: t => by
    rw [cb_cons, cb_cons, cb_neg s t]
    by_cases h : a < b
    · rw [if_neg (ult_ne h), if_pos h, if_pos h]; rfl
    · by_cases h' : b < a
      · rw [if_pos h', if_neg h, if_pos h']
      · rw [if_neg h', if_neg h, if_neg h, if_neg h']
theorem sgn_zero {a b : Int} (h : sgn a b = 0) : a = b := by
  unfold sgn at h
  split at h
  · cases h
  · split at h
    · cases h
    · omega
theorem sgn_neg (a b : Int) : sgn b a = - sgn a b := by
  unfold sgn
  rcases Int.lt_trichotomy a b with h | h | h
  · rw [if_neg (by omega), if_pos h, if_pos h]; rfl
  · subst h; simp
  · rw [if_pos h, if_neg (by omega), if_pos h]
theorem head_neg (x y : S46) : headC y x = - headC x y := by
  unfold headC
  rw [sgn_neg x.f0, sgn_neg x.f1, show Lib.compareBytes y.f2.data.toList x.f2.data.toList = - Lib.compareBytes x.f2.data.toList y.f2.data.toList from cb_neg _ _]
  by_cases h0 : sgn x.f0 y.f0 = 0
  · by_cases h1 : sgn x.f1 y.f1 = 0
    · simp [h0, h1]
    · simp [h0, h1]
  · simp [h0]
theorem head_zero {x y : S46} (h : headC x y = 0) : x.f0 = y.f0 ∧ x.f1 = y.f1 ∧ x.f2 = y.f2 := by
  unfold headC at h
  split at h
  · rename_i h0; exact absurd h h0
  · rename_i h0
    split at h
    · rename_i h1; exact absurd h h1
    · rename_i h1
      refine ⟨sgn_zero (by simpa using h0), sgn_zero (by simpa using h1), ?_⟩
      exact ByteArray.ext (Array.toList_inj.1 (cb_zero h))
theorem cmpLs_neg {f : S46 → S46 → Int} (hf : ∀ x y, f y x = - f x y) : ∀ a b, cmpLs f b a = - cmpLs f a b
  | [], [] => by simp [cmpLs]
  | [], _ :: _ => by simp [cmpLs]
  | _ :: _, [] => by simp [cmpLs]
  | x :: a, y :: b => by
    rw [cmpLs, cmpLs, hf x y, cmpLs_neg hf a b]
    by_cases h : f x y = 0
    · simp [h]
    · simp [h]
theorem cmpG_neg {g : List S46 → List S46 → Int} (hg : ∀ a b, g b a = - g a b) (x y : S46) : cmpG g y x = - cmpG g x y := by
  unfold cmpG
  rw [head_neg x y, hg x.f3]
  by_cases h : headC x y = 0
  · simp [h]
  · simp [h]
theorem cmpI_neg : ∀ (d : Nat) (x y : S46), cmpI d y x = - cmpI d x y
  | 0, x, y => cmpG_neg (fun _ _ => rfl) x y
  | d + 1, x, y => cmpG_neg (cmpLs_neg (cmpI_neg d)) x y
theorem cmpLs_zero {d : Nat} {f : S46 → S46 → Int} (hf : ∀ x y, Ok46 d x → Ok46 d y → f x y = 0 → x = y) : ∀ {a b : List S46}, (∀ x, x ∈ a → Ok46 d x) → (∀ x, x ∈ b → Ok46 d x) → cmpLs f a b = 0 → a = b
  | [], [], _, _, _ => rfl
  | [], _ :: _, _, _, h => by simp [cmpLs] at h
  | _ :: _, [], _, _, h => by simp [cmpLs] at h
  | x :: a, y :: b, ha, hb, h => by
    rw [cmpLs] at h
    split at h
    · rename_i h0
      rw [hf x y (ha x (by simp)) (hb y (by simp)) h0, cmpLs_zero hf (fun z hz => ha z (by simp [hz])) (fun z hz => hb z (by simp [hz])) h]
    · rename_i h0; exact absurd h h0
theorem s46_ext {x y : S46} (h0 : x.f0 = y.f0) (h1 : x.f1 = y.f1) (h2 : x.f2 = y.f2) (h3 : x.f3 = y.f3) : x = y := by
  cases x; cases y; simp_all
theorem ok_inner {d : Nat} {x : S46} (h : Ok46 (d + 1) x) : ∀ y, y ∈ x.f3 → Ok46 d y := by
  cases h with
  | list _ l hl hok => exact hok
  | _ => intro y hy; simp at hy
theorem ok_none {x : S46} (h : Ok46 0 x) : x.f3 = [] := by cases h <;> rfl
theorem cmpI_zero : ∀ (d : Nat) (x y : S46), Ok46 d x → Ok46 d y → cmpI d x y = 0 → x = y
  | 0, x, y, hx, hy, h => by
    unfold cmpI cmpG at h
    split at h
    · rename_i h0
      obtain ⟨e0, e1, e2⟩ := head_zero h0
      exact s46_ext e0 e1 e2 (by rw [ok_none hx, ok_none hy])
    · rename_i h0; exact absurd h h0
  | d + 1, x, y, hx, hy, h => by
    unfold cmpI cmpG at h
    split at h
    · rename_i h0
      obtain ⟨e0, e1, e2⟩ := head_zero h0
      exact s46_ext e0 e1 e2 (cmpLs_zero (cmpI_zero d) (ok_inner hx) (ok_inner hy) h)
    · rename_i h0; exact absurd h h0
theorem cmpLs_self {f : S46 → S46 → Int} (hf : ∀ x, f x x = 0) : ∀ a, cmpLs f a a = 0
  | [] => by simp [cmpLs]
  | x :: a => by rw [cmpLs, if_pos (hf x), cmpLs_self hf a]
theorem cmpI_self (d : Nat) (x : S46) : cmpI d x x = 0 := by have := cmpI_neg d x x; omega
theorem lists_zero (d : Nat) {a b : List S46} (ha : ∀ x, x ∈ a → Ok46 d x) (hb : ∀ x, x ∈ b → Ok46 d x) : cmpLs (cmpI d) a b = 0 ↔ a = b :=
  ⟨cmpLs_zero (cmpI_zero d) ha hb, fun h => h ▸ cmpLs_self (cmpI_self d) a⟩
theorem thenC_zero {c z : Int} (h : thenC c z = 0) : c = 0 ∧ z = 0 := by
  unfold thenC at h
  split at h
  · exact ⟨by assumption, h⟩
  · rename_i h0; exact absurd h h0
/-- A list whose text begins another's text begins that list. -/
theorem pre_of (d : Nat) : ∀ (a b : List S46) (r : List UInt8), (∀ x, x ∈ a → Ok46 d x) → (∀ x, x ∈ b → Ok46 d x) → encL d a ++ r = encL d b → ∃ c, b = a ++ c ∧ r = encL d c
  | [], b, r, _, _, h => ⟨b, rfl, h⟩
  | x :: a, [], r, ha, _, h => by
    obtain ⟨k, q, e, hk⟩ := enc_head (ha x (by simp))
    have e2 : encL d (x :: a) = encI d x ++ encL d a := rfl
    rw [e2, e] at h
    cases h
  | x :: a, y :: b, r, ha, hb, h => by
    have e1 : encL d (x :: a) = encI d x ++ encL d a := rfl
    have e2 : encL d (y :: b) = encI d y ++ encL d b := rfl
    rw [e1, e2, List.append_assoc] at h
    have hz := item_cmp d x y (ha x (by simp)) (hb y (by simp)) (encL d a ++ r) (encL d b)
    rw [h, cb_self] at hz
    obtain ⟨h1, h2⟩ := thenC_zero hz.symm
    have hxy := cmpI_zero d x y (ha x (by simp)) (hb y (by simp)) h1
    obtain ⟨c, h3, h4⟩ := pre_of d a b r (fun z hz => ha z (by simp [hz])) (fun z hz => hb z (by simp [hz])) (cb_zero h2)
    exact ⟨c, by rw [hxy, h3]; rfl, h4⟩
theorem encL_app (d : Nat) (a b : List S46) : encL d (a ++ b) = encL d a ++ encL d b := by simp [encL]
theorem be_len : ∀ k u, (be k u).length = k
  | 0, _ => rfl
  | k + 1, u => by rw [be, List.length_cons, be_len k u]
theorem enc_len_in {d : Nat} {f : S46 → List UInt8} {N : Nat} : ∀ {l : List S46}, (∀ y, y ∈ l → (f y).length ≤ N) → (l.flatMap f).length ≤ N * l.length
  | [], _ => by simp
  | x :: l, h => by
    have := enc_len_in (d := d) (N := N) (f := f) (l := l) (fun y hy => h y (by simp [hy]))
    have h1 := h x (by simp)
    rw [List.flatMap_cons, List.length_append, List.length_cons, Nat.mul_succ]
    omega
/-- How long an item's text is at most. -/
def most : Nat → Nat
  | 0 => 131100
  | d + 1 => 16 * most d + 131100
theorem enc_most : ∀ (d : Nat) (x : S46), Ok46 d x → (encI d x).length ≤ most d := by
  have key : ∀ (d : Nat) (L : List UInt8) (N : Nat) (x : S46), Ok46 d x → L.length ≤ N → 131100 ≤ N + 131100 → (UInt8.ofNat x.f0.toNat :: restB L x).length ≤ N + 131100 := by
    intro d L N x hx hL _
    cases hx with
    | null => simp [restB]
    | flag _ n h => simp [restB]
    | num _ n h => have := be_len 8 (n + 9223372036854775808).toNat; simp [restB, numB]; omega
    | text _ t h =>
      have h1 := esc_len t.data.toList
      have h2 : t.data.toList.count 0 ≤ t.data.toList.length := List.count_le_length
      rw [slen] at h1 h2
      simp [restB]
      omega
    | list _ l hl h => simp [restB]; omega
  intro d
  induction d with
  | zero => intro x hx; exact Nat.le_trans (key 0 [] 0 x hx (Nat.le_refl _) (by omega)) (by decide)
  | succ d ih =>
    intro x hx
    refine key (d + 1) _ (16 * most d) x hx ?_ (by omega)
    have h1 := enc_len_in (d := d) (fun y hy => ih y (ok_inner hx y hy))
    refine Nat.le_trans h1 ?_
    rw [Nat.mul_comm]
    exact Nat.mul_le_mul_right _ (by cases hx with | list _ l hl h => exact hl | _ => simp)
end Go.Proofs.YthlolfncdjaniaaDoor.Tu
