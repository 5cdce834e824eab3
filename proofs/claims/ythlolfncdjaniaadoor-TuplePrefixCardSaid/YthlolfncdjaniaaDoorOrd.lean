/- Items that may be, their texts, and how these stand to one another: plain law. -/
import Derived.Test.YthlolfncdjaniaaDoorRepl
namespace Go.Proofs.YthlolfncdjaniaaDoor.Tu
open Go Go.RowKit Go.Proofs.YthlolfncdjaniaaDoor.PTuplePrefix Go.Proofs.YthlolfncdjaniaaDoorW.PrintWords
set_option linter.unusedVariables false
set_option linter.unusedSimpArgs false
/-- An item that may be; d: how many more lists may lie within. -/
inductive Ok46 : Nat → S46 → Prop
  | null (d : Nat) : Ok46 d ⟨1, 0, ⟨#[]⟩, []⟩
  | flag (d : Nat) (n : Int) (h : n = 0 ∨ n = 1) : Ok46 d ⟨2, n, ⟨#[]⟩, []⟩
  | num (d : Nat) (n : Int) (h : -9223372036854775808 ≤ n ∧ n ≤ 9223372036854775807) : Ok46 d ⟨3, n, ⟨#[]⟩, []⟩
  | text (d : Nat) (t : ByteArray) (h : t.size ≤ 65536) : Ok46 d ⟨4, 0, t, []⟩
  | list (d : Nat) (l : List S46) (hl : l.length ≤ 16) (h : ∀ y, y ∈ l → Ok46 d y) : Ok46 (d + 1) ⟨5, 0, ⟨#[]⟩, l⟩
def be : Nat → Nat → List UInt8
  | 0, _ => []
  | k + 1, u => UInt8.ofNat (u / 256 ^ k % 256) :: be k u
def numB (n : Int) : List UInt8 := be 8 (n + 9223372036854775808).toNat
/-- What stands behind an item's kind; L: the texts of the items within. -/
def restB (L : List UInt8) (x : S46) : List UInt8 :=
  if x.f0 = 2 then [UInt8.ofNat x.f1.toNat] else if x.f0 = 3 then numB x.f1 else if x.f0 = 4 then esc x.f2.data.toList ++ [0, 0] else if x.f0 = 5 then L ++ [0] else []
def encI : Nat → S46 → List UInt8
  | 0, x => UInt8.ofNat x.f0.toNat :: restB [] x
  | d + 1, x => UInt8.ofNat x.f0.toNat :: restB (x.f3.flatMap (encI d)) x
def encL (d : Nat) (l : List S46) : List UInt8 := l.flatMap (encI d)
def sgn (a b : Int) : Int := if a < b then -1 else if b < a then 1 else 0
def cmpLs (f : S46 → S46 → Int) : List S46 → List S46 → Int
  | [], [] => 0
  | [], _ :: _ => -1
  | _ :: _, [] => 1
  | x :: a, y :: b => if f x y = 0 then cmpLs f a b else f x y
def headC (x y : S46) : Int := if sgn x.f0 y.f0 ≠ 0 then sgn x.f0 y.f0 else if sgn x.f1 y.f1 ≠ 0 then sgn x.f1 y.f1 else Lib.compareBytes x.f2.data.toList y.f2.data.toList
def cmpG (g : List S46 → List S46 → Int) (x y : S46) : Int := if headC x y = 0 then g x.f3 y.f3 else headC x y
def cmpI : Nat → S46 → S46 → Int
  | 0 => cmpG (fun _ _ => 0)
  | d + 1 => cmpG (cmpLs (cmpI d))
abbrev cb := Lib.compareBytes
theorem cb_cons (a b : UInt8) (s t : List UInt8) : cb (a :: s) (b :: t) = if a < b then -1 else if b < a then 1 else cb s t := rfl
theorem cb_same (a : UInt8) (s t : List UInt8) : cb (a :: s) (a :: t) = cb s t := by rw [cb_cons, if_neg (by simp), if_neg (by simp)]
theorem cb_pre : ∀ (p s t : List UInt8), cb (p ++ s) (p ++ t) = cb s t
  | [], s, t => rfl
  | c :: p, s, t => by rw [List.cons_append, List.cons_append, cb_same, cb_pre p]
theorem ult_ne {a b : UInt8} (h : a < b) : ¬ b < a := by rw [UInt8.lt_iff_toNat_lt] at *; omega
theorem ueq {a b : UInt8} (h : ¬ a < b) (h' : ¬ b < a) : a = b := by
  apply UInt8.toNat_inj.1
  rw [UInt8.lt_iff_toNat_lt] at *
  omega
theorem upos {a : UInt8} (h : ¬ a = 0) : (0 : UInt8) < a := by
  rw [UInt8.lt_iff_toNat_lt]
  have : ¬ a.toNat = (0 : UInt8).toNat := fun e => h (UInt8.toNat_inj.1 e)
  have : (0 : UInt8).toNat = 0 := rfl
  omega
theorem be_cmp : ∀ (k u v : Nat) (s t : List UInt8), cb (be k u ++ s) (be k v ++ t) = if u % 256 ^ k < v % 256 ^ k then -1 else if v % 256 ^ k < u % 256 ^ k then 1 else cb s t
  | 0, u, v, s, t => by rw [Nat.pow_zero, Nat.mod_one, Nat.mod_one]; rfl
  | k + 1, u, v, s, t => by
    have hp : 0 < 256 ^ k := Nat.pow_pos (by decide)
    have hu : u % 256 ^ (k + 1) = u % 256 ^ k + 256 ^ k * (u / 256 ^ k % 256) := by rw [Nat.pow_succ, Nat.mod_mul]
    have hv : v % 256 ^ (k + 1) = v % 256 ^ k + 256 ^ k * (v / 256 ^ k % 256) := by rw [Nat.pow_succ, Nat.mod_mul]
    have h1 := Nat.mod_lt u hp
    have h2 := Nat.mod_lt v hp
    rw [be, be, List.cons_append, List.cons_append, cb_cons, be_cmp k, hu, hv]
    have hlt : ∀ a b : Nat, a < 256 → b < 256 → (UInt8.ofNat a < UInt8.ofNat b ↔ a < b) := fun a b ha hb => by
      rw [UInt8.lt_iff_toNat_lt, UInt8.toNat_ofNat', UInt8.toNat_ofNat']; omega
    have ha : u / 256 ^ k % 256 < 256 := Nat.mod_lt _ (by decide)
    have hb : v / 256 ^ k % 256 < 256 := Nat.mod_lt _ (by decide)
    simp only [hlt _ _ ha hb, hlt _ _ hb ha]
    generalize u / 256 ^ k % 256 = x at *
    generalize v / 256 ^ k % 256 = y at *
    generalize 256 ^ k = p at *
    rcases Nat.lt_trichotomy x y with h | h | h
    · have : p * x + p ≤ p * y := by rw [← Nat.mul_succ]; exact Nat.mul_le_mul_left _ h
      rw [if_pos h, if_pos (by omega)]
    · subst h
      rw [if_neg (by omega), if_neg (by omega)]
      by_cases q1 : u % p < v % p
      · rw [if_pos q1, if_pos (by omega)]
      · rw [if_neg q1]
        by_cases q2 : v % p < u % p
        · rw [if_pos q2, if_neg (by omega), if_pos (by omega)]
        · rw [if_neg q2, if_neg (by omega), if_neg (by omega)]
    · have : p * y + p ≤ p * x := by rw [← Nat.mul_succ]; exact Nat.mul_le_mul_left _ h
      rw [if_neg (by omega), if_pos h, if_neg (by omega), if_pos (by omega)]
/-- c, and where it is 0, what is behind. -/
def thenC (c z : Int) : Int := if c = 0 then z else c
theorem num_cmp {n m : Int} (hn : -9223372036854775808 ≤ n ∧ n ≤ 9223372036854775807) (hm : -9223372036854775808 ≤ m ∧ m ≤ 9223372036854775807) (s t : List UInt8) : cb (numB n ++ s) (numB m ++ t) = thenC (sgn n m) (cb s t) := by
  unfold numB
  rw [be_cmp, Nat.mod_eq_of_lt (by omega), Nat.mod_eq_of_lt (by omega)]
  rcases Int.lt_trichotomy n m with h | h | h
  · rw [if_pos (by omega), show sgn n m = -1 from if_pos h]; rfl
  · subst h
    rw [if_neg (by omega), if_neg (by omega), show sgn n n = 0 by unfold sgn; rw [if_neg (by omega), if_neg (by omega)]]; rfl
  · rw [if_neg (by omega), if_pos (by omega), show sgn n m = 1 by unfold sgn; rw [if_neg (by omega), if_pos h]]; rfl
theorem esc_cons (c : UInt8) (l : List UInt8) : esc (c :: l) = escB c ++ esc l := rfl
theorem text_cmp : ∀ (a b s t : List UInt8), cb (esc a ++ 0 :: 0 :: s) (esc b ++ 0 :: 0 :: t) = thenC (cb a b) (cb s t)
  | [], [], s, t => by show cb (0 :: 0 :: s) (0 :: 0 :: t) = _; rw [cb_same, cb_same]; rfl
  | [], c :: b, s, t => by
    rw [esc_cons]
    show cb (0 :: 0 :: s) _ = -1
    unfold escB
    by_cases h : c = 0
    · rw [if_pos h]
      show cb (0 :: 0 :: s) (0 :: 255 :: _) = -1
      rw [cb_same, cb_cons, if_pos (by decide)]
    · rw [if_neg h]
      show cb (0 :: 0 :: s) (c :: _) = -1
      rw [cb_cons, if_pos (upos h)]
  | c :: a, [], s, t => by
    rw [esc_cons]
    show cb _ (0 :: 0 :: t) = 1
    unfold escB
    by_cases h : c = 0
    · rw [if_pos h]
      show cb (0 :: 255 :: _) (0 :: 0 :: t) = 1
      rw [cb_same, cb_cons, if_neg (by decide), if_pos (by decide)]
    · rw [if_neg h]
      show cb (c :: _) (0 :: 0 :: t) = 1
      rw [cb_cons, if_neg (ult_ne (upos h)), if_pos (upos h)]
  | c :: a, e :: b, s, t => by
    rw [esc_cons, esc_cons, cb_cons, List.append_assoc, List.append_assoc]
    by_cases h : c = e
    · subst h
      rw [cb_pre, text_cmp a b, if_neg (by simp), if_neg (by simp)]
    · by_cases hlt : c < e
      · rw [if_pos hlt]
        have he : ¬ e = 0 := fun h0 => by subst h0; rw [UInt8.lt_iff_toNat_lt] at hlt; exact absurd hlt (by simp)
        unfold escB
        rw [if_neg he]
        by_cases hc : c = 0
        · subst hc
          rw [if_pos rfl]
          show cb (0 :: _) (e :: _) = -1
          rw [cb_cons, if_pos hlt]
        · rw [if_neg hc]
          show cb (c :: _) (e :: _) = -1
          rw [cb_cons, if_pos hlt]
      · have hgt : e < c := Decidable.byContradiction fun h' => h (ueq hlt h')
        rw [if_neg hlt, if_pos hgt]
        have hc : ¬ c = 0 := fun h0 => by subst h0; rw [UInt8.lt_iff_toNat_lt] at hgt; exact absurd hgt (by simp)
        unfold escB
        rw [if_neg hc]
        by_cases he : e = 0
        · subst he
          rw [if_pos rfl]
          show cb (c :: _) (0 :: _) = 1
          rw [cb_cons, if_neg hlt, if_pos hgt]
        · rw [if_neg he]
          show cb (c :: _) (e :: _) = 1
          rw [cb_cons, if_neg hlt, if_pos hgt]
theorem enc_head {d : Nat} {x : S46} (h : Ok46 d x) : ∃ k r, encI d x = k :: r ∧ (0 : UInt8) < k := by
  cases d <;> cases h <;> exact ⟨_, _, rfl, by dsimp only; decide⟩
/-- Lists of items, whatever stands behind them. -/
theorem list_cmp {d : Nat} {f : S46 → S46 → Int} (hf : ∀ x y, Ok46 d x → Ok46 d y → ∀ s t, cb (encI d x ++ s) (encI d y ++ t) = thenC (f x y) (cb s t)) :
    ∀ (a b : List S46), (∀ x, x ∈ a → Ok46 d x) → (∀ x, x ∈ b → Ok46 d x) → (∀ s t, cb (encL d a ++ 0 :: s) (encL d b ++ 0 :: t) = thenC (cmpLs f a b) (cb s t)) ∧ cb (encL d a) (encL d b) = cmpLs f a b
  | [], [], _, _ => ⟨fun s t => by show cb (0 :: s) (0 :: t) = _; rw [cb_same, cmpLs]; rfl, by rw [cmpLs]; rfl⟩
  | [], y :: b, _, hb => by
    obtain ⟨k, r, e, hk⟩ := enc_head (hb y (by simp))
    have e2 : encL d (y :: b) = k :: (r ++ encL d b) := by show encI d y ++ encL d b = _; rw [e]; rfl
    rw [e2]
    exact ⟨fun s t => by rw [cmpLs]; show cb (0 :: s) (k :: _) = -1; rw [cb_cons, if_pos hk], by rw [cmpLs]; rfl⟩
  | x :: a, [], ha, _ => by
    obtain ⟨k, r, e, hk⟩ := enc_head (ha x (by simp))
    have e2 : encL d (x :: a) = k :: (r ++ encL d a) := by show encI d x ++ encL d a = _; rw [e]; rfl
    rw [e2]
    exact ⟨fun s t => by rw [cmpLs]; show cb (k :: _) (0 :: t) = 1; rw [cb_cons, if_neg (ult_ne hk), if_pos hk], by rw [cmpLs]; rfl⟩
  | x :: a, y :: b, ha, hb => by
    have e1 : encL d (x :: a) = encI d x ++ encL d a := rfl
    have e2 : encL d (y :: b) = encI d y ++ encL d b := rfl
    obtain ⟨h1, h2⟩ := list_cmp hf a b (fun z hz => ha z (by simp [hz])) (fun z hz => hb z (by simp [hz]))
    have hxy := hf x y (ha x (by simp)) (hb y (by simp))
    rw [e1, e2]
    refine ⟨fun s t => ?_, ?_⟩
    · rw [List.append_assoc, List.append_assoc, hxy, h1]
      unfold thenC
      rw [cmpLs]
      by_cases hc : f x y = 0
      · rw [if_pos hc, if_pos hc]
      · rw [if_neg hc, if_neg hc, if_neg hc]
    · rw [hxy, h2, cmpLs]
      rfl
theorem sgn_self (n : Int) : sgn n n = 0 := by simp [sgn]
theorem cb_self : ∀ l, cb l l = 0
  | [] => rfl
  | c :: l => by rw [cb_same, cb_self l]
theorem item_key (d : Nat) (L M : List UInt8) (g : List S46 → List S46 → Int) (x y : S46) (s t : List UInt8) (hx : Ok46 d x) (hy : Ok46 d y) (hg : g [] [] = 0) (hl : x.f0 = 5 → y.f0 = 5 → cb (L ++ 0 :: s) (M ++ 0 :: t) = thenC (g x.f3 y.f3) (cb s t)) :
      cb ((UInt8.ofNat x.f0.toNat :: restB L x) ++ s) ((UInt8.ofNat y.f0.toNat :: restB M y) ++ t) = thenC (cmpG g x y) (cb s t) := by
  cases hx with
  | null =>
    cases hy with
    | null => simp [restB, cmpG, headC, sgn, thenC, hg, cb, Lib.compareBytes]
    | _ => simp [restB, cmpG, headC, sgn, thenC, cb, Lib.compareBytes]
  | flag _ n hn =>
    cases hy with
    | flag _ m hm =>
      rcases hn with rfl | rfl <;> rcases hm with rfl | rfl <;> simp [restB, cmpG, headC, sgn, thenC, hg, cb, Lib.compareBytes]
    | _ => simp [restB, cmpG, headC, sgn, thenC, cb, Lib.compareBytes]
  | num _ n hn =>
    cases hy with
    | num _ m hm =>
      have := num_cmp hn hm s t
      show cb (3 :: (numB n ++ s)) (3 :: (numB m ++ t)) = _
      rw [cb_same, this]
      unfold thenC cmpG headC
      simp only [sgn_self, ne_eq, not_true_eq_false, if_false, hg]
      by_cases h : sgn n m = 0
      · simp [h, Lib.compareBytes]
      · simp [h]
    | _ => simp [restB, cmpG, headC, sgn, thenC, cb, Lib.compareBytes]
  | text _ u hu =>
    cases hy with
    | text _ v hv =>
      have := text_cmp u.data.toList v.data.toList s t
      show cb (4 :: ((esc u.data.toList ++ [0, 0]) ++ s)) (4 :: ((esc v.data.toList ++ [0, 0]) ++ t)) = _
      rw [cb_same, List.append_assoc, List.append_assoc]
      show cb (esc u.data.toList ++ 0 :: 0 :: s) (esc v.data.toList ++ 0 :: 0 :: t) = _
      rw [this]
      unfold thenC cmpG headC
      simp only [sgn_self, ne_eq, not_true_eq_false, if_false, hg]
      by_cases h : cb u.data.toList v.data.toList = 0
      · simp [h]
      · simp [h]
    | _ => simp [restB, cmpG, headC, sgn, thenC, cb, Lib.compareBytes]
  | list d' l hll hok =>
    cases hy with
    | list _ m hml hmk =>
      have := hl rfl rfl
      show cb (5 :: ((L ++ [0]) ++ s)) (5 :: ((M ++ [0]) ++ t)) = _
      rw [cb_same, List.append_assoc, List.append_assoc]
      show cb (L ++ 0 :: s) (M ++ 0 :: t) = _
      rw [this]
      unfold thenC cmpG headC
      simp [sgn_self, Lib.compareBytes]
    | _ => simp [restB, cmpG, headC, sgn, thenC, cb, Lib.compareBytes]
theorem item_cmp : ∀ (d : Nat) (x y : S46), Ok46 d x → Ok46 d y → ∀ s t, cb (encI d x ++ s) (encI d y ++ t) = thenC (cmpI d x y) (cb s t)
  | 0, x, y, hx, hy, s, t => item_key 0 [] [] (fun _ _ => 0) x y s t hx hy rfl (fun h _ => by cases hx <;> simp at h)
  | d + 1, x, y, hx, hy, s, t => item_key (d + 1) _ _ (cmpLs (cmpI d)) x y s t hx hy (by rw [cmpLs]) (fun h h' => by
    cases hx with
    | list _ l hl hok =>
      cases hy with
      | list _ m hm hmk => exact (list_cmp (fun u v hu hv => item_cmp d u v hu hv) l m hok hmk).1 s t
      | _ => simp at h'
    | _ => simp at h)
/-- Lists stand as their texts do. -/
theorem lists_cmp (d : Nat) (a b : List S46) (ha : ∀ x, x ∈ a → Ok46 d x) (hb : ∀ x, x ∈ b → Ok46 d x) : cb (encL d a) (encL d b) = cmpLs (cmpI d) a b := (list_cmp (item_cmp d) a b ha hb).2
end Go.Proofs.YthlolfncdjaniaaDoor.Tu
