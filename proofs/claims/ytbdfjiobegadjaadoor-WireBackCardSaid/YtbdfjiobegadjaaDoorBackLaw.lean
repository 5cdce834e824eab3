/- An answer's bytes are read as that answer; of a beginning it is said that something is missing. Plain law. -/
import Derived.Test.YtbdfjiobegadjaaDoorEnc
import Derived.Test.YtbdfjiobegadjaaDoorDeepLaw
namespace Go.Proofs.YtbdfjiobegadjaaDoor.Wr
open Go Go.RowKit Go.Proofs.YtbdfjiobegadjaaDoor.Tk Go.Proofs.YtbdfjiobegadjaaDoor.PWireMemory Go.Proofs.YtbdfjiobegadjaaDoorW.PrintWords Go.Proofs.YtbdfjiobegadjaaDoorW.PrintLast Go.Proofs.YtbdfjiobegadjaaDoorW.PrintMore
set_option linter.unusedVariables false
set_option linter.unusedSectionVars false
set_option linter.unusedSimpArgs false
/-- As far as s goes, e stands in it from i on. -/
def Agr (s : ByteArray) (i : Nat) (e : List UInt8) : Prop := ∀ (k : Nat) (h : i + k < s.size) (hk : k < e.length), s[i + k] = e[k]
/-- Where e stands whole, x is read off it; where s ends within, it is said that something is missing. -/
def Reads {α : Type} (r : Res α) (s : ByteArray) (i : Nat) (e : List UInt8) (x : α) : Prop := (i + e.length ≤ s.size → r = .ok x (i + e.length)) ∧ (s.size < i + e.length → r = .no 3)
theorem Agr.tail {s : ByteArray} {i : Nat} {c : UInt8} {e : List UInt8} (h : Agr s i (c :: e)) : Agr s (i + 1) e := fun k hk hl => by
  have := h (k + 1) (by omega) (by simp; omega)
  rw [List.getElem_cons_succ] at this
  rw [← this]
  congr 1
  omega
theorem Agr.head {s : ByteArray} {i : Nat} {c : UInt8} {e : List UInt8} (h : Agr s i (c :: e)) (hi : i < s.size) : s[i] = c := h 0 hi (by simp)
theorem Agr.left {s : ByteArray} {i : Nat} {a b : List UInt8} (h : Agr s i (a ++ b)) : Agr s i a := fun k hk hl => by
  rw [h k hk (by simp; omega), List.getElem_append_left hl]
theorem Agr.right {s : ByteArray} {i : Nat} {a b : List UInt8} (h : Agr s i (a ++ b)) : Agr s (i + a.length) b := fun k hk hl => by
  have := h (a.length + k) (by omega) (by simp; omega)
  rw [List.getElem_append_right (by omega)] at this
  simp only [Nat.add_sub_cancel_left] at this
  rw [← this]
  congr 1
  omega
theorem expect_reads {s : ByteArray} : ∀ {l : List UInt8} {i : Nat}, i ≤ s.size → Agr s i l → Reads (expect s l i) s i l ()
  | [], i, hi, h => ⟨fun _ => rfl, fun h' => by simp at h'; omega⟩
  | c :: l, i, _, h => by
    by_cases hi : i < s.size
    · have ih := expect_reads (show i + 1 ≤ s.size by omega) h.tail
      have hc := h.head hi
      rw [expect, dif_pos hi, if_pos hc]
      refine ⟨fun hl => ?_, fun hl => ?_⟩
      · rw [ih.1 (by simp at hl; omega)]
        simp only [List.length_cons, Res.ok.injEq, true_and]
        omega
      · exact ih.2 (by simp at hl; omega)
    · rw [expect, dif_neg hi]
      exact ⟨fun hl => by simp at hl; omega, fun _ => rfl⟩
theorem Reads.as {α β : Type} {r : Res α} {s : ByteArray} {i : Nat} {e : List UInt8} {x : α} (h : Reads r s i e x) (y : β) : Reads (r.as y) s i e y :=
  ⟨fun hl => by rw [h.1 hl]; rfl, fun hl => by rw [h.2 hl]; rfl⟩
theorem Reads.map {α β : Type} {r : Res α} {s : ByteArray} {i : Nat} {e : List UInt8} {x : α} (h : Reads r s i e x) (f : α → β) : Reads (r.map f) s i e (f x) :=
  ⟨fun hl => by rw [h.1 hl]; rfl, fun hl => by rw [h.2 hl]; rfl⟩
/-- One byte ahead. -/
theorem Reads.ahead {α : Type} {r : Res α} {s : ByteArray} {i : Nat} {e : List UInt8} {x : α} (c : UInt8) (hi : i < s.size) (h : Reads r s (i + 1) e x) : Reads r s i (c :: e) x :=
  ⟨fun hl => by rw [h.1 (by simp at hl; omega)]; simp only [List.length_cons, Res.ok.injEq, true_and]; omega, fun hl => h.2 (by simp at hl; omega)⟩
theorem Reads.end_ {α : Type} {s : ByteArray} {i : Nat} {e : List UInt8} {x : α} (hi : s.size ≤ i) (he : e ≠ []) : Reads (.no 3) s i e x :=
  ⟨fun hl => by cases e with | nil => exact absurd rfl he | cons c e => simp at hl; omega, fun _ => rfl⟩
/-- A numeral's digits, and what they come to. -/
def valD : Nat → List Nat → Nat
  | n, [] => n
  | n, d :: l => valD (10 * n + d) l
theorem valD_snoc (n d : Nat) : ∀ l, valD n (l ++ [d]) = 10 * valD n l + d
  | [] => rfl
  | c :: l => valD_snoc (10 * n + c) d l
theorem valD_ge : ∀ (l : List Nat) (n : Nat), n ≤ valD n l
  | [], n => Nat.le_refl _
  | d :: l, n => Nat.le_trans (by omega) (valD_ge l (10 * n + d))
theorem dec_list : ∀ a : Nat, ∃ l : List Nat, Lib.decDigits a = l.map (fun d => UInt8.ofNat (48 + d)) ∧ valD 0 l = a ∧ l ≠ [] ∧ (∀ d ∈ l, d < 10) ∧ (1 ≤ a → ∀ d r, l = d :: r → 1 ≤ d) ∧ (a = 0 → l = [0]) := by
  intro a
  induction a using Nat.strongRecOn with
  | _ a ih =>
    by_cases h : a < 10
    · exact ⟨[a], by rw [Lib.decDigits_one h]; rfl, by simp [valD], by simp, by simpa using h, fun h1 d r e => by simp at e; omega, fun h0 => by rw [h0]⟩
    · obtain ⟨l, h1, h2, h3, h4, h5, _⟩ := ih (a / 10) (by omega)
      refine ⟨l ++ [a % 10], ?_, ?_, by simp, fun d hd => ?_, fun _ d r e => ?_, fun h0 => by omega⟩
      · rw [Lib.decDigits, dif_neg h, h1]; simp
      · rw [valD_snoc, h2]; omega
      · rcases List.mem_append.1 hd with hd | hd
        · exact h4 d hd
        · simp at hd; omega
      · cases l with
        | nil => exact absurd rfl h3
        | cons c l =>
          simp at e
          exact h5 (by omega) d l (by rw [e.1])
theorem byte_dig (d : Nat) (h : d < 10) : ((UInt8.ofNat (48 + d)).toNat : Int) = 48 + (d : Int) := by
  rw [UInt8.toNat_ofNat']
  omega
theorem digs_reads {s : ByteArray} {most : Nat} (h9 : 9 ≤ most) : ∀ (l : List Nat) (f n : Nat) (first : Bool) (i : Nat), i + f = s.size → (∀ d ∈ l, d < 10) → (first = true → n = 0 ∧ l ≠ []) → (first = false → 1 ≤ n ∨ l = []) →
    (∀ d r, l = d :: r → first = true → 1 ≤ d ∨ r = []) → valD n l ≤ most → Agr s i (l.map (fun d => UInt8.ofNat (48 + d)) ++ [13, 10]) → Reads (digs s most f n first i) s i (l.map (fun d => UInt8.ofNat (48 + d)) ++ [13, 10]) (valD n l)
  | l, 0, n, first, i, hf, hd, h1, h2, h3, hv, hA => by
    rw [digs]
    exact Reads.end_ (by omega) (by simp)
  | [], f + 1, n, first, i, hf, hd, h1, h2, h3, hv, hA => by
    have hi : i < s.size := by omega
    have hff : first = false := by
      cases first with
      | false => rfl
      | true => exact absurd rfl (h1 rfl).2
    have hc := hA.head hi
    rw [digs, bt_nat s i hi, hc, if_pos ⟨rfl, hff⟩]
    exact ((expect_reads (by omega) hA.tail).as n).ahead 13 hi
  | d :: l, f + 1, n, first, i, hf, hd, h1, h2, h3, hv, hA => by
    have hi : i < s.size := by omega
    have hd0 := hd d (by simp)
    have hc := hA.head hi
    have hb := byte_dig d hd0
    rw [digs, bt_nat s i hi, hc, hb, if_neg (by omega)]
    have hve : 10 * n + d ≤ most := Nat.le_trans (valD_ge l (10 * n + d)) hv
    rw [show (48 + (d : Int)).toNat - 48 = d by omega, if_neg]
    · refine Reads.ahead _ hi (digs_reads h9 l f (10 * n + d) false (i + 1) (by omega) (fun e he => hd e (by simp [he])) (fun e => by cases e) (fun _ => ?_) (fun _ _ _ e => by cases e) hv hA.tail)
      cases first with
      | true =>
        rcases h3 d l rfl rfl with h | h
        · exact .inl (by omega)
        · exact .inr h
      | false =>
        rcases h2 rfl with h | h
        · exact .inl (by omega)
        · cases h
    · rintro (h | h | ⟨h, hn⟩ | h)
      · omega
      · omega
      · rcases h2 h with h' | h'
        · omega
        · cases h'
      · omega
theorem dec_reads {s : ByteArray} {most : Nat} (h9 : 9 ≤ most) (a i : Nat) (ha : a ≤ most) (hi : i ≤ s.size) (hA : Agr s i (Lib.decDigits a ++ [13, 10])) : Reads (digs s most (s.size - i) 0 true i) s i (Lib.decDigits a ++ [13, 10]) a := by
  obtain ⟨l, h1, h2, h3, h4, h5, h6⟩ := dec_list a
  rw [h1] at hA ⊢
  have := digs_reads h9 l (s.size - i) 0 true i (by omega) h4 (fun _ => ⟨rfl, h3⟩) (fun e => by cases e) (fun d r e _ => ?_) (by omega) hA
  · rw [h2] at this
    exact this
  · by_cases h0 : a = 0
    · have := h6 h0
      rw [this] at e
      simp at e
      exact .inr (by simp [e.2])
    · exact .inl (h5 (by omega) d r e)
theorem lin_reads {s : ByteArray} : ∀ (l : List UInt8) (f m i : Nat), i + f = s.size → (∀ c ∈ l, 32 ≤ c.toNat ∧ c.toNat ≠ 127) → m + l.length ≤ 4096 → Agr s i (l ++ [13, 10]) → Reads (lin s f m i) s i (l ++ [13, 10]) (i + l.length)
  | l, 0, m, i, hf, hc, hm, hA => by
    rw [lin]
    exact Reads.end_ (by omega) (by simp)
  | [], f + 1, m, i, hf, hc, hm, hA => by
    have hi : i < s.size := by omega
    rw [lin, bt_nat s i hi, hA.head hi, if_pos (show ((13 : UInt8).toNat : Int) = 13 by decide)]
    exact ((expect_reads (by omega) hA.tail).as i).ahead 13 hi
  | c :: l, f + 1, m, i, hf, hc, hm, hA => by
    have hi : i < s.size := by omega
    have h0 := hc c (by simp)
    rw [lin, bt_nat s i hi, hA.head hi, if_neg (by omega), if_neg (by simp at hm; omega)]
    have := (lin_reads l f (m + 1) (i + 1) (by omega) (fun d hd => hc d (by simp [hd])) (by simp at hm; omega) hA.tail).ahead c hi
    rw [show i + 1 + l.length = i + (c :: l).length by simp; omega] at this
    exact this
theorem line_reads {s : ByteArray} (t : ByteArray) (ht : lineOk t) (i : Nat) (hi : i ≤ s.size) (hA : Agr s i (t.data.toList ++ [13, 10])) : Reads (lin s (s.size - i) 0 i) s i (t.data.toList ++ [13, 10]) (i + t.size) := by
  have hs : t.data.toList.length = t.size := by simp
  have := lin_reads t.data.toList (s.size - i) 0 i (by omega) (fun c hc => ?_) (by have := ht.1; omega) hA
  · rw [hs] at this
    exact this
  · obtain ⟨k, hk, rfl⟩ := List.mem_iff_getElem.1 hc
    exact ht.2 k (by omega)
theorem agr_extract {s : ByteArray} {i : Nat} {t : ByteArray} {e : List UInt8} (hA : Agr s i (t.data.toList ++ e)) (hl : i + t.size ≤ s.size) : s.extract i (i + t.size) = t := by
  apply ByteArray.ext
  apply Array.ext
  · simp; omega
  · intro k h1 h2
    have hk : k < t.size := by simpa using h2
    have hsz : t.data.toList.length = t.size := by simp
    have := hA.left k (by omega) (by omega)
    simp only [ByteArray.data_extract, Array.getElem_extract]
    rw [Array.getElem_toList] at this
    exact this
theorem numS_reads {s : ByteArray} (v : Int) (h0 : -9223372036854775808 ≤ v) (h1 : v ≤ 9223372036854775807) (i : Nat) (hi : i ≤ s.size) (hA : Agr s i (Lib.itoa v ++ [13, 10])) : Reads (numS s i) s i (Lib.itoa v ++ [13, 10]) v := by
  unfold numS
  by_cases hs : s.size ≤ i
  · rw [if_pos hs]
    exact Reads.end_ hs (by simp)
  · rw [if_neg hs]
    have hlt : i < s.size := by omega
    by_cases hn : v < 0
    · obtain ⟨u, rfl⟩ : ∃ u : Nat, v = -(u : Int) := ⟨v.natAbs, by omega⟩
      rw [Lib.itoa_neg u (by omega), List.cons_append] at hA ⊢
      have hc := hA.head hlt
      rw [bt_nat s i hlt, hc, if_neg (by simp)]
      refine Reads.ahead 45 hlt ?_
      by_cases hs2 : s.size ≤ i + 1
      · rw [if_pos hs2]
        exact Reads.end_ hs2 (by simp)
      · rw [if_neg hs2]
        have hd := dec_reads (s := s) (most := maxU) (by decide) u (i + 1) (by unfold maxU; omega) (by omega) hA.tail
        rw [if_neg]
        · exact hd.map _
        · intro h48
          rw [bt_nat s (i + 1) (by omega)] at h48
          obtain ⟨l, e1, e2, e3, e4, e5, e6⟩ := dec_list u
          cases l with
          | nil => exact e3 rfl
          | cons d r =>
            have h1d := e5 (by omega) d r rfl
            have hA2 := hA.tail
            rw [e1, List.map_cons, List.cons_append] at hA2
            have := hA2.head (by omega)
            rw [this, byte_dig d (e4 d (by simp))] at h48
            omega
    · obtain ⟨u, rfl⟩ : ∃ u : Nat, v = (u : Int) := ⟨v.toNat, by omega⟩
      rw [Lib.itoa_nonneg] at hA ⊢
      have hd := dec_reads (s := s) (most := maxI) (by decide) u i (by unfold maxI; omega) hi hA
      rw [if_pos]
      · exact hd.map _
      · intro h45
        rw [bt_nat s i hlt] at h45
        obtain ⟨l, e1, e2, e3, e4, e5, e6⟩ := dec_list u
        cases l with
        | nil => exact e3 rfl
        | cons d r =>
          rw [e1, List.map_cons, List.cons_append] at hA
          rw [hA.head hlt, byte_dig d (e4 d (by simp))] at h45
          omega
theorem Reads.two {α β : Type} {r : Res α} {q : Res β} {s : ByteArray} {i : Nat} {a b : List UInt8} {x : α} {y : β} (h : Reads r s i a x) (h1 : s.size < i + a.length → q = .no 3) (h2 : i + a.length ≤ s.size → Reads q s (i + a.length) b y) : Reads q s i (a ++ b) y := by
  by_cases hl : i + a.length ≤ s.size
  · have g := h2 hl
    refine ⟨fun h => ?_, fun h => ?_⟩
    · rw [g.1 (by simp at h; omega)]; simp; omega
    · exact g.2 (by simp at h; omega)
  · refine ⟨fun h => ?_, fun _ => h1 (by omega)⟩
    simp at h; omega
theorem bulk_reads {s : ByteArray} (t : ByteArray) (ht : t.size ≤ 65536) (i : Nat) (hi : i ≤ s.size) (hA : Agr s i ((Lib.decDigits t.size ++ [13, 10]) ++ (t.data.toList ++ [13, 10]))) :
    Reads (bulkS s i) s i ((Lib.decDigits t.size ++ [13, 10]) ++ (t.data.toList ++ [13, 10])) ⟨4, 0, t, []⟩ := by
  unfold bulkS
  by_cases hs : s.size ≤ i
  · rw [if_pos hs]
    exact Reads.end_ hs (by simp)
  · rw [if_neg hs]
    have hlt : i < s.size := by omega
    have hd := dec_reads (s := s) (most := 65536) (by decide) t.size i ht hi hA.left
    have h45 : ¬ bt s i = 45 := by
      intro h45
      rw [bt_nat s i hlt] at h45
      obtain ⟨l, e1, e2, e3, e4, e5, e6⟩ := dec_list t.size
      cases l with
      | nil => exact e3 rfl
      | cons d r =>
        have hA2 := hA.left
        rw [e1, List.map_cons, List.cons_append] at hA2
        rw [hA2.head hlt, byte_dig d (e4 d (by simp))] at h45
        omega
    rw [if_neg h45]
    refine hd.two (fun h => by rw [hd.2 h]) (fun h => ?_)
    rw [hd.1 h]
    simp only []
    have hsz : t.data.toList.length = t.size := by simp
    generalize hj : i + (Lib.decDigits t.size ++ [13, 10]).length = j at h
    have hA2 := hA.right
    rw [hj] at hA2
    by_cases hn : s.size - j < t.size
    · rw [if_pos hn]
      exact ⟨fun h => by simp at h; omega, fun _ => rfl⟩
    · rw [if_neg hn, agr_extract hA2 (by omega)]
      have hA3 := hA2.right
      rw [hsz] at hA3
      have := (expect_reads (show j + t.size ≤ s.size by omega) hA3).as (⟨4, 0, t, []⟩ : S24)
      refine ⟨fun h => ?_, fun h => ?_⟩
      · rw [this.1 (by simp at h; simp; omega)]; simp; omega
      · exact this.2 (by simp at h; simp; omega)
theorem bnone_reads {s : ByteArray} (i : Nat) (hi : i ≤ s.size) (hA : Agr s i [45, 49, 13, 10]) : Reads (bulkS s i) s i [45, 49, 13, 10] ⟨5, 0, ⟨#[]⟩, []⟩ := by
  unfold bulkS
  by_cases hs : s.size ≤ i
  · rw [if_pos hs]
    exact Reads.end_ hs (by simp)
  · rw [if_neg hs]
    have hlt : i < s.size := by omega
    rw [bt_nat s i hlt, hA.head hlt, if_pos (show ((45 : UInt8).toNat : Int) = 45 by decide)]
    exact ((expect_reads (by omega) hA.tail).as _).ahead 45 hlt
theorem items_reads {s : ByteArray} {f : Nat → Res S24} {enc : S24 → List UInt8} {ok : S24 → Prop} (hf : ∀ x i, ok x → i ≤ s.size → Agr s i (enc x) → Reads (f i) s i (enc x) x) :
    ∀ (l : List S24) (i : Nat), (∀ y ∈ l, ok y) → i ≤ s.size → Agr s i (l.flatMap enc) → Reads (itemsS f l.length i) s i (l.flatMap enc) l
  | [], i, _, hi, _ => ⟨fun _ => rfl, fun h => by simp at h; omega⟩
  | x :: l, i, ho, hi, hA => by
    rw [List.flatMap_cons] at hA ⊢
    have hx := hf x i (ho x (by simp)) hi hA.left
    rw [List.length_cons, itemsS]
    refine hx.two (fun h => by rw [hx.2 h]) (fun h => ?_)
    rw [hx.1 h]
    exact (items_reads hf l _ (fun y hy => ho y (by simp [hy])) h hA.right).map (fun l => x :: l)
theorem list_reads {s : ByteArray} {f : Nat → Res S24} {enc : S24 → List UInt8} {ok : S24 → Prop} (hf : ∀ x i, ok x → i ≤ s.size → Agr s i (enc x) → Reads (f i) s i (enc x) x) (l : List S24) (hl : l.length ≤ 2000) (ho : ∀ y ∈ l, ok y)
    (i : Nat) (hi : i ≤ s.size) (hA : Agr s i ((Lib.decDigits l.length ++ [13, 10]) ++ l.flatMap enc)) : Reads (listS s f i) s i ((Lib.decDigits l.length ++ [13, 10]) ++ l.flatMap enc) ⟨6, 0, ⟨#[]⟩, l⟩ := by
  unfold listS
  by_cases hs : s.size ≤ i
  · rw [if_pos hs]
    exact Reads.end_ hs (by simp)
  · rw [if_neg hs]
    have hd := dec_reads (s := s) (most := 2000) (by decide) l.length i hl hi hA.left
    refine hd.two (fun h => by rw [hd.2 h]) (fun h => ?_)
    rw [hd.1 h]
    exact (items_reads hf l _ ho h hA.right).map (fun l => (⟨6, 0, ⟨#[]⟩, l⟩ : S24))
theorem leaf_reads {s : ByteArray} (f : Nat → Res S24) (x : S24) (hx : leafOk x) (i : Nat) (hi : i ≤ s.size) (hA : Agr s i (leafB x)) : Reads (headS s f i) s i (leafB x) x := by
  unfold headS
  by_cases hs : s.size ≤ i
  · rw [if_pos hs]
    refine Reads.end_ hs ?_
    unfold leafB bulkB
    split
    · simp
    · split
      · simp
      · split
        · simp
        · split <;> simp
  · rw [if_neg hs]
    have hlt : i < s.size := by omega
    rw [bt_nat s i hlt]
    obtain ⟨k, n, t, l⟩ := x
    rcases hx with ⟨h | h, h1, h2, h3⟩ | ⟨h, h1, h2, h3, h4⟩ | ⟨h, h1, h2, h3⟩ | ⟨h, h1, h2, h3⟩
    · simp only at h h1 h2 h3; subst h h1 h3
      rw [show leafB ⟨1, 0, t, []⟩ = 43 :: (t.data.toList ++ [13, 10]) from rfl] at hA ⊢
      rw [hA.head hlt, if_pos (by decide)]
      have hr := line_reads t h2 (i + 1) (by omega) hA.tail
      have := (hr.map fun a => (⟨1, 0, s.extract (i + 1) a, []⟩ : S24)).ahead 43 hlt
      refine ⟨fun h => ?_, this.2⟩
      have hsz : t.data.toList.length = t.size := by simp
      rw [this.1 h, agr_extract hA.tail (by simp at h; omega)]
    · simp only at h h1 h2 h3; subst h h1 h3
      rw [show leafB ⟨2, 0, t, []⟩ = 45 :: (t.data.toList ++ [13, 10]) from rfl] at hA ⊢
      rw [hA.head hlt, if_neg (by decide), if_pos (by decide)]
      have hr := line_reads t h2 (i + 1) (by omega) hA.tail
      have := (hr.map fun a => (⟨2, 0, s.extract (i + 1) a, []⟩ : S24)).ahead 45 hlt
      refine ⟨fun h => ?_, this.2⟩
      have hsz : t.data.toList.length = t.size := by simp
      rw [this.1 h, agr_extract hA.tail (by simp at h; omega)]
    · simp only at h h1 h2 h3 h4; subst h h1 h2
      rw [show leafB ⟨3, n, ⟨#[]⟩, []⟩ = 58 :: (Lib.itoa n ++ [13, 10]) from rfl] at hA ⊢
      rw [hA.head hlt, if_neg (by decide), if_neg (by decide), if_pos (by decide)]
      exact ((numS_reads n h3 h4 (i + 1) (by omega) hA.tail).map fun n => (⟨3, n, ⟨#[]⟩, []⟩ : S24)).ahead 58 hlt
    · simp only at h h1 h2 h3; subst h h1 h3
      rw [show leafB ⟨4, 0, t, []⟩ = 36 :: ((Lib.decDigits t.size ++ [13, 10]) ++ (t.data.toList ++ [13, 10])) from by
        show bulkB t = _
        unfold bulkB
        rw [Lib.itoa_nonneg]
        rfl] at hA ⊢
      rw [hA.head hlt, if_neg (by decide), if_neg (by decide), if_neg (by decide), if_pos (by decide)]
      exact (bulk_reads t h2 (i + 1) (by omega) hA.tail).ahead 36 hlt
    · simp only at h h1 h2 h3; subst h h1 h2 h3
      rw [show leafB ⟨5, 0, ⟨#[]⟩, []⟩ = 36 :: [45, 49, 13, 10] from rfl] at hA ⊢
      rw [hA.head hlt, if_neg (by decide), if_neg (by decide), if_neg (by decide), if_pos (by decide)]
      exact (bnone_reads (i + 1) (by omega) hA.tail).ahead 36 hlt
theorem ans_reads {s : ByteArray} : ∀ (d : Nat) (x : S24) (i : Nat), okD d x → i ≤ s.size → Agr s i (encD d x) → Reads (ansS s d i) s i (encD d x) x
  | 0, x, i, hx, hi, hA => leaf_reads _ x hx i hi hA
  | d + 1, x, i, hx, hi, hA => by
    rw [ansS]
    rcases hx with hx | ⟨h0, h1, h2, h3, h4⟩
    · rw [encD, if_neg (leaf_not6 hx)] at hA ⊢
      exact leaf_reads _ x hx i hi hA
    · obtain ⟨k, n, t, l⟩ := x
      simp only at h0 h1 h2 h3 h4
      subst h0 h1 h2
      rw [show encD (d + 1) ⟨6, 0, ⟨#[]⟩, l⟩ = 42 :: ((Lib.decDigits l.length ++ [13, 10]) ++ l.flatMap (encD d)) from by
        rw [encD]
        simp only [if_true]
        rw [Lib.itoa_nonneg]
        rfl] at hA ⊢
      unfold headS
      by_cases hs : s.size ≤ i
      · rw [if_pos hs]
        exact Reads.end_ hs (by simp)
      · rw [if_neg hs]
        have hlt : i < s.size := by omega
        rw [bt_nat s i hlt, hA.head hlt, if_neg (by decide), if_neg (by decide), if_neg (by decide), if_neg (by decide), if_pos (by decide)]
        exact (list_reads (ok := okD d) (fun x i hx hi hA => ans_reads d x i hx hi hA) l h3 h4 (i + 1) (by omega) hA.tail).ahead 42 hlt
end Go.Proofs.YtbdfjiobegadjaaDoor.Wr
/- What 'deep' gives, written, is read back; a beginning of it is refused with 'something is missing'. Plain law. -/
namespace Go.Proofs.YtbdfjiobegadjaaDoor.Wr
open Go Go.RowKit Go.Proofs.YtbdfjiobegadjaaDoor.Tk Go.Proofs.YtbdfjiobegadjaaDoor.PWireMemory Go.Proofs.YtbdfjiobegadjaaDoorW.PrintWords Go.Proofs.YtbdfjiobegadjaaDoorW.PrintLast Go.Proofs.YtbdfjiobegadjaaDoorW.PrintMore
set_option linter.unusedVariables false
theorem encD_ne (d : Nat) (x : S24) (hx : okD d x) : encD d x ≠ [] := by
  have h0 : (⟨#[]⟩ : ByteArray).size = 0 := rfl
  have h : Reads (ansS ⟨#[]⟩ d 0) ⟨#[]⟩ 0 (encD d x) x := ans_reads d x 0 hx (by omega) (fun k hk _ => by omega)
  intro e
  rw [e] at h
  have := h.1 (by simp)
  cases d <;> (rw [ansS] at this; unfold headS at this; rw [if_pos (by omega)] at this; cases this)
theorem size_mk (l : List UInt8) : (⟨l.toArray⟩ : ByteArray).size = l.length := by
  show l.toArray.size = _
  simp
theorem ans_whole {z : S24} (hz : okD 4 z) (rest : List UInt8) : ansS ⟨(encD 4 z ++ rest).toArray⟩ 4 0 = .ok z (encD 4 z).length := by
  have h := ans_reads (s := ⟨(encD 4 z ++ rest).toArray⟩) 4 z 0 hz (by simp) (fun k hk hl => by
    show (encD 4 z ++ rest).toArray[0 + k] = _
    simp [List.getElem_append_left hl])
  have := h.1 (by rw [size_mk, List.length_append]; omega)
  rw [this]
  simp
theorem ans_part {z : S24} (hz : okD 4 z) (k : Nat) (hk : k < (encD 4 z).length) : ansS ((⟨(encD 4 z).toArray⟩ : ByteArray).extract 0 k) 4 0 = .no 3 := by
  have hs : ((⟨(encD 4 z).toArray⟩ : ByteArray).extract 0 k).size = k := by
    rw [ByteArray.size_extract, size_mk]; omega
  have h := ans_reads (s := (⟨(encD 4 z).toArray⟩ : ByteArray).extract 0 k) 4 z 0 hz (by omega) (fun j hj hl => by
    rw [ByteArray.getElem_extract]
    show (encD 4 z).toArray[0 + (0 + j)]'(by simp; omega) = _
    simp)
  exact h.2 (by rw [hs]; omega)
/-- The bytes of the first n, and of all behind them. -/
def encX (x : S24) : List UInt8 := encD 4 (deepS 4 x)
def catB (L : List S24) : List UInt8 := L.flatMap encX
theorem catB_snoc (L : List S24) (i : Nat) (h : i < L.length) : catB (L.take (i + 1)) = catB (L.take i) ++ encX L[i] := by
  unfold catB
  rw [List.take_succ_eq_append_getElem h, List.flatMap_append]
  simp
theorem catB_drop (L : List S24) (i : Nat) (h : i < L.length) : catB (L.drop i) = encX L[i] ++ catB (L.drop (i + 1)) := by
  unfold catB
  rw [List.drop_eq_getElem_cons h, List.flatMap_cons]
theorem encX_len (x : S24) (h : rangeD 4 x) : 1 ≤ (encX x).length ∧ (encX x).length ≤ 312400 := by
  refine ⟨?_, ?_⟩
  · have := encD_ne 4 _ (deep_ok 4 x h)
    exact List.length_pos_iff.2 this
  · have := deep_len 4 x h
    exact this
theorem bytes_app (a b : List UInt8) : (⟨a.toArray⟩ : ByteArray) ++ ⟨b.toArray⟩ = ⟨(a ++ b).toArray⟩ := by
  ext1
  simp
theorem drop_app (a b : List UInt8) : (⟨(a ++ b).toArray⟩ : ByteArray).extract a.length (a ++ b).length = ⟨b.toArray⟩ := by
  ext1
  simp
end Go.Proofs.YtbdfjiobegadjaaDoor.Wr
