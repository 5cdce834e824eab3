/- An answer's bytes; what was read, written again, is the very bytes. Plain law. -/
import Derived.Test.YtbdfjiobegadjaaDoorWriter
import Derived.Test.YtbdfjiobegadjaaDoorTaker8
namespace Go.Proofs.YtbdfjiobegadjaaDoor.Wr
open Go Go.RowKit Go.Proofs.YtbdfjiobegadjaaDoor.Tk Go.Proofs.YtbdfjiobegadjaaDoor.PWireMemory Go.Proofs.YtbdfjiobegadjaaDoorW.PrintWords Go.Proofs.YtbdfjiobegadjaaDoorW.PrintLast Go.Proofs.YtbdfjiobegadjaaDoorW.PrintMore
set_option linter.unusedVariables false
set_option linter.unusedSectionVars false
set_option linter.unusedSimpArgs false
/-- The bytes of an answer that is no list. -/
def leafB (x : S24) : List UInt8 :=
  if x.f0 = 1 then 43 :: (x.f2.data.toList ++ [13, 10])
  else if x.f0 = 2 then 45 :: (x.f2.data.toList ++ [13, 10])
  else if x.f0 = 3 then 58 :: (Lib.itoa x.f1 ++ [13, 10])
  else if x.f0 = 4 then bulkB x.f2
  else [36, 45, 49, 13, 10]
/-- The bytes of an answer in which lists lie so deep. -/
def encD : Nat → S24 → List UInt8
  | 0, x => leafB x
  | d + 1, x => if x.f0 = 6 then (42 :: (Lib.itoa x.f3.length ++ [13, 10])) ++ x.f3.flatMap (encD d) else leafB x
def lineOk (t : ByteArray) : Prop := t.size ≤ 4096 ∧ ∀ (i : Nat) (h : i < t.size), 32 ≤ (t[i]).toNat ∧ (t[i]).toNat ≠ 127
def leafOk (x : S24) : Prop :=
  ((x.f0 = 1 ∨ x.f0 = 2) ∧ x.f1 = 0 ∧ lineOk x.f2 ∧ x.f3 = []) ∨ (x.f0 = 3 ∧ x.f2 = ⟨#[]⟩ ∧ x.f3 = [] ∧ -9223372036854775808 ≤ x.f1 ∧ x.f1 ≤ 9223372036854775807) ∨
    (x.f0 = 4 ∧ x.f1 = 0 ∧ x.f2.size ≤ 65536 ∧ x.f3 = []) ∨ (x.f0 = 5 ∧ x.f1 = 0 ∧ x.f2 = ⟨#[]⟩ ∧ x.f3 = [])
/-- May an answer be so, and lie lists no deeper? -/
def okD : Nat → S24 → Prop
  | 0, x => leafOk x
  | d + 1, x => leafOk x ∨ (x.f0 = 6 ∧ x.f1 = 0 ∧ x.f2 = ⟨#[]⟩ ∧ x.f3.length ≤ 2000 ∧ ∀ y ∈ x.f3, okD d y)
theorem bytesIn_cons (s : ByteArray) (i j : Nat) (h : i < j) (hj : j ≤ s.size) : bytesIn s i j = (s[i]'(by omega)) :: bytesIn s (i + 1) j := by
  simp only [bytesIn, ByteArray.data_extract, Array.toList_extract, List.extract_eq_take_drop]
  have hl : i < s.data.toList.length := by simp; omega
  rw [List.drop_eq_getElem_cons hl, show j - i = (j - (i + 1)) + 1 by omega, List.take_succ_cons]
  rfl
theorem bytesIn_split (s : ByteArray) (i j k : Nat) (h : i ≤ j) (hk : j ≤ k) : bytesIn s i k = bytesIn s i j ++ bytesIn s j k := by
  simp only [bytesIn, ByteArray.data_extract, Array.toList_extract, List.extract_eq_take_drop]
  rw [show k - i = (j - i) + (k - j) by omega, List.take_add, List.drop_drop, show i + (j - i) = j by omega]
theorem expect_bytes {s : ByteArray} : ∀ {l : List UInt8} {i j : Nat} {u : Unit}, expect s l i = .ok u j → i ≤ s.size → i ≤ j ∧ j ≤ s.size ∧ bytesIn s i j = l
  | [], i, j, u, h, hi => by
    simp only [expect, Res.ok.injEq] at h
    obtain ⟨_, rfl⟩ := h
    exact ⟨Nat.le_refl _, hi, bytesIn_self s i⟩
  | c :: l, i, j, u, h, hi => by
    rw [expect] at h
    split at h
    · rename_i hlt
      split at h
      · rename_i hc
        obtain ⟨h1, h2, h3⟩ := expect_bytes h (by omega)
        exact ⟨by omega, h2, by rw [bytesIn_cons s i j (by omega) h2, h3, hc]⟩
      · cases h
    · cases h
theorem dec_snoc (n d : Nat) (hn : 1 ≤ n) (hd : d < 10) : Lib.decDigits (10 * n + d) = Lib.decDigits n ++ [UInt8.ofNat (48 + d)] := by
  rw [Lib.decDigits, dif_neg (by omega), show (10 * n + d) / 10 = n by omega, show (10 * n + d) % 10 = d by omega]
theorem byte_dec (c : UInt8) (h : 48 ≤ (c.toNat : Int)) (h2 : (c.toNat : Int) ≤ 57) : UInt8.ofNat (48 + ((c.toNat : Int).toNat - 48)) = c := by
  rw [Int.toNat_natCast, show 48 + (c.toNat - 48) = c.toNat by omega, UInt8.ofNat_toNat]
theorem digs_bytes {s : ByteArray} {most : Nat} (h9 : 9 ≤ most) : ∀ {f n : Nat} {first : Bool} {i a j : Nat}, digs s most f n first i = .ok a j → i + f = s.size → (first = true → n = 0) → n ≤ most →
    i ≤ j ∧ j ≤ s.size ∧ a ≤ most ∧ n ≤ a ∧ Lib.decDigits a ++ [13, 10] = (if first = true then [] else Lib.decDigits n) ++ bytesIn s i j ∧ (first = true → i < s.size ∧ (bt s i ≠ 48 → 1 ≤ a))
  | 0, _, _, _, _, _, h, _, _, _ => by cases h
  | f + 1, n, first, i, a, j, h, hf, hn, hm => by
    have hi : i < s.size := by omega
    rw [digs, bt_nat s i hi] at h
    split at h
    · rename_i hc
      obtain ⟨rfl, u, hu⟩ := as_ok h
      obtain ⟨h1, h2, h3⟩ := expect_bytes hu (by omega)
      have hb : s[i] = 13 := UInt8.toNat_inj.1 (by have := hc.1; rw [show (13 : UInt8).toNat = 13 from rfl]; omega)
      rw [hc.2]
      refine ⟨by omega, h2, hm, Nat.le_refl _, ?_, fun e => by cases e⟩
      rw [bytesIn_cons s i j (by omega) h2, h3, hb]
      simp
    · split at h
      · cases h
      · rename_i hc
        simp only [not_or, Int.not_lt, Nat.not_lt] at hc
        obtain ⟨c1, c2, c3, c4⟩ := hc
        have hd : ((s[i].toNat : Int).toNat - 48) < 10 := by omega
        generalize hv : ((s[i].toNat : Int).toNat - 48) = v at h hd c4
        obtain ⟨h1, h2, h3, h4, h5, _⟩ := digs_bytes h9 h (by omega) (fun e => by cases e) (by
          by_cases hz : n = 0
          · omega
          · omega)
        have hbd := byte_dec s[i] c1 c2
        rw [hv] at hbd
        refine ⟨by omega, h2, h3, by omega, ?_, fun e => ⟨hi, fun h48 => ?_⟩⟩
        · rw [if_neg (by simp)] at h5
          rw [h5, bytesIn_cons s i j (by omega) h2]
          cases first with
          | true =>
            obtain rfl := hn rfl
            rw [if_pos rfl, show 10 * 0 + v = v by omega, Lib.decDigits_one hd, hbd]
            rfl
          | false =>
            have hn1 : 1 ≤ n := by
              by_cases hz : n = 0
              · exact absurd ⟨rfl, hz⟩ c3
              · omega
            rw [if_neg (by simp), dec_snoc n v hn1 hd, hbd]
            simp
        · rw [bt_nat s i hi] at h48
          omega
theorem lin_bytes {s : ByteArray} : ∀ {f m i a j : Nat}, lin s f m i = .ok a j → i + f = s.size → m ≤ 4096 →
    i ≤ a ∧ a ≤ j ∧ j ≤ s.size ∧ m + (a - i) ≤ 4096 ∧ bytesIn s i j = bytesIn s i a ++ [13, 10] ∧ ∀ (k : Nat) (h : k < s.size), i ≤ k → k < a → 32 ≤ (s[k]).toNat ∧ (s[k]).toNat ≠ 127
  | 0, _, _, _, _, h, _, _ => by cases h
  | f + 1, m, i, a, j, h, hf, hm => by
    have hi : i < s.size := by omega
    rw [lin, bt_nat s i hi] at h
    split at h
    · rename_i hc
      obtain ⟨rfl, u, hu⟩ := as_ok h
      obtain ⟨h1, h2, h3⟩ := expect_bytes hu (by omega)
      have hb : s[a] = 13 := UInt8.toNat_inj.1 (by rw [show (13 : UInt8).toNat = 13 from rfl]; omega)
      refine ⟨Nat.le_refl _, by omega, h2, by omega, ?_, fun k _ h1 h2 => by omega⟩
      rw [bytesIn_cons s a j (by omega) h2, h3, hb, bytesIn_self]
      rfl
    · split at h
      · cases h
      · rename_i hc
        simp only [not_or] at hc
        obtain ⟨c1, c2, c3⟩ := hc
        obtain ⟨h1, h2, h3, h4, h5, h6⟩ := lin_bytes h (by omega) (by omega)
        refine ⟨by omega, h2, h3, by omega, ?_, fun k hk k1 k2 => ?_⟩
        · rw [bytesIn_cons s i j (by omega) h3, h5, bytesIn_cons s i a (by omega) (by omega)]
          rfl
        · by_cases hki : k = i
          · subst hki
            omega
          · exact h6 k hk (by omega) k2
theorem line_ok {s : ByteArray} {i a j : Nat} (h : lin s (s.size - i) 0 i = .ok a j) (hi : i ≤ s.size) :
    i ≤ j ∧ j ≤ s.size ∧ lineOk (s.extract i a) ∧ bytesIn s i j = (s.extract i a).data.toList ++ [13, 10] := by
  obtain ⟨h1, h2, h3, h4, h5, h6⟩ := lin_bytes h (by omega) (by omega)
  refine ⟨by omega, h3, ⟨by simp; omega, fun k hk => ?_⟩, h5⟩
  have hk' : k < a - i := by simp at hk; omega
  rw [ByteArray.getElem_extract]
  exact h6 (i + k) (by omega) (by omega) (by omega)
theorem numS_bytes {s : ByteArray} {i : Nat} {v : Int} {j : Nat} (h : numS s i = .ok v j) : i ≤ j ∧ j ≤ s.size ∧ Lib.itoa v ++ [13, 10] = bytesIn s i j ∧ -9223372036854775808 ≤ v ∧ v ≤ 9223372036854775807 := by
  unfold numS at h
  split at h
  · cases h
  · rename_i hi
    split at h
    · obtain ⟨x, hx, rfl⟩ := map_ok h
      obtain ⟨h1, h2, h3, _, h5, _⟩ := digs_bytes (by decide) hx (by omega) (fun _ => rfl) (by omega)
      unfold maxI at h3
      exact ⟨h1, h2, by rw [Lib.itoa_nonneg]; simpa using h5, by omega, by omega⟩
    · rename_i hc
      simp only [Decidable.not_not] at hc
      split at h
      · cases h
      · rename_i hi2
        split at h
        · cases h
        · rename_i hc2
          obtain ⟨x, hx, rfl⟩ := map_ok h
          obtain ⟨h1, h2, h3, _, h5, h6⟩ := digs_bytes (by decide) hx (by omega) (fun _ => rfl) (by omega)
          have h7 := (h6 rfl).2 hc2
          unfold maxU at h3
          refine ⟨by omega, h2, ?_, by omega, by omega⟩
          have hb : s[i] = 45 := by
            rw [bt_nat s i (by omega)] at hc
            exact UInt8.toNat_inj.1 (by rw [show (45 : UInt8).toNat = 45 from rfl]; omega)
          rw [Lib.itoa_neg x h7, bytesIn_cons s i j (by omega) h2, hb, List.cons_append, h5]
          rfl
theorem bulkS_bytes {s : ByteArray} {i : Nat} {x : S24} {j : Nat} (h : bulkS s i = .ok x j) : i ≤ j ∧ j ≤ s.size ∧ leafOk x ∧ leafB x = 36 :: bytesIn s i j := by
  unfold bulkS at h
  split at h
  · cases h
  · rename_i hi
    split at h
    · rename_i hc
      obtain ⟨rfl, u, hu⟩ := as_ok h
      obtain ⟨h1, h2, h3⟩ := expect_bytes hu (by omega)
      have hb : s[i]'(by omega) = 45 := by
        rw [bt_nat s i (by omega)] at hc
        exact UInt8.toNat_inj.1 (by rw [show (45 : UInt8).toNat = 45 from rfl]; omega)
      refine ⟨by omega, h2, .inr (.inr (.inr ⟨rfl, rfl, rfl, rfl⟩)), ?_⟩
      rw [bytesIn_cons s i j (by omega) h2, h3, hb]
      rfl
    · split at h
      · cases h
      · rename_i n j' hd
        split at h
        · cases h
        · rename_i hn
          obtain ⟨rfl, u, hu⟩ := as_ok h
          obtain ⟨h1, h2, h3, _, h5, _⟩ := digs_bytes (by decide) hd (by omega) (fun _ => rfl) (by omega)
          obtain ⟨g1, g2, g3⟩ := expect_bytes hu (by omega)
          have hsz : (s.extract j' (j' + n)).size = n := by simp; omega
          refine ⟨by omega, g2, .inr (.inr (.inl ⟨rfl, rfl, by show (s.extract j' (j' + n)).size ≤ _; omega, rfl⟩)), ?_⟩
          rw [bytesIn_split s i j' j h1 (by omega), bytesIn_split s j' (j' + n) j (by omega) g1, g3]
          rw [if_pos rfl, List.nil_append] at h5
          rw [← h5]
          show bulkB (s.extract j' (j' + n)) = _
          unfold bulkB
          rw [hsz, Lib.itoa_nonneg]
          simp [bytesIn]
theorem items_bytes {s : ByteArray} {f : Nat → Res S24} {ok : S24 → Prop} {enc : S24 → List UInt8} (hf : ∀ i x j, f i = .ok x j → i ≤ s.size → i ≤ j ∧ j ≤ s.size ∧ ok x ∧ enc x = bytesIn s i j) :
    ∀ {n i : Nat} {l : List S24} {j : Nat}, itemsS f n i = .ok l j → i ≤ s.size → i ≤ j ∧ j ≤ s.size ∧ l.length = n ∧ (∀ y ∈ l, ok y) ∧ l.flatMap enc = bytesIn s i j
  | 0, i, l, j, h, hi => by
    simp only [itemsS, Res.ok.injEq] at h
    obtain ⟨rfl, rfl⟩ := h
    exact ⟨Nat.le_refl _, hi, rfl, fun y hy => by simp at hy, by rw [bytesIn_self]; rfl⟩
  | n + 1, i, l, j, h, hi => by
    rw [itemsS] at h
    split at h
    · cases h
    · rename_i x j' hx
      obtain ⟨l', hl', rfl⟩ := map_ok h
      obtain ⟨h1, h2, h3, h4⟩ := hf i x j' hx hi
      obtain ⟨g1, g2, g3, g4, g5⟩ := items_bytes hf hl' h2
      refine ⟨by omega, g2, by simp [g3], fun y hy => ?_, ?_⟩
      · rcases List.mem_cons.1 hy with rfl | hy
        · exact h3
        · exact g4 y hy
      · rw [List.flatMap_cons, h4, g5, ← bytesIn_split s i j' j h1 g1]
theorem list_bytes {s : ByteArray} {f : Nat → Res S24} {ok : S24 → Prop} {enc : S24 → List UInt8} (hf : ∀ i x j, f i = .ok x j → i ≤ s.size → i ≤ j ∧ j ≤ s.size ∧ ok x ∧ enc x = bytesIn s i j)
    {i : Nat} {x : S24} {j : Nat} (h : listS s f i = .ok x j) : i ≤ j ∧ j ≤ s.size ∧ (x.f0 = 6 ∧ x.f1 = 0 ∧ x.f2 = ⟨#[]⟩ ∧ x.f3.length ≤ 2000 ∧ ∀ y ∈ x.f3, ok y) ∧ (Lib.itoa x.f3.length ++ [13, 10]) ++ x.f3.flatMap enc = bytesIn s i j := by
  unfold listS at h
  split at h
  · cases h
  · rename_i hi
    split at h
    · cases h
    · rename_i n j' hd
      obtain ⟨l, hl, rfl⟩ := map_ok h
      obtain ⟨h1, h2, h3, _, h5, _⟩ := digs_bytes (by decide) hd (by omega) (fun _ => rfl) (by omega)
      obtain ⟨g1, g2, g3, g4, g5⟩ := items_bytes hf hl h2
      rw [if_pos rfl, List.nil_append] at h5
      refine ⟨by omega, g2, ⟨rfl, rfl, rfl, by show l.length ≤ 2000; omega, g4⟩, ?_⟩
      show (Lib.itoa l.length ++ [13, 10]) ++ l.flatMap enc = _
      rw [g3, g5, Lib.itoa_nonneg, h5, ← bytesIn_split s i j' j h1 g1]
theorem head_bytes {s : ByteArray} {f : Nat → Res S24} {P : S24 → List UInt8 → Prop} (hleaf : ∀ x, leafOk x → P x (leafB x))
    (hf : ∀ i x j, f i = .ok x j → i ≤ s.size → i ≤ j ∧ j ≤ s.size ∧ P x (42 :: bytesIn s i j)) {i : Nat} {x : S24} {j : Nat} (h : headS s f i = .ok x j) : i ≤ j ∧ j ≤ s.size ∧ P x (bytesIn s i j) := by
  unfold headS at h
  split at h
  · cases h
  · rename_i hi
    have hb : ∀ c : UInt8, bt s i = (c.toNat : Int) → s[i]'(by omega) = c := fun c hc => by
      rw [bt_nat s i (by omega)] at hc
      exact UInt8.toNat_inj.1 (by omega)
    split at h
    · rename_i hc
      obtain ⟨a, ha, rfl⟩ := map_ok h
      obtain ⟨h1, h2, h3, h4⟩ := line_ok ha (by omega)
      refine ⟨by omega, h2, ?_⟩
      rw [bytesIn_cons s i j (by omega) h2, hb 43 hc, h4]
      exact hleaf ⟨1, 0, s.extract (i + 1) a, []⟩ (.inl ⟨.inl rfl, rfl, h3, rfl⟩)
    · split at h
      · rename_i hc
        obtain ⟨a, ha, rfl⟩ := map_ok h
        obtain ⟨h1, h2, h3, h4⟩ := line_ok ha (by omega)
        refine ⟨by omega, h2, ?_⟩
        rw [bytesIn_cons s i j (by omega) h2, hb 45 hc, h4]
        exact hleaf ⟨2, 0, s.extract (i + 1) a, []⟩ (.inl ⟨.inr rfl, rfl, h3, rfl⟩)
      · split at h
        · rename_i hc
          obtain ⟨v, hv, rfl⟩ := map_ok h
          obtain ⟨h1, h2, h3, h4, h5⟩ := numS_bytes hv
          refine ⟨by omega, h2, ?_⟩
          rw [bytesIn_cons s i j (by omega) h2, hb 58 hc, ← h3]
          exact hleaf ⟨3, v, ⟨#[]⟩, []⟩ (.inr (.inl ⟨rfl, rfl, rfl, h4, h5⟩))
        · split at h
          · rename_i hc
            obtain ⟨h1, h2, h3, h4⟩ := bulkS_bytes h
            refine ⟨by omega, h2, ?_⟩
            rw [bytesIn_cons s i j (by omega) h2, hb 36 hc, ← h4]
            exact hleaf x h3
          · split at h
            · rename_i hc
              obtain ⟨h1, h2, h3⟩ := hf (i + 1) x j h (by omega)
              refine ⟨by omega, h2, ?_⟩
              rw [bytesIn_cons s i j (by omega) h2, hb 42 hc]
              exact h3
            · cases h
theorem leaf_not6 {x : S24} (h : leafOk x) : x.f0 ≠ 6 := by
  rcases h with ⟨h | h, _⟩ | ⟨h, _⟩ | ⟨h, _⟩ | ⟨h, _⟩ <;> omega
theorem ans_bytes {s : ByteArray} : ∀ {d i : Nat} {x : S24} {j : Nat}, ansS s d i = .ok x j → i ≤ j ∧ j ≤ s.size ∧ okD d x ∧ encD d x = bytesIn s i j
  | 0, i, x, j, h => by
    have := head_bytes (P := fun x l => okD 0 x ∧ encD 0 x = l) (fun x hx => ⟨hx, rfl⟩) (fun i x j h => by cases h) h
    exact this
  | d + 1, i, x, j, h => by
    refine head_bytes (P := fun x l => okD (d + 1) x ∧ encD (d + 1) x = l) (fun x hx => ⟨.inl hx, by rw [encD, if_neg (leaf_not6 hx)]⟩) (fun i x j h hi => ?_) h
    obtain ⟨h1, h2, h3, h4⟩ := list_bytes (s := s) (ok := okD d) (enc := encD d) (fun i x j h _ => ans_bytes h) h
    exact ⟨h1, h2, .inr h3, by rw [encD, if_pos h3.1, ← h4]; simp⟩
end Go.Proofs.YtbdfjiobegadjaaDoor.Wr
