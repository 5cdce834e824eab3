/- The walks of words.Split and its parts. -/
import Derived.Test.YtbdfjiobegadjaaPWordsSplitsx1
import Derived.IntWalk
import Derived.WalkSpells
import Derived.WalkLawsBesides
import Derived.Lib.OthersKept
import Derived.WalkSmall
import Derived.Lib.Hide
import Derived.Outline
namespace Go.Proofs.Ytbdfjiobegadjaa.Split
open Go.RowKit Go.Proofs.Ytbdfjiobegadjaa.PWordsSplits Go.Proofs.YtbdfjiobegadjaaW.PrintWords Go.Proofs.YtbdfjiobegadjaaW.PrintLast Go.Proofs.YtbdfjiobegadjaaW.PrintMore
set_option linter.unusedVariables false
/-- A letter or digit, made small; 0: neither. -/
def sm (c : Int) : Int := if 97 ≤ c ∧ c ≤ 122 ∨ 48 ≤ c ∧ c ≤ 57 then c else if 65 ≤ c ∧ c ≤ 90 then c + 32 else 0
set_option maxHeartbeats 400000 in
theorem letter_any (c : Int) (w : World) (h0 : -2147483648 ≤ c) (h1 : c ≤ 2147483647) : Calls Try.prog 8 #[.int .i32 c] w fun e w' => e = .returned (.int .u8 (sm c)) ∧ w = w' := by
  have fin : ∀ x, x = sm c → Ending.returned (.int .u8 x) = .returned (.int .u8 (sm c)) := fun x h => by rw [h]
  by_cases a : 97 ≤ c
  · by_cases b : c ≤ 122
    · have F := Lib.hid (fin c (by unfold sm; rw [if_pos (by omega)]))
      clear fin
      go_enter Try.func8, Try.ntmps8
      go_wp2
      go_ret
      exact ⟨F.out, rfl⟩
    · have F := Lib.hid (fin 0 (by unfold sm; rw [if_neg (by omega), if_neg (by omega)]))
      clear fin
      have b' : 122 < c := by omega
      go_enter Try.func8, Try.ntmps8
      go_wp2
      go_ret
      exact ⟨F.out, rfl⟩
  · have a' : c < 97 := by omega
    by_cases d : 48 ≤ c
    · by_cases b : c ≤ 57
      · have F := Lib.hid (fin c (by unfold sm; rw [if_pos (by omega)]))
        clear fin
        go_enter Try.func8, Try.ntmps8
        go_wp2
        go_ret
        exact ⟨F.out, rfl⟩
      · have b' : 57 < c := by omega
        by_cases g : 65 ≤ c
        · by_cases g2 : c ≤ 90
          · have F := Lib.hid (fin (c + 32) (by unfold sm; rw [if_neg (by omega), if_pos (by omega)]))
            clear fin
            go_enter Try.func8, Try.ntmps8
            go_wp2
            go_ret
            refine ⟨?_, rfl⟩; rw [← F.out]; show Ending.returned (Value.int .u8 (c + 97 - 65)) = _; congr 2; omega
          · have g2' : 90 < c := by omega
            have F := Lib.hid (fin 0 (by unfold sm; rw [if_neg (by omega), if_neg (by omega)]))
            clear fin
            go_enter Try.func8, Try.ntmps8
            go_wp2
            go_ret
            exact ⟨F.out, rfl⟩
        · have g' : c < 65 := by omega
          have F := Lib.hid (fin 0 (by unfold sm; rw [if_neg (by omega), if_neg (by omega)]))
          clear fin
          go_enter Try.func8, Try.ntmps8
          go_wp2
          go_ret
          exact ⟨F.out, rfl⟩
    · have d' : c < 48 := by omega
      have F := Lib.hid (fin 0 (by unfold sm; rw [if_neg (by omega), if_neg (by omega)]))
      clear fin
      go_enter Try.func8, Try.ntmps8
      go_wp2
      go_ret
      exact ⟨F.out, rfl⟩
/-- The frame of the closure: all but the two captured cells, and rows of texts. -/
def Kept9 (L D : Nat) (W W' : World) : Prop := ∀ k o, W.heap[k]? = some o → k ≠ L → k ≠ D → (∀ c, o ≠ .cells c 9 (0, 0)) → W'.heap[k]? = some o
structure OverPost (base L D : Nat) (out : List ByteArray) (now : List Int) (W : World) (e : Ending) (W' : World) : Prop where
  end_ : e = .returned (.tuple #[])
  parts : ∃ vl vw, W'.heap[L]? = some (.cells #[vl] 22 (0, 0)) ∧ W'.heap[D]? = some (.cells #[vw] 26 (0, 0)) ∧
    Kd.R Kd.string 9 W' base (fun _ => True) vl (if now.length = 0 then out else out ++ [strOfNums now]) ∧ Kd.R (Kd.int .u8) 5 W' base (fun _ => True) vw []
  below : Below base W W'
  kept : Kept9 L D W W'
theorem trunc {W : World} {base c n : Nat} {A : Option Addr} {ok : Nat → Prop} {xs : List Int} (h : Kd.R (Kd.int .u8) 5 W base ok (.slice A n c) xs) : Kd.R (Kd.int .u8) 5 W base ok (.slice A 0 c) [] := by
  obtain ⟨h0, inner, ⟨h1, h2⟩, h3⟩ := h
  rcases h2 with ⟨h2, h4⟩ | ⟨g, cap, cur, he, hb, hh, hn, hm, hs, ht⟩
  · simp only [Value.slice.injEq] at h2
    obtain ⟨rfl, rfl, rfl⟩ := h2
    exact Kd.R_nil _ _ _ _ _
  · simp only [Value.slice.injEq] at he
    obtain ⟨rfl, rfl, rfl⟩ := he
    exact ⟨fun k hk => h0 k hk, [], ⟨by simp, .inr ⟨g, c, cur, rfl, hb, hh, Nat.zero_le _, hm, hs, by simp⟩⟩, Reps.none _ _⟩
theorem kept_grown {W w1 : World} {base L D : Nat} {vl : Value} {out : List ByteArray} (ho : Kd.R Kd.string 9 W base (fun _ => True) vl out) (hg : W.grownBy w1 vl.ownBlock) : Kept9 L D W w1 := by
  intro k o hk h1 h2 h3
  refine blk_grown hk hg ?_
  intro he
  obtain ⟨_, inner, hown, _⟩ := ho
  obtain ⟨cells, hc⟩ := own_typed hown k he.symm
  exact h3 cells (Option.some.inj (hk.symm.trans hc))
theorem set_heap_ne (w : World) (g k : Nat) (v : Value) (h : k ≠ g) : (w.setCell ⟨g, 0, none⟩ v).heap[k]? = w.heap[k]? := Below.heap_setCell w ⟨g, 0, none⟩ v k h
theorem below_set {base g : Nat} {w w' : World} (h : Below base w w') (hg : base ≤ g) (v : Value) : Below base w (w'.setCell ⟨g, 0, none⟩ v) := h.setCell hg v
set_option maxHeartbeats 400000 in
theorem over_none (W : World) (base L D : Nat) (vl : Value) (A : Option Addr) (c : Nat) (out : List ByteArray) (hL : W.heap[L]? = some (.cells #[vl] 22 (0, 0))) (hD : W.heap[D]? = some (.cells #[.slice A 0 c] 26 (0, 0)))
    (hbD : base ≤ D) (ho : Kd.R Kd.string 9 W base (fun _ => True) vl out) (hn : Kd.R (Kd.int .u8) 5 W base (fun _ => True) (.slice A 0 c) []) :
    Calls Try.prog 7 #[.pointer (some ⟨D, 0, none⟩), .pointer (some ⟨L, 0, none⟩)] W (OverPost base L D out [] W) := by
  have hcD := blk_cell hD 0
  have hfD := blk_frozen hD 0
  simp only [List.getElem?_toArray, List.getElem?_cons_zero] at hcD
  have HNE := Aside0.mk (blk_ne hL hD (by decide))
  have HL := Aside0.mk hL
  have HD := Aside0.mk hD
  have HO := Aside0.mk ho
  have HN := Aside0.mk hn
  clear hL hD ho hn
  go_enter Try.func7, Try.ntmps7
  go_wp2
  go_end0
  refine ⟨rfl, ⟨vl, .slice A 0 c, ?_, ?_, ?_, ?_⟩, (Below.refl _ _).setCell hbD _, ?_⟩
  · rw [set_heap_ne _ _ _ _ HNE.out]; exact HL.out
  · exact blk_set HD.out 0 _
  · exact Kd.R_set HO.out HD.out (by decide) _ _
  · exact Kd.R_set HN.out HD.out (by decide) _ _
  · intro k o hk _ h2 _
    rw [set_heap_ne _ _ _ _ h2]; exact hk
set_option maxHeartbeats 400000 in
theorem over_some (W : World) (base L D : Nat) (vl : Value) (A : Option Addr) (c : Nat) (out : List ByteArray) (now : List Int) (hnow : 0 < now.length) (h32 : now.length ≤ 32)
    (hlen : (out.length + 1) * 16 ≤ 140737488355328) (hL : W.heap[L]? = some (.cells #[vl] 22 (0, 0))) (hD : W.heap[D]? = some (.cells #[.slice A now.length c] 26 (0, 0)))
    (hbL : base ≤ L) (hbD : base ≤ D) (ho : Kd.R Kd.string 9 W base (fun _ => True) vl out) (hn : Kd.R (Kd.int .u8) 5 W base (fun _ => True) (.slice A now.length c) now) :
    Calls Try.prog 7 #[.pointer (some ⟨D, 0, none⟩), .pointer (some ⟨L, 0, none⟩)] W (OverPost base L D out now W) := by
  have hbase : base ≤ W.heap.size := Nat.le_of_lt (Nat.lt_of_le_of_lt hbL (blk_lt hL))
  have hcD := blk_cell hD 0
  have hcL := blk_cell hL 0
  simp only [List.getElem?_toArray, List.getElem?_cons_zero] at hcD hcL
  have hcv := own_string (P := Try.prog) Try.underlying26 Try.underlying5 Try.underlying9 (Kd.own_of_R hn)
  have hne1 : ¬ L = D := blk_ne hL hD (by decide)
  have hne2 : ¬ D = L := fun h => hne1 h.symm
  have HNL := Aside0.mk (own_ne (Kd.own_of_R ho) hL (by decide))
  have HND := Aside0.mk (own_ne (Kd.own_of_R ho) hD (by decide))
  have HL := Aside0.mk hL
  have HD := Aside0.mk hD
  have HO := Aside0.mk ho
  have HN := Aside0.mk hn
  clear hL hD ho hn
  go_enter Try.func7, Try.ntmps7
  go_wp2_with (at_builtin; refine Kd.R_append Kd.string (w0 := W) base rfl (.tmp 5) (.tmp 8) 22 9 (.string ⟨#[]⟩) 16 rfl Try.underlying22 info9 rfl (by decide) (by omega) vl out (strOfNums now) [.string (strOfNums now)] (fun _ => True) (fun _ => False) rfl rfl ?aP (fun _ hk => hk.elim) (fun _ _ => trivial) HO.out (Below.refl _ _) hbase hlen ?_; (case aP => exact rfl); intro v1 w1 ho1 hb1 hg1 hat1; obtain ⟨A1, c1, e1⟩ := Kd.R_slice ho1; subst e1; have HO1 := Aside0.mk ho1; have HB1 := Aside0.mk hb1; have HG1 := Aside0.mk hg1; have hL1 := blk_grown HL.out hg1 HNL.out; have hD1 := blk_grown HD.out hg1 HND.out; have hcL1 := blk_cell hL1 0; have hcD1 := blk_cell hD1 0; have hfL1 := blk_frozen hL1 0; simp only [List.getElem?_toArray, List.getElem?_cons_zero] at hcD1 hcL1; have HL1 := Aside0.mk hL1; have hfD1 := blk_frozen hD1 0; have HD1 := Aside0.mk hD1; clear hL1 hD1; clear ho1 hb1 hg1 hat1)
  go_end0
  refine ⟨rfl, ⟨.slice A1 (out.length + 1) c1, .slice A 0 c, ?_, ?_, ?_, ?_⟩, (HB1.out.setCell hbL _).setCell hbD _, ?_⟩
  · rw [set_heap_ne _ _ _ _ hne1]; exact blk_set HL1.out 0 _
  · exact blk_set ((set_heap_ne _ _ _ _ hne2).trans HD1.out) 0 _
  · rw [if_neg (by omega)]
    have h := HO1.out
    rw [List.length_append, List.length_singleton] at h
    exact Kd.R_set (Kd.R_set h HL1.out (by decide) _ _) ((set_heap_ne _ _ _ _ hne2).trans HD1.out) (by decide) _ _
  · have h := trunc (Kd.R_over' HN.out (Kd.R_typed HO.out) (by decide) HG1.out)
    exact Kd.R_set (Kd.R_set h HL1.out (by decide) _ _) ((set_heap_ne _ _ _ _ hne2).trans HD1.out) (by decide) _ _
  · intro k o hk h1 h2 h3
    rw [set_heap_ne _ _ _ _ h2, set_heap_ne _ _ _ _ h1]
    exact kept_grown (L := L) (D := D) HO.out HG1.out k o hk h1 h2 h3
theorem over_any (W : World) (base L D : Nat) (vl vw : Value) (out : List ByteArray) (now : List Int) (h32 : now.length ≤ 32)
    (hlen : (out.length + 1) * 16 ≤ 140737488355328) (hL : W.heap[L]? = some (.cells #[vl] 22 (0, 0))) (hD : W.heap[D]? = some (.cells #[vw] 26 (0, 0)))
    (hbL : base ≤ L) (hbD : base ≤ D) (ho : Kd.R Kd.string 9 W base (fun _ => True) vl out) (hn : Kd.R (Kd.int .u8) 5 W base (fun _ => True) vw now) :
    Calls Try.prog 7 #[.pointer (some ⟨D, 0, none⟩), .pointer (some ⟨L, 0, none⟩)] W (OverPost base L D out now W) := by
  obtain ⟨A, c, rfl⟩ := Kd.R_slice hn
  cases now with
  | nil => exact over_none W base L D vl A c out hL hD hbD ho hn
  | cons x now => exact over_some W base L D vl A c out (x :: now) (by simp) h32 hlen hL hD hbL hbD ho hn
/-! ### The plain side -/
abbrev St := List ByteArray × List Int
def flush (st : St) : St := (if st.2.length = 0 then st.1 else st.1 ++ [strOfNums st.2], [])
def stp (c : Int) (st : St) : St :=
  let st1 := if c = 0 ∨ st.2.length = 32 then flush st else st
  if c = 0 then st1 else (st1.1, st1.2 ++ [c])
def fin (l : List Int) (st : St) : List ByteArray := (flush (l.foldl (fun st c => stp c st) st)).1
def codes (s : ByteArray) (pos : Nat) : List Int := (s.data.toList.drop pos).map fun b => sm b.toNat
def total (s : ByteArray) : List ByteArray := fin (codes s 0) ([], [])
theorem fin_nil (st : St) : fin [] st = (flush st).1 := rfl
theorem fin_cons (c : Int) (l : List Int) (st : St) : fin (c :: l) st = fin l (stp c st) := rfl
theorem stp_zero (st : St) : stp 0 (stp 0 st) = stp 0 st := by simp [stp, flush]
theorem fin_zeros (n : Nat) (l : List Int) (st : St) : fin (List.replicate (n + 1) 0 ++ l) st = fin l (stp 0 st) := by
  induction n generalizing st with
  | zero => rfl
  | succ n ih => rw [List.replicate_succ, List.cons_append, fin_cons, ih, stp_zero]
theorem codes_step (s : ByteArray) (pos : Nat) (h : pos < s.size) : codes s pos = sm (s[pos].toNat) :: codes s (pos + 1) := by
  have hl : pos < s.data.toList.length := by simpa using h
  unfold codes
  rw [List.drop_eq_getElem_cons hl, List.map_cons]
  rfl
theorem codes_end (s : ByteArray) (pos : Nat) (h : ¬ pos < s.size) : codes s pos = [] := by
  unfold codes
  rw [List.drop_eq_nil_of_le (by simp; omega)]; rfl
theorem sm_high (c : Int) (h : 128 ≤ c) : sm c = 0 := by unfold sm; rw [if_neg (by omega), if_neg (by omega)]
theorem sm_range (c : Int) : 0 ≤ sm c ∧ sm c ≤ 255 := by unfold sm; split <;> (try split) <;> omega
theorem codes_high (s : ByteArray) : ∀ (n pos : Nat), (∀ j, j < n → ∃ h : pos + j < s.size, 128 ≤ (s[pos + j]'h).toNat) → codes s pos = List.replicate n 0 ++ codes s (pos + n)
  | 0, pos, _ => rfl
  | n + 1, pos, h => by
    obtain ⟨h0, h1⟩ := h 0 (by omega)
    rw [codes_step s pos h0, sm_high _ (by have : 128 ≤ (s[pos]).toNat := h1; omega), codes_high s n (pos + 1) (fun j hj => by
      obtain ⟨a, b⟩ := h (j + 1) (by omega)
      have e : pos + (j + 1) = pos + 1 + j := by omega
      simp only [e] at a b
      exact ⟨a, b⟩), List.replicate_succ, List.cons_append, show pos + 1 + n = pos + (n + 1) from by omega]
theorem get_bang (s : ByteArray) (i : Nat) (h : i < s.size) : s.get! i = s[i] := by
  simp [ByteArray.get!, getElem!_pos, h]; rfl
theorem decode_cont (s : ByteArray) (pos : Nat) (h : pos < s.size) (ha : 128 ≤ (s[pos]'h).toNat) : ∀ j, j < (Utf8.decode s pos).2 → ∃ h' : pos + j < s.size, 128 ≤ (s[pos + j]'h').toNat := by
  have hc : ∀ k, (decide (pos + k < s.size) && (s.get! (pos + k)).toNat / 64 == 2) = true → ∃ h' : pos + k < s.size, 128 ≤ (s[pos + k]'h').toNat := by
    intro k hk
    simp only [Bool.and_eq_true, decide_eq_true_eq, beq_iff_eq] at hk
    refine ⟨hk.1, ?_⟩
    rw [get_bang s _ hk.1] at hk
    omega
  have h0 : ∃ h' : pos + 0 < s.size, 128 ≤ (s[pos + 0]'h').toNat := ⟨h, ha⟩
  intro j
  unfold Utf8.decode
  simp only []
  split
  · intro hj; simp only [] at hj; obtain rfl : j = 0 := by omega
    exact h0
  · split
    · rename_i h1
      rw [Bool.and_eq_true] at h1
      intro hj
      have : j = 0 ∨ j = 1 := by split at hj <;> simp only [] at hj <;> omega
      rcases this with rfl | rfl
      · exact h0
      · exact hc 1 h1.2
    · split
      · rename_i h1
        rw [Bool.and_eq_true, Bool.and_eq_true] at h1
        intro hj
        have : j = 0 ∨ j = 1 ∨ j = 2 := by split at hj <;> simp only [] at hj <;> omega
        rcases this with rfl | rfl | rfl
        · exact h0
        · exact hc 1 h1.1.2
        · exact hc 2 h1.2
      · split
        · rename_i h1
          rw [Bool.and_eq_true, Bool.and_eq_true, Bool.and_eq_true] at h1
          intro hj
          have : j = 0 ∨ j = 1 ∨ j = 2 ∨ j = 3 := by split at hj <;> simp only [] at hj <;> omega
          rcases this with rfl | rfl | rfl | rfl
          · exact h0
          · exact hc 1 h1.1.1.2
          · exact hc 2 h1.1.2
          · exact hc 3 h1.2
        · intro hj; simp only [] at hj; obtain rfl : j = 0 := by omega
          exact h0
/-- One rune: what it is made into, and where the next one stands. -/
theorem rune_step (s : ByteArray) (pos : Nat) (h : pos < s.size) (st : St) :
    fin (codes s pos) st = fin (codes s (pos + (Utf8.decode s pos).2)) (stp (sm (Utf8.decode s pos).1) st) ∧ pos < pos + (Utf8.decode s pos).2 ∧ pos + (Utf8.decode s pos).2 ≤ s.size := by
  by_cases ha : (s[pos]).toNat < 128
  · rw [decode_ascii s pos h ha, codes_step s pos h, fin_cons]
    exact ⟨rfl, by omega, by omega⟩
  · have hh := decode_high s pos h (by omega)
    have hc := decode_cont s pos h (by omega)
    obtain ⟨n, hn⟩ : ∃ n, (Utf8.decode s pos).2 = n + 1 := ⟨(Utf8.decode s pos).2 - 1, by omega⟩
    refine ⟨?_, by omega, ?_⟩
    · rw [codes_high s (Utf8.decode s pos).2 pos hc, sm_high _ (by omega), hn, fin_zeros]
    · obtain ⟨a, _⟩ := hc n (by omega)
      omega
theorem stp_bounds (c : Int) (out : List ByteArray) (now : List Int) (n : Nat) (h1 : out.length ≤ n) (h2 : now.length ≤ 32) : (stp c (out, now)).1.length ≤ n + 1 ∧ (stp c (out, now)).2.length ≤ 32 := by
  unfold stp flush
  by_cases a : c = 0
  · simp only [a, true_or, if_true]
    split <;> simp <;> omega
  · simp only [a, false_or, if_false]
    split
    · split <;> simp <;> omega
    · simp; omega
end Go.Proofs.Ytbdfjiobegadjaa.Split
