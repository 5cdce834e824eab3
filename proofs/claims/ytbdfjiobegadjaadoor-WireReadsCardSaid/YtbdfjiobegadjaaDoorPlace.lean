/- The walks of the document's place, method by method. -/
import Derived.Test.YtbdfjiobegadjaaDoorTaker8
namespace Go.Proofs.YtbdfjiobegadjaaDoor.Pl
open Go Go.RowKit Go.Proofs.YtbdfjiobegadjaaDoor.Tk Go.Proofs.YtbdfjiobegadjaaDoor.PWireMemory Go.Proofs.YtbdfjiobegadjaaDoorW.PrintWords Go.Proofs.YtbdfjiobegadjaaDoorW.PrintLast Go.Proofs.YtbdfjiobegadjaaDoorW.PrintMore
set_option linter.unusedVariables false
set_option linter.unusedSectionVars false
set_option linter.unusedSimpArgs false
def PAt (W : World) (b : Nat) (s : ByteArray) (i y e : Int) : Prop := W.heap[b]? = some (.cells #[.string s, .int .i64 i, .int .i64 y, .int .i64 e] 86 (0, 0))
theorem PAt.cells {W : World} {b : Nat} {s : ByteArray} {i y e : Int} (h : PAt W b s i y e) : (W.cell? ⟨b, 0, none⟩ = some (.string s) ∧ W.cell? ⟨b, 1, none⟩ = some (.int .i64 i) ∧ W.cell? ⟨b, 2, none⟩ = some (.int .i64 y) ∧ W.cell? ⟨b, 3, none⟩ = some (.int .i64 e)) ∧
    (W.frozen? ⟨b, 1, none⟩ = false ∧ W.frozen? ⟨b, 2, none⟩ = false ∧ W.frozen? ⟨b, 3, none⟩ = false) := by
  have h0 := blk_cell h 0
  have h1 := blk_cell h 1
  have h2 := blk_cell h 2
  have h3 := blk_cell h 3
  simp only [List.getElem?_toArray, List.getElem?_cons_zero, List.getElem?_cons_succ] at h0 h1 h2 h3
  exact ⟨⟨h0, h1, h2, h3⟩, blk_frozen h 1, blk_frozen h 2, blk_frozen h 3⟩
theorem PAt.set1 {W : World} {b : Nat} {s : ByteArray} {i y e : Int} (h : PAt W b s i y e) (x : Int) : PAt (W.setCell ⟨b, 1, none⟩ (.int .i64 x)) b s x y e := blk_set h 1 _
theorem PAt.set2 {W : World} {b : Nat} {s : ByteArray} {i y e : Int} (h : PAt W b s i y e) (x : Int) : PAt (W.setCell ⟨b, 2, none⟩ (.int .i64 x)) b s i x e := blk_set h 2 _
theorem PAt.set3 {W : World} {b : Nat} {s : ByteArray} {i y e : Int} (h : PAt W b s i y e) (x : Int) : PAt (W.setCell ⟨b, 3, none⟩ (.int .i64 x)) b s i y x := blk_set h 3 _
theorem PAt.drewN {W : World} {b : Nat} {s : ByteArray} {i y e : Int} (h : PAt W b s i y e) (n : Nat) : PAt (W.drewN n) b s i y e := h
/-- What 'why' holds behind refusal k. -/
def wh (k : Nat) : Int := if k = 3 then 0 else 2
def PGood (W : World) (b : Nat) (s : ByteArray) (i : Nat) : Prop := ∃ e : Int, PAt W b s i 1 e
def PBad (W : World) (b k : Nat) : Prop := ∃ (s : ByteArray) (i e : Int), PAt W b s i (wh k) e
theorem wh_ne (k : Nat) : (wh k != 1) = true := by unfold wh; split <;> rfl
theorem wh_eq (k : Nat) : (wh k == 1) = false := by unfold wh; split <;> rfl
def PLeaves {α : Type} (W : World) (b : Nat) (s : ByteArray) : Res α → Prop
  | .ok _ i => PGood W b s i
  | .no k => PBad W b k
structure IntOk (b : Nat) (c : Int) (P : World → Prop) (W : World) (e : Ending) (W' : World) : Prop where
  end_ : e = .returned (.int .i64 c)
  at_ : P W'
  only : Only b W W'
theorem ret_i64 {a c : Int} (h : a = c) : Ending.returned (.int .i64 a) = .returned (.int .i64 c) := by rw [h]
set_option maxHeartbeats 1000000 in
theorem here_some (W : World) (b : Nat) (s : ByteArray) (i : Nat) (e : Int) (hs : s.size ≤ 140737488351232) (hi : i < s.size) (h : PAt W b s i 1 e) :
    Calls Tryd.prog 56 #[.pointer (some ⟨b, 0, none⟩)] W (IntOk b ((s[i]).toNat) (fun W' => PAt W' b s i 1 e) W) := by
  obtain ⟨⟨h0, h1, h2, h3⟩, f1, f2, f3⟩ := h.cells
  have hi' : (i : Int) < (s.size : Int) := by omega
  have H := Aside0.mk h
  clear h
  go_enter Tryd.func56, Tryd.ntmps56
  go_wp2_with fail
  go_quiet (fail)
  go_wp2_with fail
  go_quiet (fail)
  go_wp2_with fail
  go_ret
  exact ⟨ret_i64 (by unfold wrap64; have := (s[i]).toNat_lt; omega), H.out, ((Only.refl _ _).drewN _).drewN _⟩
set_option maxHeartbeats 1000000 in
theorem here_end (W : World) (b : Nat) (s : ByteArray) (i : Nat) (e : Int) (hs : s.size ≤ 140737488351232) (hi : ¬ i < s.size) (h : PAt W b s i 1 e) :
    Calls Tryd.prog 56 #[.pointer (some ⟨b, 0, none⟩)] W (IntOk b (-1) (fun W' => PAt W' b s i 0 e) W) := by
  obtain ⟨⟨h0, h1, h2, h3⟩, f1, f2, f3⟩ := h.cells
  have hi' : (s.size : Int) ≤ (i : Int) := by omega
  have H := Aside0.mk h
  clear h hi
  go_enter Tryd.func56, Tryd.ntmps56
  go_wp2_with fail
  go_quiet (fail)
  go_wp2_with fail
  go_ret
  exact ⟨rfl, (H.out.drewN _).set2 0, ((Only.refl _ _).drewN _).set 2 _⟩
set_option maxHeartbeats 1000000 in
theorem here_bad (W : World) (b : Nat) (s : ByteArray) (i e : Int) (k : Nat) (h : PAt W b s i (wh k) e) :
    Calls Tryd.prog 56 #[.pointer (some ⟨b, 0, none⟩)] W (IntOk b (-1) (fun W' => PAt W' b s i (wh k) e) W) := by
  obtain ⟨⟨h0, h1, h2, h3⟩, f1, f2, f3⟩ := h.cells
  have hw := wh_ne k
  have H := Aside0.mk h
  clear h
  go_enter Tryd.func56, Tryd.ntmps56
  go_wp2_with fail
  go_ret
  exact ⟨rfl, H.out, Only.refl _ _⟩
structure UnitOk (b : Nat) (P : World → Prop) (W : World) (e : Ending) (W' : World) : Prop where
  end_ : e = .returned (.tuple #[])
  at_ : P W'
  only : Only b W W'
set_option maxHeartbeats 1000000 in
theorem bad_any (W : World) (b : Nat) (s : ByteArray) (i y e : Int) (h : PAt W b s i y e) :
    Calls Tryd.prog 62 #[.pointer (some ⟨b, 0, none⟩), .int .i64 2] W (UnitOk b (fun W' => PAt W' b s i 2 2) W) := by
  obtain ⟨⟨h0, h1, h2, h3⟩, f1, f2, f3⟩ := h.cells
  have H := Aside0.mk h
  clear h
  go_enter Tryd.func62, Tryd.ntmps62
  go_wp2_with fail
  go_end0
  exact ⟨rfl, (H.out.set2 2).set3 2, ((Only.refl _ _).set 2 _).set 3 _⟩
/-- The place, good at i with a reading's result ahead, or bad. -/
def PAhead {α : Type} (b : Nat) (s : ByteArray) (i : Nat) (p R : Res α) (W : World) : Prop := (PGood W b s i ∧ p = R) ∨ ∃ k, PBad W b k ∧ R = .no k
theorem pgood_lt {W : World} {b : Nat} {s : ByteArray} {i : Nat} (h : PGood W b s i) : b < W.heap.size := by obtain ⟨e, h⟩ := h; exact blk_lt h
theorem PAhead.lt {α : Type} {b : Nat} {s : ByteArray} {i : Nat} {p R : Res α} {W : World} (h : PAhead b s i p R W) : b < W.heap.size := by
  rcases h with ⟨h, _⟩ | ⟨k, ⟨_, _, _, h⟩, _⟩
  · exact pgood_lt h
  · exact blk_lt h
set_option maxHeartbeats 2000000 in
theorem must_any (W : World) (b : Nat) (s : ByteArray) (c : UInt8) (i : Nat) (R : Res Unit) (hs : s.size ≤ 140737488351232) (h : PAhead b s i (expect s [c] i) R W) :
    Calls Tryd.prog 76 #[.pointer (some ⟨b, 0, none⟩), .int .i64 c.toNat] W (UnitOk b (fun W' => PLeaves W' b s R) W) := by
  rcases h with ⟨⟨e0, h⟩, e⟩ | ⟨k, ⟨s', i', e0, h⟩, e⟩
  · have H := Aside0.mk h
    rw [expect] at e
    by_cases hi : i < s.size
    · rw [dif_pos hi] at e
      by_cases hc : s[i] = c
      · rw [if_pos hc, expect] at e
        have HR := Aside0.mk e.symm
        have hcb : (((s[i]).toNat : Int) != (c.toNat : Int)) = false := u8_eq hc
        clear e hc h
        go_enter Tryd.func76, Tryd.ntmps76
        go_wp2_with (go_at_call 56; refine (here_some _ b s i e0 hs hi H.out).mono ?_; rintro e w1 ⟨rfl, ha1, ho1⟩; obtain ⟨⟨h0, h1, h2, h3⟩, f1, f2, f3⟩ := PAt.cells ha1; have HA1 := Aside0.mk ha1; have HO1 := Aside0.mk ho1; clear ha1 ho1)
        go_end0
        exact ⟨rfl, by rw [HR.out]; exact ⟨e0, HA1.out.set1 _⟩, HO1.out.set 1 _⟩
      · rw [if_neg hc] at e
        have HR := Aside0.mk e.symm
        have hcb : (((s[i]).toNat : Int) != (c.toNat : Int)) = true := u8_ne hc
        clear e hc h
        go_enter Tryd.func76, Tryd.ntmps76
        go_wp2_with (first | (go_at_call 56; refine (here_some _ b s i e0 hs hi H.out).mono ?_; rintro e w1 ⟨rfl, ha1, ho1⟩; obtain ⟨⟨h0, h1, h2, h3⟩, f1, f2, f3⟩ := PAt.cells ha1; have HA1 := Aside0.mk ha1; have HO1 := Aside0.mk ho1; clear ha1 ho1) | (go_at_call 62; refine (bad_any _ b s _ _ _ HA1.out).mono ?_; rintro e w2 ⟨rfl, ha2, ho2⟩; have HA2 := Aside0.mk ha2; have HO2 := Aside0.mk ho2; clear ha2 ho2))
        go_end0
        exact ⟨rfl, by rw [HR.out]; exact ⟨s, i, 2, HA2.out⟩, HO1.out.trans HO2.out⟩
    · rw [dif_neg hi] at e
      have HR := Aside0.mk e.symm
      have HI := Aside0.mk hi
      clear e h hi
      go_enter Tryd.func76, Tryd.ntmps76
      go_wp2_with (go_at_call 56; refine (here_end _ b s i e0 hs HI.out H.out).mono ?_; rintro e w1 ⟨rfl, ha1, ho1⟩; obtain ⟨⟨h0, h1, h2, h3⟩, f1, f2, f3⟩ := PAt.cells ha1; have HA1 := Aside0.mk ha1; have HO1 := Aside0.mk ho1; clear ha1 ho1)
      go_end0
      exact ⟨rfl, by rw [HR.out]; exact ⟨s, i, e0, HA1.out⟩, HO1.out⟩
  · have H := Aside0.mk h
    have HR := Aside0.mk e
    have hw := wh_ne k
    clear e h
    go_enter Tryd.func76, Tryd.ntmps76
    go_wp2_with (go_at_call 56; refine (here_bad _ b s' i' e0 k H.out).mono ?_; rintro e w1 ⟨rfl, ha1, ho1⟩; obtain ⟨⟨h0, h1, h2, h3⟩, f1, f2, f3⟩ := PAt.cells ha1; have HA1 := Aside0.mk ha1; have HO1 := Aside0.mk ho1; clear ha1 ho1)
    go_end0
    exact ⟨rfl, by rw [HR.out]; exact ⟨s', i', e0, HA1.out⟩, HO1.out⟩
theorem must_13 (W : World) (b : Nat) (s : ByteArray) (i : Nat) (R : Res Unit) (hs : s.size ≤ 140737488351232) (h : PAhead b s i (expect s [13] i) R W) :
    Calls Tryd.prog 76 #[.pointer (some ⟨b, 0, none⟩), .int .i64 13] W (UnitOk b (fun W' => PLeaves W' b s R) W) := must_any W b s 13 i R hs h
theorem must_10 (W : World) (b : Nat) (s : ByteArray) (i : Nat) (R : Res Unit) (hs : s.size ≤ 140737488351232) (h : PAhead b s i (expect s [10] i) R W) :
    Calls Tryd.prog 76 #[.pointer (some ⟨b, 0, none⟩), .int .i64 10] W (UnitOk b (fun W' => PLeaves W' b s R) W) := must_any W b s 10 i R hs h
theorem must_49 (W : World) (b : Nat) (s : ByteArray) (i : Nat) (R : Res Unit) (hs : s.size ≤ 140737488351232) (h : PAhead b s i (expect s [49] i) R W) :
    Calls Tryd.prog 76 #[.pointer (some ⟨b, 0, none⟩), .int .i64 49] W (UnitOk b (fun W' => PLeaves W' b s R) W) := must_any W b s 49 i R hs h
/-- What must come behind a reading. -/
def nextR {α β : Type} (R : Res α) (f : α → Nat → Res β) : Res β := match R with
  | .ok a i => f a i
  | .no k => .no k
theorem expect_cons (s : ByteArray) (c : UInt8) (l : List UInt8) (i : Nat) : expect s (c :: l) i = (nextR (expect s [c] i) fun _ j => expect s l j) := by
  rw [expect, expect]
  split
  · split
    · rw [expect]; rfl
    · rfl
  · rfl
theorem pahead_of {α β : Type} {b : Nat} {s : ByteArray} {W : World} {R : Res α} (f : α → Nat → Res β) (h : PLeaves W b s R) : ∀ S : Res β, (nextR R f = S) → (∃ a j, R = .ok a j ∧ PAhead b s j (f a j) S W) ∨ ∃ k, R = .no k ∧ PBad W b k ∧ S = .no k := by
  intro S hS
  cases R with
  | ok a j => exact .inl ⟨a, j, rfl, .inl ⟨h, hS⟩⟩
  | no k => exact .inr ⟨k, rfl, h, hS.symm⟩
theorem pahead_next {α : Type} {b : Nat} {s : ByteArray} {W : World} {R : Res Unit} {S : Res α} (i0 : Nat) (p : Nat → Res α) (h : PLeaves W b s R) (hS : (nextR R fun _ j => p j) = S) : ∃ j, PAhead b s j (p j) S W := by
  cases R with
  | ok a j => exact ⟨j, .inl ⟨h, hS⟩⟩
  | no k => exact ⟨i0, .inr ⟨k, h, hS.symm⟩⟩
set_option maxHeartbeats 2000000 in
theorem crlf_any (W : World) (b : Nat) (s : ByteArray) (i : Nat) (R : Res Unit) (hs : s.size ≤ 140737488351232) (h : PAhead b s i (expect s [13, 10] i) R W) :
    Calls Tryd.prog 59 #[.pointer (some ⟨b, 0, none⟩)] W (UnitOk b (fun W' => PLeaves W' b s R) W) := by
  have hx : ∃ R1, PAhead b s i (expect s [13] i) R1 W ∧ (nextR R1 fun _ j => expect s [10] j) = R := by
    rcases h with ⟨h, e⟩ | ⟨k, h, e⟩
    · exact ⟨_, .inl ⟨h, rfl⟩, (expect_cons s 13 [10] i).symm.trans e⟩
    · exact ⟨.no k, .inr ⟨k, h, rfl⟩, e.symm⟩
  obtain ⟨R1, h1, h2⟩ := hx
  have H1 := Aside0.mk h1
  have H2 := Aside0.mk h2
  clear h h1 h2
  go_enter Tryd.func59, Tryd.ntmps59
  go_wp2_with fail
  refine (must_13 _ b s i R1 hs H1.out).mono ?_
  rintro e w1 ⟨rfl, ha1, ho1⟩
  obtain ⟨j, hj⟩ := pahead_next i _ ha1 H2.out
  go_wp2_with fail
  refine (must_10 _ b s j R hs hj).mono ?_
  rintro e w2 ⟨rfl, ha2, ho2⟩
  go_wp2_with fail
  go_end0
  exact ⟨rfl, ha2, ho1.trans ho2⟩
end Go.Proofs.YtbdfjiobegadjaaDoor.Pl
