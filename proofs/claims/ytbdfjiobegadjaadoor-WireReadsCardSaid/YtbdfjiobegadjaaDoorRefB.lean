/- The walks of the document's reader: a word, a command with its star. -/
import Derived.Test.YtbdfjiobegadjaaDoorRefA
import Derived.Test.YtbdfjiobegadjaaDoorReadV
import Derived.Deep.LoopGhost
namespace Go.Proofs.YtbdfjiobegadjaaDoor.Rf
open Go Go.RowKit Go.Proofs.YtbdfjiobegadjaaDoor.Tk Go.Proofs.YtbdfjiobegadjaaDoor.Pl Go.Proofs.YtbdfjiobegadjaaDoor.Rd Go.Proofs.YtbdfjiobegadjaaDoor.PWireMemory Go.Proofs.YtbdfjiobegadjaaDoorW.PrintWords Go.Proofs.YtbdfjiobegadjaaDoorW.PrintLast Go.Proofs.YtbdfjiobegadjaaDoorW.PrintMore
set_option linter.unusedVariables false
set_option linter.unusedSectionVars false
set_option linter.unusedSimpArgs false
def numS (s : ByteArray) (i : Nat) : Res Nat := numF s (s.size - i) 0 0 i
/-- A word from i on. -/
def wordR (s : ByteArray) (i : Nat) : Res ByteArray := match expect s [36] i with
  | .no k => .no k
  | .ok _ j => match numS s j with
    | .no k => .no k
    | .ok n j => if 65536 < n then .no 2 else if s.size < j + n then .no 3 else (expect s [13, 10] (j + n)).as (s.extract j (j + n))
/-- So many words. -/
def wordsR (s : ByteArray) : Nat → Nat → Res (List ByteArray)
  | 0, i => .ok [] i
  | n + 1, i => match wordR s i with
    | .no k => .no k
    | .ok w j => (wordsR s n j).map (fun l => w :: l)
def arrN (s : ByteArray) (n j : Nat) : Res (List ByteArray) := if n = 0 then .no 1 else if 16 < n then .no 2 else wordsR s n j
def arrayR (s : ByteArray) (i : Nat) : Res (List ByteArray) := nextR (nextR (expect s [42] i) fun _ j => numS s j) (arrN s)
theorem numF_le {s : ByteArray} : ∀ {f n many i a j : Nat}, numF s f n many i = .ok a j → i + f = s.size → j ≤ s.size
  | 0, _, _, _, _, _, h, _ => by cases h
  | f + 1, n, many, i, a, j, h, hf => by
    rw [numF] at h
    split at h
    · obtain ⟨_, u, hu⟩ := as_ok h
      exact (expect_le hu (by omega)).2
    · split at h
      · cases h
      · exact numF_le h (by omega)
theorem numS_le {s : ByteArray} {i a j : Nat} (h : numS s i = .ok a j) (hi : i ≤ s.size) : j ≤ s.size := numF_le h (by omega)
theorem numF_lt {s : ByteArray} : ∀ {f n many i a j : Nat}, numF s f n many i = .ok a j → n < 10 ^ many → many ≤ 6 → a < 1000000
  | 0, _, _, _, _, _, h, _, _ => by cases h
  | f + 1, n, many, i, a, j, h, hn, hm => by
    rw [numF] at h
    split at h
    · obtain ⟨e, _⟩ := as_ok h
      rw [e]
      exact Nat.lt_of_lt_of_le hn (Nat.pow_le_pow_right (by omega) hm)
    · split at h
      · cases h
      · rename_i hno
        exact numF_lt h (by rw [Nat.pow_succ]; omega) (by omega)
theorem numS_lt {s : ByteArray} {i a j : Nat} (h : numS s i = .ok a j) : a < 1000000 := numF_lt h (by omega) (by omega)
theorem number_any (W : World) (b : Nat) (s : ByteArray) (R : Res Nat) (hs : s.size ≤ 140737488351232) (h : RAhead b s (numS s) R W) :
    Calls Tryd.prog 80 #[.pointer (some ⟨b, 0, none⟩)] W (NumOk b s R W) := by
  cases h with
  | good i e0 hi h e => rw [← e]; exact number_good W b s i e0 hs hi h
  | bad k h e => rw [e]; exact number_bad W b k s h
theorem must_36 (W : World) (b : Nat) (s : ByteArray) (R : Res Unit) (hs : s.size ≤ 140737488351232) (h : RAhead b s (expect s [36]) R W) :
    Calls Tryd.prog 76 #[.pointer (some ⟨b, 0, none⟩), .int .i64 36] W (UnitOk b (fun W' => RLeaves W' b s R) W) := must_any W b s 36 R hs h
theorem must_42 (W : World) (b : Nat) (s : ByteArray) (R : Res Unit) (hs : s.size ≤ 140737488351232) (h : RAhead b s (expect s [42]) R W) :
    Calls Tryd.prog 76 #[.pointer (some ⟨b, 0, none⟩), .int .i64 42] W (UnitOk b (fun W' => RLeaves W' b s R) W) := must_any W b s 42 R hs h
theorem must_13 (W : World) (b : Nat) (s : ByteArray) (R : Res Unit) (hs : s.size ≤ 140737488351232) (h : RAhead b s (expect s [13]) R W) :
    Calls Tryd.prog 76 #[.pointer (some ⟨b, 0, none⟩), .int .i64 13] W (UnitOk b (fun W' => RLeaves W' b s R) W) := must_any W b s 13 R hs h
theorem expect_one_le {s : ByteArray} {c : UInt8} {i j : Nat} {u : Unit} (h : expect s [c] i = .ok u j) (hi : i ≤ s.size) : j ≤ s.size := (expect_le h hi).2
/-- From a step's leavings to the next step. -/
theorem rahead_next {α β : Type} {b : Nat} {s : ByteArray} {W : World} {R : Res α} {p : Nat → Res β} (h : RLeaves W b s R) (hle : ∀ a j, R = .ok a j → j ≤ s.size) : RAhead b s p (nextR R fun _ j => p j) W := by
  cases R with
  | ok a j =>
    obtain ⟨e, h⟩ := h
    exact .good j e (hle a j rfl) h rfl
  | no k => exact .bad k h rfl
structure WordOk (b : Nat) (s : ByteArray) (R : Res ByteArray) (W : World) (e : Ending) (W' : World) : Prop where
  end_ : ∃ v : ByteArray, e = .returned (.string v) ∧ ∀ w j, R = .ok w j → v = w
  at_ : RLeaves W' b s R
  only : Only b W W'
set_option maxHeartbeats 2000000 in
set_option maxRecDepth 100000 in
theorem word_bad (W : World) (b k : Nat) (s : ByteArray) (hs : s.size ≤ 140737488351232) (h : RBad W b k) : Calls Tryd.prog 81 #[.pointer (some ⟨b, 0, none⟩)] W (WordOk b s (.no k) W) := by
  have H := Aside0.mk h
  clear h
  have hw := wh_eq k
  have hw2 := wh_ne k
  go_enter Tryd.func81, Tryd.ntmps81
  go_wp2_with fail
  go_at_call 76
  refine (must_36 _ b s (.no k) hs (.bad k H.out rfl)).mono ?_
  rintro e w1 ⟨rfl, ha1, ho1⟩
  have HO1 := Aside0.mk ho1
  clear ho1
  go_wp2_with fail
  go_at_call 80
  refine (number_any _ b s (.no k) hs (.bad k ha1 rfl)).mono ?_
  rintro e w2 ⟨⟨v, rfl, _⟩, ha2, ho2⟩
  have HO2 := Aside0.mk (HO1.out.trans ho2)
  obtain ⟨s', i', e0, h, hk⟩ := ha2
  obtain ⟨⟨h0, h1, h2, h3⟩, f1, f2, f3⟩ := h.cells
  have HA := Aside0.mk h
  have HK := Lib.hid hk
  clear ha1 ho2 h hk
  go_wp2_with fail
  go_ret
  exact ⟨⟨_, rfl, fun w j h => by cases h⟩, ⟨s', i', e0, HA.out, HK.out⟩, HO2.out⟩
set_option maxHeartbeats 2000000 in
set_option maxRecDepth 100000 in
theorem word_good (W : World) (b : Nat) (s : ByteArray) (i0 : Nat) (e0 : Int) (hs : s.size ≤ 140737488351232) (hi0 : i0 ≤ s.size) (h : PAt W b s i0 1 e0) :
    Calls Tryd.prog 81 #[.pointer (some ⟨b, 0, none⟩)] W (WordOk b s (wordR s i0) W) := by
  generalize hR : wordR s i0 = R
  have HR := Lib.hid hR
  have H := Aside0.mk h
  clear h hR
  go_enter Tryd.func81, Tryd.ntmps81
  go_wp2_with fail
  go_at_call 76
  refine (must_36 _ b s _ hs (.good i0 e0 hi0 H.out rfl)).mono ?_
  rintro e w1 ⟨rfl, ha1, ho1⟩
  have HO1 := Aside0.mk ho1
  have HA1 := Aside0.mk ha1
  clear ho1 ha1
  cases hx : expect s [36] i0 with
  | no k =>
    have hRR := Lib.hid (show R = .no k by rw [← HR.out, wordR, hx])
    rw [hx] at HA1
    have hw := wh_eq k
    have hw2 := wh_ne k
    clear hx
    go_wp2_with fail
    go_at_call 80
    refine (number_any _ b s (.no k) hs (.bad k HA1.out rfl)).mono ?_
    rintro e w2 ⟨⟨v, rfl, _⟩, ha2, ho2⟩
    have HO2 := Aside0.mk (HO1.out.trans ho2)
    obtain ⟨s', i', e0, h, hk⟩ := ha2
    obtain ⟨⟨h0, h1, h2, h3⟩, f1, f2, f3⟩ := h.cells
    have HA := Aside0.mk h
    have HK := Lib.hid hk
    clear ho2 h hk
    go_wp2_with fail
    go_ret
    exact ⟨⟨_, rfl, fun w j h => by rw [hRR.out] at h; cases h⟩, by rw [hRR.out]; exact ⟨s', i', e0, HA.out, HK.out⟩, HO2.out⟩
  | ok u j =>
    have hj := expect_one_le hx hi0
    rw [hx] at HA1
    obtain ⟨e1, h1⟩ := HA1.out
    have HP1 := Aside0.mk h1
    have hw0 : wordR s i0 = match numS s j with
      | .no k => .no k
      | .ok n j => if 65536 < n then .no 2 else if s.size < j + n then .no 3 else (expect s [13, 10] (j + n)).as (s.extract j (j + n)) := by rw [wordR, hx]
    clear hx h1 HA1
    cases hn : numS s j with
    | no k =>
      have hRR := Lib.hid (show R = .no k by rw [← HR.out, hw0, hn])
      have hn' := Lib.hid hn
      have hw := wh_eq k
      have hw2 := wh_ne k
      clear hw0 hn
      go_wp2_with fail
      go_at_call 80
      refine (number_any _ b s _ hs (.good j e1 hj HP1.out rfl)).mono ?_
      rw [hn'.out]
      rintro e w2 ⟨⟨v, rfl, _⟩, ha2, ho2⟩
      have HO2 := Aside0.mk (HO1.out.trans ho2)
      obtain ⟨s', i', e0, h, hk⟩ := ha2
      obtain ⟨⟨h0, h1, h2, h3⟩, f1, f2, f3⟩ := h.cells
      have HA := Aside0.mk h
      have HK := Lib.hid hk
      clear ho2 h hk
      go_wp2_with fail
      go_ret
      exact ⟨⟨_, rfl, fun w j h => by rw [hRR.out] at h; cases h⟩, by rw [hRR.out]; exact ⟨s', i', e0, HA.out, HK.out⟩, HO2.out⟩
    | ok n j2 =>
      have hj2 := numS_le hn hj
      have hnl := numS_lt hn
      have hn' := Lib.hid hn
      rw [hn] at hw0
      simp only at hw0
      clear hn
      by_cases hbig : 65536 < n
      · have hRR := Lib.hid (show R = .no 2 by rw [← HR.out, hw0, if_pos hbig])
        have k1 : (65536 : Int) < (n : Int) := by omega
        clear hw0 hbig
        go_wp2_with fail
        go_at_call 80
        refine (number_any _ b s _ hs (.good j e1 hj HP1.out rfl)).mono ?_
        rw [hn'.out]
        rintro e w2 ⟨⟨v, rfl, hv⟩, ⟨e2, h⟩, ho2⟩
        obtain rfl := hv n j2 rfl
        have HO2 := Aside0.mk (HO1.out.trans ho2)
        obtain ⟨⟨h0, h1, h2, h3⟩, f1, f2, f3⟩ := h.cells
        have HA := Aside0.mk h
        clear ho2 h hv
        go_wp2_with fail
        go_at_call 62
        refine (bad_3 _ b s _ _ _ HA.out).mono ?_
        rintro e w3 ⟨rfl, ha3, ho3⟩
        obtain ⟨⟨h0, h1, h2, h3⟩, f1, f2, f3⟩ := ha3.cells
        have HA3 := Aside0.mk ha3
        have HO3 := Aside0.mk (HO2.out.trans ho3)
        clear ha3 ho3
        go_wp2_with fail
        go_ret
        exact ⟨⟨_, rfl, fun w j h => by rw [hRR.out] at h; cases h⟩, by rw [hRR.out]; exact rbad_2 HA3.out, HO3.out⟩
      · have k1 : ¬ (65536 : Int) < (n : Int) := by omega
        rw [if_neg hbig] at hw0
        by_cases hsh : s.size < j2 + n
        · have hRR := Lib.hid (show R = .no 3 by rw [← HR.out, hw0, if_pos hsh])
          have k2 : (s.size : Int) < (j2 : Int) + (n : Int) := by omega
          have k3 : IntKind.i64.wrap ((j2 : Int) + (n : Int)) = (j2 : Int) + (n : Int) := IntWalk.i64_in _ (by omega)
          clear hw0 hbig hsh
          go_wp2_with fail
          go_at_call 80
          refine (number_any _ b s _ hs (.good j e1 hj HP1.out rfl)).mono ?_
          rw [hn'.out]
          rintro e w2 ⟨⟨v, rfl, hv⟩, ⟨e2, h⟩, ho2⟩
          obtain rfl := hv n j2 rfl
          have HO2 := Aside0.mk (HO1.out.trans ho2)
          obtain ⟨⟨h0, h1, h2, h3⟩, f1, f2, f3⟩ := h.cells
          have HA := Aside0.mk h
          clear ho2 h hv
          go_wp2_with fail
          go_quiet (fail)
          go_wp2_with fail
          go_ret
          exact ⟨⟨_, rfl, fun w j h => by rw [hRR.out] at h; cases h⟩, by rw [hRR.out]; exact rbad_3 ((HA.out.drewN _).set2 0), (HO2.out.drewN _).set 2 _⟩
        · rw [if_neg hsh] at hw0
          have hRR := Lib.hid (show R = (nextR (expect s [13] (j2 + n)) fun _ j => expect s [10] j).as (s.extract j2 (j2 + n)) by
            rw [← HR.out, hw0, expect_cons s 13 [10]])
          have k2 : ¬ (s.size : Int) < (j2 : Int) + (n : Int) := by omega
          have k3 : IntKind.i64.wrap ((j2 : Int) + (n : Int)) = (j2 : Int) + (n : Int) := IntWalk.i64_in _ (by omega)
          have k4 : (0 : Int) ≤ (j2 : Int) + (n : Int) := by omega
          have k5 : (j2 : Int) ≤ (j2 : Int) + (n : Int) := by omega
          have k6 : ((j2 : Int) + (n : Int)).toNat = j2 + n := by omega
          have HK := Lib.hid (show j2 + n ≤ s.size by omega)
          have HSUM := Lib.hid (show (j2 : Int) + (n : Int) = ((j2 + n : Nat) : Int) by omega)
          clear hw0 hbig hsh
          go_wp2_with fail
          go_at_call 80
          refine (number_any _ b s _ hs (.good j e1 hj HP1.out rfl)).mono ?_
          rw [hn'.out]
          rintro e w2 ⟨⟨v, rfl, hv⟩, ⟨e2, h⟩, ho2⟩
          obtain rfl := hv n j2 rfl
          have HO2 := Aside0.mk (HO1.out.trans ho2)
          obtain ⟨⟨h0, h1, h2, h3⟩, f1, f2, f3⟩ := h.cells
          have HA := Aside0.mk h
          clear ho2 h hv
          go_wp2_with fail
          go_quiet (fail)
          go_wp2_with fail
          go_quiet (fail)
          go_wp2_with fail
          go_at_call 76
          refine (must_13 _ b s _ hs (.good (j2 + n) e2 HK.out (by rw [← HSUM.out]; exact ((HA.out.drewN _).set1 _)) rfl)).mono ?_
          rintro e w3 ⟨rfl, ha3, ho3⟩
          have HA3 := Aside0.mk (rahead_next (p := expect s [10]) ha3 (fun a j h => expect_one_le h HK.out))
          have HO3 := Aside0.mk (((HO2.out.drewN _).set 1 _).trans ho3)
          clear ha3 ho3
          go_wp2_with fail
          go_at_call 76
          refine (must_lf _ b s _ hs HA3.out).mono ?_
          rintro e w4 ⟨rfl, ha4, ho4⟩
          have HA4 := Aside0.mk ha4
          have HO4 := Aside0.mk (HO3.out.trans ho4)
          clear ha4 ho4
          go_wp2_with fail
          go_ret
          refine ⟨⟨_, rfl, fun w j h => ?_⟩, by rw [hRR.out]; exact rleaves_as _ HA4.out, HO4.out⟩
          rw [hRR.out] at h
          exact (as_ok h).1.symm
theorem word_any (W : World) (b : Nat) (s : ByteArray) (R : Res ByteArray) (hs : s.size ≤ 140737488351232) (h : RAhead b s (wordR s) R W) :
    Calls Tryd.prog 81 #[.pointer (some ⟨b, 0, none⟩)] W (WordOk b s R W) := by
  cases h with
  | good i e0 hi h e => rw [← e]; exact word_good W b s i e0 hs hi h
  | bad k h e => rw [e]; exact word_bad W b k s hs h
theorem wordR_le {s : ByteArray} {i j : Nat} {w : ByteArray} (h : wordR s i = .ok w j) (hi : i ≤ s.size) : j ≤ s.size := by
  unfold wordR at h
  split at h
  · cases h
  · rename_i u j1 h1
    have l1 := expect_one_le h1 hi
    split at h
    · cases h
    · rename_i n j2 h2
      have l2 := numS_le h2 l1
      split at h
      · cases h
      · split at h
        · cases h
        · obtain ⟨_, u, hu⟩ := as_ok h
          exact (expect_le hu (by omega)).2
structure ListOk (b : Nat) (s : ByteArray) (R : Res (List ByteArray)) (W : World) (e : Ending) (W' : World) : Prop where
  end_ : ∃ v : Value, e = .returned v ∧ ∃ l, Kd.string.R 9 W' W.heap.size (fun _ => True) v l ∧ ∀ w j, R = .ok w j → l = w
  at_ : RLeaves W' b s R
  only : Only b W W'
/-- At the head of each round of 'array': i words are there, those up to v are to come. -/
inductive AR (b : Nat) (s : ByteArray) (R : Res (List ByteArray)) (v : Int) (i : Nat) (xs : List ByteArray) (W : World) : Prop
  | good (n j : Nat) (e : Int) (hv : v = (i : Int) + n) (hn : i + n ≤ 16) (hj : j ≤ s.size) (h : PAt W b s j 1 e) (e : (wordsR s n j).map (fun l => xs ++ l) = R) : AR b s R v i xs W
  | bad (k : Nat) (h : RBad W b k) (e : R = .no k) : AR b s R v i xs W
theorem AR.next {b : Nat} {s : ByteArray} {R : Res (List ByteArray)} {v : Int} {i n j : Nat} {xs : List ByteArray} {w : ByteArray} {W : World} (hj : j ≤ s.size) (hv : v = (i : Int) + ((n + 1 : Nat) : Int)) (hn : i + (n + 1) ≤ 16) (e : (wordsR s (n + 1) j).map (fun l => xs ++ l) = R)
    (hw : ∀ w' j', wordR s j = .ok w' j' → w = w') (h : RLeaves W b s (wordR s j)) : AR b s R v (i + 1) (xs ++ [w]) W := by
  rw [wordsR] at e
  cases hx : wordR s j with
  | no k =>
    rw [hx] at e h
    exact .bad k h e.symm
  | ok w' j' =>
    rw [hx] at e h
    obtain rfl := hw w' j' hx
    obtain ⟨e2, h⟩ := h
    refine .good n j' e2 (by omega) (by omega) (wordR_le hx hj) h ?_
    rw [← e]
    cases hy : wordsR s n j' <;> simp [Res.map, hy]
theorem own_ge {base : Nat} {W : World} {v : Value} {xs : List ByteArray} (h : Kd.string.R 9 W base (fun _ => True) v xs) {k : Nat} (hk : v.ownBlock = some k) : base ≤ k := by
  obtain ⟨_, inner, ho, _⟩ := h
  exact own_base ho k hk
theorem own_not {base b : Nat} {W : World} {v : Value} {xs : List ByteArray} (h : Kd.string.R 9 W base (fun _ => True) v xs) (hb : b < base) : v.ownBlock ≠ some b := fun e => by have := own_ge h e; omega
theorem R_str_only {base b : Nat} {W W' : World} {v : Value} {xs : List ByteArray} (h : Kd.string.R 9 W base (fun _ => True) v xs) (ho : Only b W W') (hb : b < base) : Kd.string.R 9 W' base (fun _ => True) v xs :=
  Kd.R_mono (Kd.R_keep (Kd.R_bound h) ho.keepBut (fun k hk => by have := hk.2.1; omega)) (fun k hk => hk.1)
theorem Only.grown_new {b : Nat} {a c d : World} (h : Only b a c) {row : Option Nat} (hg : c.grownBy d row) (hr : ∀ k, row = some k → a.heap.size ≤ k) : Only b a d :=
  ⟨hg.os.trans h.os, hg.tape.trans h.tape, hg.output.trans h.output, Nat.le_trans h.size hg.size, fun i hi hb => (hg.block i (Nat.lt_of_lt_of_le hi h.size) (fun e => by have := hr i e.symm; omega)).trans (h.keep i hi hb)⟩
theorem rbad_grown {b k : Nat} {W W' : World} {row : Option Nat} (h : RBad W b k) (hg : W.grownBy W' row) (hb : row ≠ some b) : RBad W' b k := by
  obtain ⟨s, i, e, h, hk⟩ := h
  exact ⟨s, i, e, (hg.block b (blk_lt h) (fun e => hb e.symm)).trans h, hk⟩
theorem rleaves_grown {α : Type} {b : Nat} {s : ByteArray} {R : Res α} {W W' : World} {row : Option Nat} (h : RLeaves W b s R) (hg : W.grownBy W' row) (hb : row ≠ some b) : RLeaves W' b s R := by
  cases R with
  | ok a j => obtain ⟨e, h⟩ := h; exact ⟨e, (hg.block b (blk_lt h) (fun e => hb e.symm)).trans h⟩
  | no k => exact rbad_grown h hg hb
set_option maxHeartbeats 2000000 in
set_option maxRecDepth 100000 in
theorem array_any (W : World) (b : Nat) (s : ByteArray) (i0 : Nat) (e0 : Int) (hs : s.size ≤ 140737488351232) (hi0 : i0 ≤ s.size) (h : PAt W b s i0 1 e0) :
    Calls Tryd.prog 67 #[.pointer (some ⟨b, 0, none⟩)] W (ListOk b s (arrayR s i0) W) := by
  generalize hR : arrayR s i0 = R
  have HR := Lib.hid hR
  have H := Aside0.mk h
  have hbl := blk_lt h
  clear h hR
  go_enter Tryd.func67, Tryd.ntmps67
  go_wp2_with fail
  go_at_call 76
  refine (must_42 _ b s _ hs (.good i0 e0 hi0 H.out rfl)).mono ?_
  rintro e w1 ⟨rfl, ha1, ho1⟩
  have HO1 := Aside0.mk ho1
  have HA1 := Aside0.mk (rahead_next (p := numS s) ha1 (fun a j h => expect_one_le h hi0))
  clear ho1 ha1
  generalize hN : (nextR (expect s [42] i0) fun _ j => numS s j) = RN at HA1
  have HN := Lib.hid (show R = nextR RN (arrN s) by rw [← HR.out, ← hN]; rfl)
  have HNle := Lib.hid (show ∀ n j, RN = .ok n j → j ≤ s.size by
    intro n j h
    rw [← hN] at h
    cases hx : expect s [42] i0 with
    | ok u j1 => rw [hx] at h; exact numS_le h (expect_one_le hx hi0)
    | no k => rw [hx] at h; cases h)
  clear hN
  go_wp2_with fail
  go_at_call 80
  refine (number_any _ b s RN hs HA1.out).mono ?_
  rintro e w2 ⟨⟨v, rfl, hv⟩, ha2, ho2⟩
  have HO2 := Aside0.mk (HO1.out.trans ho2)
  clear ho2
  have hcase : (∃ k, RN = .no k) ∨ (∃ j, RN = .ok 0 j) ∨ (∃ n j, RN = .ok n j ∧ 16 < n) ∨ (∃ n j, RN = .ok n j ∧ 1 ≤ n ∧ n ≤ 16) := by
    cases RN with
    | no k => exact .inl ⟨k, rfl⟩
    | ok n j =>
      by_cases h0 : n = 0
      · subst h0; exact .inr (.inl ⟨j, rfl⟩)
      · by_cases h16 : 16 < n
        · exact .inr (.inr (.inl ⟨n, j, rfl, h16⟩))
        · exact .inr (.inr (.inr ⟨n, j, rfl, by omega, by omega⟩))
  rcases hcase with ⟨k, hRN⟩ | ⟨j, hRN⟩ | ⟨n, j, hRN, hn⟩ | ⟨n, j, hRN, hn1, hn2⟩
  case' inl =>
    rw [hRN] at ha2
    have hRR := Lib.hid (show R = .no k by rw [HN.out, hRN]; rfl)
    obtain ⟨s', i', e2, h, hk⟩ := ha2
    obtain ⟨⟨h0, h1, h2, h3⟩, f1, f2, f3⟩ := h.cells
    have HAR := Aside0.mk (AR.bad (s := s) (v := v) (i := 0) (xs := []) k ⟨s', i', e2, h, hk⟩ hRR.out)
    have hw := wh_eq k
    clear h hk hRN HN HNle hv hRR
    go_wp2_with fail
  case' inr.inl =>
    rw [hRN] at ha2
    have hRR := Lib.hid (show R = .no 1 by rw [HN.out, hRN]; rfl)
    obtain ⟨e2, h⟩ := ha2
    obtain ⟨⟨h0, h1, h2, h3⟩, f1, f2, f3⟩ := h.cells
    have HA := Aside0.mk h
    have k1 : (v == 0) = true := by rw [hv 0 j hRN]; rfl
    clear h hRN HN HNle hv
    go_wp2_with fail
    go_at_call 62
    refine (bad_2 _ b s _ _ _ HA.out).mono ?_
    rintro e w3 ⟨rfl, ha3, ho3⟩
    obtain ⟨⟨h0, h1, h2, h3⟩, f1, f2, f3⟩ := ha3.cells
    have HAR := Aside0.mk (AR.bad (s := s) (v := v) (i := 0) (xs := []) 1 (rbad_1 ha3) hRR.out)
    replace HO2 := Aside0.mk (HO2.out.trans ho3)
    clear ha3 ho3 hRR HA
    go_wp2_with fail
  case' inr.inr.inl =>
    rw [hRN] at ha2
    have hRR := Lib.hid (show R = .no 2 by rw [HN.out, hRN]; show arrN s n j = _; rw [arrN, if_neg (by omega), if_pos hn])
    obtain ⟨e2, h⟩ := ha2
    obtain ⟨⟨h0, h1, h2, h3⟩, f1, f2, f3⟩ := h.cells
    have HA := Aside0.mk h
    have k1 : (v == 0) = false := by rw [hv n j hRN, beq_eq_false_iff_ne]; omega
    have k2 : (16 : Int) < v := by rw [hv n j hRN]; omega
    clear h hRN HN HNle hv hn
    go_wp2_with fail
    go_at_call 62
    refine (bad_3 _ b s _ _ _ HA.out).mono ?_
    rintro e w3 ⟨rfl, ha3, ho3⟩
    obtain ⟨⟨h0, h1, h2, h3⟩, f1, f2, f3⟩ := ha3.cells
    have HAR := Aside0.mk (AR.bad (s := s) (v := v) (i := 0) (xs := []) 2 (rbad_2 ha3) hRR.out)
    replace HO2 := Aside0.mk (HO2.out.trans ho3)
    clear ha3 ho3 hRR HA k1 k2
    go_wp2_with fail
  case' inr.inr.inr =>
    rw [hRN] at ha2
    have hRR := Lib.hid (show (wordsR s n j).map (fun l => [] ++ l) = R by
      rw [HN.out, hRN]
      show _ = arrN s n j
      rw [arrN, if_neg (by omega), if_neg (by omega)]
      cases wordsR s n j <;> rfl)
    have hj := HNle.out n j hRN
    obtain ⟨e2, h⟩ := ha2
    obtain ⟨⟨h0, h1, h2, h3⟩, f1, f2, f3⟩ := h.cells
    have hvn := hv n j hRN
    have HAR := Aside0.mk (AR.good (v := v) (i := 0) (xs := []) n j e2 (by rw [hvn]; simp) (by omega) hj h hRR.out)
    have k1 : (v == 0) = false := by rw [hvn, beq_eq_false_iff_ne]; omega
    have k2 : ¬ (16 : Int) < v := by rw [hvn]; omega
    clear h hRN HN HNle hv hRR hn1 hn2 hj hvn
    go_wp2_with fail
  all_goals
    go_loopw [4, 5] (fun v4 v5 W' => ∃ (i : Nat) (xs : List ByteArray), v5 = .int .i64 i ∧ i ≤ 16 ∧ xs.length = i ∧ Aside0 (AR b s R v i xs W') ∧ Aside0 (Kd.string.R 9 W' W.heap.size (fun _ => True) v4 xs) ∧ Aside0 (Only b W W')) (fun _ v5 _ => 17 - (intOf v5).toNat)
    case atStart => exact ⟨0, [], rfl, by omega, rfl, HAR, ⟨Kd.R_nil _ _ _ _ _⟩, HO2⟩
    case round =>
      clear HAR
      obtain ⟨i, xs, rfl, hi, hxl, HAR, HXS, HO⟩ := hrel
      cases HAR.out with
      | bad k h e =>
        obtain ⟨s', i', e2, h, hk⟩ := h
        obtain ⟨⟨h0, h1, h2, h3⟩, f1, f2, f3⟩ := h.cells
        have HA := Aside0.mk (show RBad wr b k from ⟨s', i', e2, h, hk⟩)
        have HE := Lib.hid e
        have hw := wh_eq k
        clear h hk e hxl
        by_cases hlt : (i : Int) < v
        · go_wp2_with fail
          go_ret
          exact ⟨⟨_, rfl, xs, HXS.out, fun w j h => by rw [HE.out] at h; cases h⟩, by rw [HE.out]; exact HA.out, HO.out⟩
        · go_wp2_with fail
          go_ret
          exact ⟨⟨_, rfl, xs, HXS.out, fun w j h => by rw [HE.out] at h; cases h⟩, by rw [HE.out]; exact HA.out, HO.out⟩
      | good n j e2 hv hn hj h e =>
        obtain ⟨⟨h0, h1, h2, h3⟩, f1, f2, f3⟩ := h.cells
        have HA := Aside0.mk h
        have HE := Lib.hid e
        cases n with
        | zero =>
          have hlt : ¬ (i : Int) < v := by omega
          have HRR := Lib.hid (show R = .ok xs j by rw [← e]; simp [wordsR, Res.map])
          clear h e hxl hv
          go_wp2_with fail
          go_ret
          exact ⟨⟨_, rfl, xs, HXS.out, fun w j h => by rw [HRR.out] at h; cases h; rfl⟩, by rw [HRR.out]; exact ⟨e2, HA.out⟩, HO.out⟩
        | succ n =>
          have hlt : (i : Int) < v := by omega
          have hvl := Lib.hid hv
          obtain ⟨A, c, rfl⟩ := Kd.R_slice HXS.out
          clear h e hv
          have hxs := Lib.hid hxl
          clear hxl
          go_wp2_with fail
          go_at_call 81
          refine (word_any _ b s _ hs (.good j e2 hj HA.out rfl)).mono ?_
          rintro e w4 ⟨⟨w, rfl, hw⟩, ha4, ho4⟩
          have HA4 := Aside0.mk ha4
          have HW := Lib.hid hw
          have HXS4 := Aside0.mk (R_str_only HXS.out ho4 hbl)
          have HO4 := Aside0.mk (HO.out.trans ho4)
          have hlen : (xs.length + 1) * 16 ≤ 140737488355328 := by rw [hxs.out]; omega
          clear ha4 ho4 hw
          go_wp2_with ((with_reducible refine gate_builtin (b := .append) (xs := #[.tmp 47, .tmp 49]) rfl ?_); at_builtin; refine Kd.R_append Kd.string (w0 := w4) W.heap.size rfl (.tmp 47) (.tmp 49) 45 9 (.string ⟨#[]⟩) 16 rfl Tryd.underlying45 info9 rfl (by decide) (by omega) (.slice A xs.length c) xs w [.string w] (fun _ => True) (fun _ => False) rfl rfl rfl (fun _ hk => hk.elim) (fun _ _ => trivial) HXS4.out (Below.refl _ _) HO4.out.size hlen ?_; intro v5 w5 ho5 hb5 hg5 hat5; have HO5 := Aside0.mk ho5; have HA5 := Aside0.mk (rleaves_grown HA4.out hg5 (own_not HXS4.out hbl)); have HB5 := Aside0.mk (Only.grown_new HO4.out hg5 (fun k hk => own_ge HXS4.out hk)); clear ho5 hb5 hg5 hat5)
          refine ⟨⟨i + 1, xs ++ [w], by go_num, by omega, by rw [List.length_append, hxs.out]; rfl, ⟨?_⟩, HO5, HB5⟩, by simp [intOf]; omega⟩
          exact AR.next hj hvl.out hn HE.out HW.out HA5.out
theorem arrayR_le {s : ByteArray} : ∀ {n i j : Nat} {l : List ByteArray}, wordsR s n i = .ok l j → i ≤ s.size → j ≤ s.size
  | 0, i, j, l, h, hi => by simp only [wordsR, Res.ok.injEq] at h; omega
  | n + 1, i, j, l, h, hi => by
    rw [wordsR] at h
    split at h
    · cases h
    · rename_i w j1 h1
      obtain ⟨y, hy, _⟩ := map_ok h
      exact arrayR_le hy (wordR_le h1 hi)
end Go.Proofs.YtbdfjiobegadjaaDoor.Rf
/- The walks of the document's reader: a plain line, its words. -/
namespace Go.Proofs.YtbdfjiobegadjaaDoor.Rf
open Go Go.RowKit Go.Proofs.YtbdfjiobegadjaaDoor.Tk Go.Proofs.YtbdfjiobegadjaaDoor.Pl Go.Proofs.YtbdfjiobegadjaaDoor.Rd Go.Proofs.YtbdfjiobegadjaaDoor.PWireMemory Go.Proofs.YtbdfjiobegadjaaDoorW.PrintWords Go.Proofs.YtbdfjiobegadjaaDoorW.PrintLast Go.Proofs.YtbdfjiobegadjaaDoorW.PrintMore
set_option linter.unusedVariables false
set_option linter.unusedSectionVars false
set_option linter.unusedSimpArgs false
/-- A plain line from i on, behind text. -/
def linR (s : ByteArray) : Nat → List Int → Nat → Res ByteArray
  | 0, _, _ => .no 3
  | f + 1, text, i => if bt s i = 13 then (expect s [10] (i + 1)).as (strOfNums text) else if text.length = 4096 then .no 2
    else if bt s i ≠ 9 ∧ (bt s i < 32 ∨ bt s i = 127) then .no 1 else linR s f (text ++ [bt s i]) (i + 1)
theorem linR_le {s : ByteArray} : ∀ {f : Nat} {text : List Int} {i : Nat} {w : ByteArray} {j : Nat}, linR s f text i = .ok w j → i + f = s.size → j ≤ s.size
  | 0, _, _, _, _, h, _ => by cases h
  | f + 1, text, i, w, j, h, hf => by
    rw [linR] at h
    split at h
    · obtain ⟨_, u, hu⟩ := as_ok h
      exact (expect_le hu (by omega)).2
    · split at h
      · cases h
      · split at h
        · cases h
        · exact linR_le h (by omega)
theorem R_int_only {base b : Nat} {W W' : World} {v : Value} {xs : List Int} (h : (Kd.int .u8).R 5 W base (fun _ => True) v xs) (ho : Only b W W') (hb : b < base) : (Kd.int .u8).R 5 W' base (fun _ => True) v xs :=
  Kd.R_mono (Kd.R_keep (Kd.R_bound h) ho.keepBut (fun k hk => by have := hk.2.1; omega)) (fun k hk => hk.1)
theorem own_ge5 {base : Nat} {W : World} {v : Value} {xs : List Int} (h : (Kd.int .u8).R 5 W base (fun _ => True) v xs) {k : Nat} (hk : v.ownBlock = some k) : base ≤ k := by
  obtain ⟨_, inner, ho, _⟩ := h
  exact own_base ho k hk
structure LineOk (b : Nat) (s : ByteArray) (R : Res ByteArray) (W : World) (e : Ending) (W' : World) : Prop where
  end_ : ∃ v : ByteArray, e = .returned (.string v) ∧ v.size ≤ 4096 ∧ ∀ w j, R = .ok w j → v = w
  at_ : RLeaves W' b s R
  only : Only b W W'
theorem str_size (l : List Int) : (strOfNums l).size = l.length := by
  show (l.map _).toArray.size = _
  simp
set_option maxHeartbeats 2000000 in
set_option maxRecDepth 100000 in
theorem line_good (W : World) (b : Nat) (s : ByteArray) (i0 : Nat) (e0 : Int) (hs : s.size ≤ 140737488351232) (hi0 : i0 ≤ s.size) (h : PAt W b s i0 1 e0) :
    Calls Tryd.prog 68 #[.pointer (some ⟨b, 0, none⟩)] W (LineOk b s (linR s (s.size - i0) [] i0) W) := by
  generalize hR : linR s (s.size - i0) [] i0 = R
  have HR := Lib.hid hR
  have H := Aside0.mk h
  have hbl := blk_lt h
  clear h hR
  go_enter Tryd.func68, Tryd.ntmps68
  go_wp2_with fail
  go_loopw [3] (fun v3 W' => ∃ (text : List Int) (i : Nat), i ≤ s.size ∧ text.length ≤ 4096 ∧ text.length ≤ i ∧ Hid (linR s (s.size - i) text i = R) ∧ Aside0 (PAt W' b s i 1 e0) ∧ Aside0 ((Kd.int .u8).R 5 W' W.heap.size (fun _ => True) v3 text) ∧ Aside0 (Only b W W')) (fun v3 _ => match v3 with | .slice _ n _ => 4097 - n | _ => 0)
  case atStart => exact ⟨[], i0, hi0, by simp, by simp, HR, H, ⟨Kd.R_nil _ _ _ _ _⟩, ⟨Only.refl _ _⟩⟩
  case round =>
    obtain ⟨text, i, hi, htl, hti, hF, HA, HT, HO⟩ := hrel
    obtain ⟨⟨h0, h1, h2, h3⟩, f1, f2, f3⟩ := HA.out.cells
    obtain ⟨A, c, rfl⟩ := Kd.R_slice HT.out
    by_cases hlt : i < s.size
    · have hc := (s[i]).toNat_lt
      have hst : linR s (s.size - i) text i = if bt s i = 13 then (expect s [10] (i + 1)).as (strOfNums text) else if text.length = 4096 then .no 2
          else if bt s i ≠ 9 ∧ (bt s i < 32 ∨ bt s i = 127) then .no 1 else linR s (s.size - (i + 1)) (text ++ [bt s i]) (i + 1) := by
        rw [show s.size - i = (s.size - (i + 1)) + 1 by omega, linR]
      rw [bt_nat' s i hlt, hF.out] at hst
      have hc0 : (0 : Int) ≤ ((s[i]).toNat : Int) := by omega
      have hc1 : ((s[i]).toNat : Int) ≤ 255 := by omega
      have hcv := Kd.C_string Tryd.underlying90 Tryd.underlying5 Tryd.underlying9 (Kd.R_reads' HT.out).2.2 (c := c)
      by_cases h13 : ((s[i]).toNat : Int) = 13
      · rw [if_pos h13] at hst
        have hRR := Lib.hid hst
        have k1 : (((s[i]).toNat : Int) == 13) = true := by rw [beq_iff_eq]; exact h13
        have HSUM := Lib.hid (show (i : Int) + 1 = ((i + 1 : Nat) : Int) by omega)
        clear h13 hst h0 h1 h3 f1 f2 f3 hcv
        go_wp2_with fail
        go_at_call 56; refine (here_some _ b s i e0 hs hlt HA.out).mono ?_; rintro e w1 ⟨rfl, ha1, ho1⟩; obtain ⟨⟨h0, h1, h2, h3⟩, f1, f2, f3⟩ := PAt.cells ha1; have HA1 := Aside0.mk ha1; have HO1 := Aside0.mk (HO.out.trans ho1); have HT1 := Aside0.mk (R_int_only HT.out ho1 hbl); clear ha1 ho1
        go_wp2_with fail
        go_at_call 76
        refine (must_lf _ b s _ hs (by exact .good (i + 1) e0 (by omega) (by rw [HSUM.out]; exact HA1.out.set1 _) rfl)).mono ?_
        rintro e w2 ⟨rfl, ha2, ho2⟩
        have HA2 := Aside0.mk ha2
        have ho2' : Only b w1 w2 := ((Only.refl b w1).set 1 (.int .i64 ((i : Int) + 1))).trans ho2
        have HO2 := Aside0.mk (HO1.out.trans ho2')
        have hcv := Kd.C_string Tryd.underlying90 Tryd.underlying5 Tryd.underlying9 (Kd.R_reads' (R_int_only HT1.out ho2' hbl)).2.2 (c := c)
        clear ha2 ho2 ho2'
        go_wp2_with fail
        go_ret
        refine ⟨⟨_, rfl, by rw [str_size]; exact htl, fun w j h => ?_⟩, by rw [hRR.out]; exact rleaves_as _ HA2.out, HO2.out⟩
        rw [hRR.out] at h
        exact (as_ok h).1.symm
      · rw [if_neg h13] at hst
        have k1 : (((s[i]).toNat : Int) == 13) = false := by rw [beq_eq_false_iff_ne]; exact h13
        by_cases hfull : text.length = 4096
        · rw [if_pos hfull] at hst
          have hRR := Lib.hid hst
          have k2 : ((text.length : Int) == 4096) = true := by rw [beq_iff_eq]; omega
          clear h13 hfull hst h0 h1 h3 f1 f2 f3 hcv
          go_wp2_with (first | (go_at_call 56; refine (here_some _ b s i e0 hs hlt HA.out).mono ?_; rintro e w1 ⟨rfl, ha1, ho1⟩; obtain ⟨⟨h0, h1, h2, h3⟩, f1, f2, f3⟩ := PAt.cells ha1; have HA1 := Aside0.mk ha1; have HO1 := Aside0.mk (HO.out.trans ho1); clear ha1 ho1) | (go_at_call 62; refine (bad_3 _ b s _ _ _ HA1.out).mono ?_; rintro e w2 ⟨rfl, ha2, ho2⟩; have HA2 := Aside0.mk ha2; have HO2 := Aside0.mk (HO1.out.trans ho2); clear ha2 ho2))
          go_ret
          exact ⟨⟨_, rfl, by decide, fun m j hmj => by rw [hRR.out] at hmj; cases hmj⟩, by rw [hRR.out]; exact rbad_2 HA2.out, HO2.out⟩
        · rw [if_neg hfull] at hst
          have k2 : ((text.length : Int) == 4096) = false := by rw [beq_eq_false_iff_ne]; omega
          by_cases hbad : ((s[i]).toNat : Int) ≠ 9 ∧ (((s[i]).toNat : Int) < 32 ∨ ((s[i]).toNat : Int) = 127)
          · rw [if_pos hbad] at hst
            have hRR := Lib.hid hst
            have k3 : (((s[i]).toNat : Int) != 9) = true := by rw [bne_iff_ne]; exact hbad.1
            have key : decide (((s[i]).toNat : Int) < 32) = true ∨ (decide (((s[i]).toNat : Int) < 32) = false ∧ (((s[i]).toNat : Int) == 127) = true) := by
              simp only [decide_eq_true_eq, decide_eq_false_iff_not, beq_iff_eq]
              omega
            clear h13 hfull hbad hst h0 h1 h3 f1 f2 f3 hcv
            rcases key with k4 | ⟨k4, k5⟩
            all_goals
              go_wp2_with (first | (go_at_call 56; refine (here_some _ b s i e0 hs hlt HA.out).mono ?_; rintro e w1 ⟨rfl, ha1, ho1⟩; obtain ⟨⟨h0, h1, h2, h3⟩, f1, f2, f3⟩ := PAt.cells ha1; have HA1 := Aside0.mk ha1; have HO1 := Aside0.mk (HO.out.trans ho1); clear ha1 ho1) | (go_at_call 62; refine (bad_2 _ b s _ _ _ HA1.out).mono ?_; rintro e w2 ⟨rfl, ha2, ho2⟩; have HA2 := Aside0.mk ha2; have HO2 := Aside0.mk (HO1.out.trans ho2); clear ha2 ho2))
              go_ret
              exact ⟨⟨_, rfl, by decide, fun m j hmj => by rw [hRR.out] at hmj; cases hmj⟩, by rw [hRR.out]; exact rbad_1 HA2.out, HO2.out⟩
          · rw [if_neg hbad] at hst
            have hRR := Lib.hid hst.symm
            have key : (((s[i]).toNat : Int) != 9) = false ∨ ((((s[i]).toNat : Int) != 9) = true ∧ decide (((s[i]).toNat : Int) < 32) = false ∧ (((s[i]).toNat : Int) == 127) = false) := by
              simp only [bne_iff_ne, decide_eq_false_iff_not, beq_eq_false_iff_ne, bne_eq_false_iff_eq]
              omega
            have hlen : (text.length + 1) * 1 ≤ 140737488355328 := by omega
            have HSUM := Lib.hid (show (i : Int) + 1 = ((i + 1 : Nat) : Int) by omega)
            have hu8 : IntKind.u8.wrap ((s[i]).toNat : Int) = ((s[i]).toNat : Int) := by unfold IntKind.wrap; simp [IntKind.bits, IntKind.signed]; omega
            have hl6 : text.length + 1 ≤ 4096 := by omega
            clear h13 hfull hbad hst h0 h1 h3 f1 f2 f3 hcv
            rcases key with k4 | ⟨k4, k5, k6⟩
            all_goals
              go_wp2_with (first | (go_at_call 56; refine (here_some _ b s i e0 hs hlt HA.out).mono ?_; rintro e w1 ⟨rfl, ha1, ho1⟩; obtain ⟨⟨h0, h1, h2, h3⟩, f1, f2, f3⟩ := PAt.cells ha1; have HA1 := Aside0.mk ha1; have HO1 := Aside0.mk (HO.out.trans ho1); have HT1 := Aside0.mk (R_int_only HT.out ho1 hbl); clear ha1 ho1) | ((with_reducible refine gate_builtin (b := .append) (xs := #[.tmp 47, .tmp 50]) rfl ?_); at_builtin; refine Kd.R_append (Kd.int .u8) (w0 := w1) W.heap.size rfl (.tmp 47) (.tmp 50) 90 5 (.int .u8 0) 1 rfl Tryd.underlying90 info5 rfl (by decide) (by omega) (.slice A text.length c) text ((s[i]).toNat : Int) [.int .u8 ((s[i]).toNat : Int)] (fun _ => True) (fun _ => False) rfl rfl rfl (fun _ hk => hk.elim) (fun _ _ => trivial) HT1.out (Below.refl _ _) HO1.out.size hlen ?_; intro v5 w5 ho5 hb5 hg5 hat5; obtain ⟨A5, cp5, e5⟩ := slice_snoc ho5; subst e5; have HO5 := Aside0.mk ho5; have HA5 := Aside0.mk (show PAt w5 b s i 1 e0 from (hg5.block b (blk_lt HA1.out) (fun e => by have := own_ge5 HT1.out e.symm; omega)).trans HA1.out); have HB5 := Aside0.mk (Only.grown_new HO1.out hg5 (fun k hk => own_ge5 HT1.out hk)); obtain ⟨⟨y0, y1, y2, y3⟩, g1, g2, g3⟩ := PAt.cells HA5.out; clear ho5 hb5 hg5 hat5))
              refine ⟨⟨text ++ [((s[i]).toNat : Int)], i + 1, by omega, by simp; omega, by simp; omega, hRR, ⟨by have := HA5.out.set1 ((i : Int) + 1); rw [HSUM.out] at this ⊢; exact this⟩, ⟨R_int_only HO5.out ((Only.refl _ _).set 1 _) hbl⟩, ⟨HB5.out.set 1 _⟩⟩, ?_⟩
              show 4097 - (text.length + 1) < 4097 - text.length
              omega
    · have HI := Aside0.mk hlt
      have hRR := Lib.hid (show R = .no 3 by rw [← hF.out, show s.size - i = 0 by omega, linR])
      clear hlt h0 h1 h3 f1 f2 f3
      go_wp2_with (go_at_call 56; refine (here_end _ b s i e0 hs HI.out HA.out).mono ?_; rintro e w1 ⟨rfl, ha1, ho1⟩; obtain ⟨⟨h0, h1, h2, h3⟩, f1, f2, f3⟩ := PAt.cells ha1; have HA1 := Aside0.mk ha1; have HO1 := Aside0.mk (HO.out.trans ho1); clear ha1 ho1)
      go_ret
      exact ⟨⟨_, rfl, by decide, fun m j hmj => by rw [hRR.out] at hmj; cases hmj⟩, by rw [hRR.out]; exact rbad_3 HA1.out, HO1.out⟩
end Go.Proofs.YtbdfjiobegadjaaDoor.Rf
/- The walk of the document's words of a plain line. -/
namespace Go.Proofs.YtbdfjiobegadjaaDoor.Rf
open Go Go.RowKit Go.Proofs.YtbdfjiobegadjaaDoor.Tk Go.Proofs.YtbdfjiobegadjaaDoor.Pl Go.Proofs.YtbdfjiobegadjaaDoor.Rd Go.Proofs.YtbdfjiobegadjaaDoor.PWireMemory Go.Proofs.YtbdfjiobegadjaaDoorW.PrintWords Go.Proofs.YtbdfjiobegadjaaDoorW.PrintLast Go.Proofs.YtbdfjiobegadjaaDoorW.PrintMore
set_option linter.unusedVariables false
set_option linter.unusedSectionVars false
set_option linter.unusedSimpArgs false
/-- What is still to come where place i has been reached: the words, the one at hand too; at the very end nothing. -/
def toCome (s : ByteArray) (now : List Int) (i : Nat) : List ByteArray := if i ≤ s.size then (wordsA now (cut s i s.size)).map strOfNums else []
theorem come_end (s : ByteArray) (now : List Int) : toCome s now s.size = if now = [] then [] else [strOfNums now] := by
  unfold toCome
  rw [if_pos (Nat.le_refl _), cut_nil, wordsA]
  split <;> rfl
theorem come_past (s : ByteArray) (now : List Int) : toCome s now (s.size + 1) = [] := by unfold toCome; rw [if_neg (by omega)]
theorem come_sep (s : ByteArray) (now : List Int) (i : Nat) (hi : i < s.size) (h : bt s (i : Nat) = 32 ∨ bt s (i : Nat) = 9) : toCome s now i = (if now = [] then [] else [strOfNums now]) ++ toCome s [] (i + 1) := by
  unfold toCome
  rw [if_pos (show i ≤ s.size by omega), if_pos (show i + 1 ≤ s.size by omega), cut_cons s i s.size hi, wordsA, if_pos h, List.map_append]
  split <;> rfl
theorem come_byte (s : ByteArray) (now : List Int) (i : Nat) (hi : i < s.size) (h : ¬ (bt s (i : Nat) = 32 ∨ bt s (i : Nat) = 9)) : toCome s now i = toCome s (now ++ [bt s (i : Nat)]) (i + 1) := by
  unfold toCome
  rw [if_pos (show i ≤ s.size by omega), if_pos (show i + 1 ≤ s.size by omega), cut_cons s i s.size hi, wordsA, if_neg h]
theorem row_ne {w : World} {base : Nat} {ok ok' : Nat → Prop} {v v' : Value} {xs : List Int} {ys : List ByteArray} (h : (Kd.int .u8).R 5 w base ok v xs) (h' : Kd.string.R 9 w base ok' v' ys) : ∀ k, v'.ownBlock = some k → some k ≠ v.ownBlock := by
  intro k hk e
  obtain ⟨inner, ho⟩ := Kd.R_own h
  obtain ⟨inner', ho'⟩ := Kd.R_own h'
  obtain ⟨c, hc⟩ := own_typed ho k e.symm
  obtain ⟨c', hc'⟩ := own_typed ho' k hk
  rw [hc] at hc'
  simp at hc'
theorem str_grown {w w1 : World} {base : Nat} {v v' : Value} {xs : List Int} {ys : List ByteArray} (h : Kd.string.R 9 w base (fun _ => True) v' ys) (h' : (Kd.int .u8).R 5 w base (fun _ => True) v xs) (hg : w.grownBy w1 v.ownBlock) : Kd.string.R 9 w1 base (fun _ => True) v' ys := by
  cases hv : v.ownBlock with
  | none => exact Kd.R_grown h hg (fun k _ => by rw [hv]; simp)
  | some g =>
    obtain ⟨inner, ho⟩ := Kd.R_own h'
    obtain ⟨cells, hc⟩ := own_typed ho g hv
    exact Kd.R_mono (Kd.R_grown (Kd.R_types h hc (by decide)) hg (fun k hk e => hk.2 (by rw [hv] at e; exact Option.some.inj e))) (fun k hk => hk.1)
theorem int_grown {w w1 : World} {base : Nat} {v v' : Value} {xs : List Int} {ys : List ByteArray} (h : (Kd.int .u8).R 5 w base (fun _ => True) v xs) (h' : Kd.string.R 9 w base (fun _ => True) v' ys) (hg : w.grownBy w1 v'.ownBlock) : (Kd.int .u8).R 5 w1 base (fun _ => True) v xs := by
  cases hv : v'.ownBlock with
  | none => exact Kd.R_grown h hg (fun k _ => by rw [hv]; simp)
  | some g =>
    obtain ⟨inner, ho⟩ := Kd.R_own h'
    obtain ⟨cells, hc⟩ := own_typed ho g hv
    exact Kd.R_mono (Kd.R_grown (Kd.R_types h hc (by decide)) hg (fun k hk e => hk.2 (by rw [hv] at e; exact Option.some.inj e))) (fun k hk => hk.1)
set_option maxHeartbeats 2000000 in
set_option maxRecDepth 100000 in
theorem words_any (W : World) (s : ByteArray) (hs : s.size ≤ 4096) :
    Calls Tryd.prog 69 #[.string s] W fun e w' => ∃ v, e = .returned v ∧ Kd.string.R 9 w' W.heap.size (fun _ => True) v (wordsOf (cut s 0 s.size)) ∧ Below W.heap.size W w' := by
  have HF := Lib.hid (show ([] : List ByteArray) ++ toCome s [] 0 = wordsOf (cut s 0 s.size) by unfold toCome wordsOf; rw [if_pos (Nat.zero_le _)]; rfl)
  generalize hall : wordsOf (cut s 0 s.size) = all at HF
  clear hall
  go_enter Tryd.func69, Tryd.ntmps69
  go_wp2_with fail
  go_loopw [3, 4, 5] (fun v3 v4 v5 W' => ∃ (l : List ByteArray) (now : List Int) (i : Nat), v5 = .int .i64 i ∧ i ≤ s.size + 1 ∧ l.length ≤ i ∧ now.length ≤ i ∧ Hid (l ++ toCome s now i = all) ∧ Aside0 (Kd.string.R 9 W' W.heap.size (fun _ => True) v3 l) ∧ Aside0 ((Kd.int .u8).R 5 W' W.heap.size (fun _ => True) v4 now) ∧ Aside0 (Below W.heap.size W W')) (fun _ _ v5 _ => s.size + 1 - (intOf v5).toNat)
  case atStart => exact ⟨[], [], 0, rfl, by omega, by simp, by simp, HF, ⟨Kd.R_nil _ _ _ _ _⟩, ⟨Kd.R_nil _ _ _ _ _⟩, ⟨Below.refl _ _⟩⟩
  case round =>
    obtain ⟨l, now, i, rfl, hi, hl, hnl, hF, HL, HN, HB⟩ := hrel
    obtain ⟨A3, c3, rfl⟩ := Kd.R_slice HL.out
    obtain ⟨A4, c4, rfl⟩ := Kd.R_slice HN.out
    have hcv := Kd.C_string Tryd.underlying90 Tryd.underlying5 Tryd.underlying9 (Kd.R_reads' HN.out).2.2 (c := c4)
    have hlen : (l.length + 1) * 16 ≤ 140737488355328 := by omega
    have hlen5 : (now.length + 1) * 1 ≤ 140737488355328 := by omega
    by_cases hle : i ≤ s.size
    · have hle' : (i : Int) ≤ (s.size : Int) := by omega
      have hsep : (i = s.size ∨ (i < s.size ∧ (bt s (i : Nat) = 32 ∨ bt s (i : Nat) = 9))) ∨ (i < s.size ∧ ¬ (bt s (i : Nat) = 32 ∨ bt s (i : Nat) = 9)) := by
        by_cases h1 : i = s.size
        · exact .inl (.inl h1)
        · by_cases h2 : bt s (i : Nat) = 32 ∨ bt s (i : Nat) = 9
          · exact .inl (.inr ⟨by omega, h2⟩)
          · exact .inr ⟨by omega, h2⟩
      rcases hsep with hsep | ⟨hlt, hno⟩
      · have key : ((i : Int) == (s.size : Int)) = true ∨ ∃ hlt : i < s.size, ((i : Int) == (s.size : Int)) = false ∧ (i : Int) < (s.size : Int) ∧ ((((s[i]).toNat : Int) == 32) = true ∨ ((((s[i]).toNat : Int) == 32) = false ∧ (((s[i]).toNat : Int) == 9) = true)) := by
          rcases hsep with h | ⟨h, hb⟩
          · exact .inl (by rw [beq_iff_eq]; omega)
          · rw [bt_nat' s i h] at hb
            refine .inr ⟨h, by rw [beq_eq_false_iff_ne]; omega, by omega, ?_⟩
            rcases hb with hb | hb
            · exact .inl (by rw [beq_iff_eq]; exact hb)
            · exact .inr ⟨by rw [beq_eq_false_iff_ne]; omega, by rw [beq_iff_eq]; exact hb⟩
        have hnext := Lib.hid (show toCome s now i = (if now = [] then [] else [strOfNums now]) ++ toCome s [] (i + 1) by
          rcases hsep with h | ⟨h, hb⟩
          · subst h; rw [come_end, come_past, List.append_nil]
          · exact come_sep s now i h hb)
        clear hsep
        by_cases hnow : now = []
        · subst hnow
          have k0 : ¬ (0 : Int) < ((([] : List Int).length : Nat) : Int) := by simp
          have hF' := Lib.hid (show l ++ toCome s [] (i + 1) = all by rw [← hF.out, hnext.out]; simp)
          rcases key with k1 | ⟨hlt, k1, k2, k3 | ⟨k3, k4⟩⟩
          all_goals
            go_wp2_with fail
            refine ⟨⟨l, [], i + 1, by go_num, by omega, by omega, by simp, hF', HL, ⟨Kd.R_nil _ _ _ _ _⟩, HB⟩, by simp [intOf]; omega⟩
        · have k0 : (0 : Int) < (now.length : Int) := by have := List.length_pos_iff.2 hnow; omega
          have hF' := Lib.hid (show (l ++ [strOfNums now]) ++ toCome s [] (i + 1) = all by rw [← hF.out, hnext.out, if_neg hnow]; simp)
          clear hnow
          rcases key with k1 | ⟨hlt, k1, k2, k3 | ⟨k3, k4⟩⟩
          all_goals
            go_wp2_with ((with_reducible refine gate_builtin (b := .append) (xs := #[.tmp 31, .tmp 34]) rfl ?_); at_builtin; refine Kd.R_append Kd.string (w0 := W) W.heap.size rfl (.tmp 31) (.tmp 34) 45 9 (.string ⟨#[]⟩) 16 rfl Tryd.underlying45 info9 rfl (by decide) (by omega) (.slice A3 l.length c3) l (strOfNums now) [.string (strOfNums now)] (fun _ => True) (fun _ => False) rfl rfl rfl (fun _ hk => hk.elim) (fun _ _ => trivial) HL.out HB.out HB.out.size hlen ?_; intro v5 w5 ho5 hb5 hg5 hat5; have HO5 := Aside0.mk ho5; have HB5 := Aside0.mk hb5; clear ho5 hb5 hg5 hat5)
            refine ⟨⟨l ++ [strOfNums now], [], i + 1, by go_num, by omega, by simp; omega, by simp, hF', HO5, ⟨Kd.R_nil _ _ _ _ _⟩, HB5⟩, by simp [intOf]; omega⟩
      · have hF' := Lib.hid (show l ++ toCome s (now ++ [((s[i]).toNat : Int)]) (i + 1) = all by rw [← hF.out, come_byte s now i hlt hno, bt_nat' s i hlt])
        have k1 : ((i : Int) == (s.size : Int)) = false := by rw [beq_eq_false_iff_ne]; omega
        have k2 : (i : Int) < (s.size : Int) := by omega
        rw [bt_nat' s i hlt] at hno
        have k3 : (((s[i]).toNat : Int) == 32) = false := by rw [beq_eq_false_iff_ne]; omega
        have k4 : (((s[i]).toNat : Int) == 9) = false := by rw [beq_eq_false_iff_ne]; omega
        clear hno
        go_wp2_with ((with_reducible refine gate_builtin (b := .append) (xs := #[.tmp 36, .tmp 40]) rfl ?_); at_builtin; refine Kd.R_append (Kd.int .u8) (w0 := W) W.heap.size rfl (.tmp 36) (.tmp 40) 90 5 (.int .u8 0) 1 rfl Tryd.underlying90 info5 rfl (by decide) (by omega) (.slice A4 now.length c4) now ((s[i]).toNat : Int) [.int .u8 ((s[i]).toNat : Int)] (fun _ => True) (fun _ => False) rfl rfl rfl (fun _ hk => hk.elim) (fun _ _ => trivial) HN.out HB.out HB.out.size hlen5 ?_; intro v5 w5 ho5 hb5 hg5 hat5; have HO5 := Aside0.mk ho5; have HB5 := Aside0.mk hb5; have HL5 := Aside0.mk (str_grown HL.out HN.out hg5); clear ho5 hb5 hg5 hat5)
        refine ⟨⟨l, now ++ [((s[i]).toNat : Int)], i + 1, by go_num, by omega, by omega, by simp; omega, hF', HL5, HO5, HB5⟩, by simp [intOf]; omega⟩
    · have hle' : ¬ (i : Int) ≤ (s.size : Int) := by omega
      have hall := Lib.hid (show l = all by rw [← hF.out, show i = s.size + 1 by omega, come_past, List.append_nil])
      go_wp2_with fail
      go_ret
      exact ⟨_, rfl, by rw [← hall.out]; exact HL.out, HB.out⟩
end Go.Proofs.YtbdfjiobegadjaaDoor.Rf
/- The walks of the document's reader: what stands at the head, Next. -/
namespace Go.Proofs.YtbdfjiobegadjaaDoor.Rf
open Go Go.RowKit Go.Proofs.YtbdfjiobegadjaaDoor.Tk Go.Proofs.YtbdfjiobegadjaaDoor.Pl Go.Proofs.YtbdfjiobegadjaaDoor.Rd Go.Proofs.YtbdfjiobegadjaaDoor.PWireMemory Go.Proofs.YtbdfjiobegadjaaDoorW.PrintWords Go.Proofs.YtbdfjiobegadjaaDoorW.PrintLast Go.Proofs.YtbdfjiobegadjaaDoorW.PrintMore
set_option linter.unusedVariables false
set_option linter.unusedSectionVars false
set_option linter.unusedSimpArgs false
def lineN (t : ByteArray) (j : Nat) : Res (List ByteArray) := if 16 < (wordsOf (cut t 0 t.size)).length then .no 2 else .ok (wordsOf (cut t 0 t.size)) j
/-- What stands at the head. -/
def oneR (s : ByteArray) : Res (List ByteArray) := if s.size = 0 then .no 3 else if bt s (0 : Nat) = 42 then arrayR s 0 else nextR (linR s s.size [] 0) lineN
theorem R_below_only {base b : Nat} {W W' : World} {v : Value} {xs : List ByteArray} (h : Kd.string.R 9 W base (fun _ => True) v xs) (ho : Only b W W') (hb : b < base) : Kd.string.R 9 W' base (fun _ => True) v xs := R_str_only h ho hb
theorem rleaves_below {α : Type} {b : Nat} {s : ByteArray} {R : Res α} {W W' : World} (h : RLeaves W b s R) (hb : Below W.heap.size W W') : RLeaves W' b s R := by
  cases R with
  | ok a j => obtain ⟨e, h⟩ := h; exact ⟨e, (hb.block b (blk_lt h)).trans h⟩
  | no k => obtain ⟨s', i', e, h, hk⟩ := h; exact ⟨s', i', e, (hb.block b (blk_lt h)).trans h, hk⟩
theorem one_end (W : World) (b : Nat) (s : ByteArray) (e0 : Int) (hs : s.size ≤ 140737488351232) (h : PAt W b s (0 : Nat) 1 e0) (h0 : s.size = 0) :
    Calls Tryd.prog 39 #[.pointer (some ⟨b, 0, none⟩)] W (ListOk b s (oneR s) W) := by
  have hR : oneR s = .no 3 := by unfold oneR; rw [if_pos h0]
  rw [hR]
  have HI := Lib.hid (show ¬ 0 < s.size by omega)
  have H := Aside0.mk h
  clear h hR h0
  go_enter Tryd.func39, Tryd.ntmps39
  go_wp2_with (go_at_call 56; refine (here_end _ b s 0 e0 hs HI.out H.out).mono ?_; rintro e w1 ⟨rfl, ha1, ho1⟩; obtain ⟨⟨h0, h1, h2, h3⟩, f1, f2, f3⟩ := PAt.cells ha1; have HA1 := Aside0.mk ha1; have HO1 := Aside0.mk ho1; clear ha1 ho1)
  go_ret
  exact ⟨⟨_, rfl, [], Kd.R_nil _ _ _ _ _, fun w j h => by cases h⟩, rbad_3 HA1.out, HO1.out⟩
theorem one_star (W : World) (b : Nat) (s : ByteArray) (e0 : Int) (hs : s.size ≤ 140737488351232) (h : PAt W b s (0 : Nat) 1 e0) (h0 : 0 < s.size) (h42 : bt s (0 : Nat) = 42) :
    Calls Tryd.prog 39 #[.pointer (some ⟨b, 0, none⟩)] W (ListOk b s (oneR s) W) := by
  have hR : oneR s = arrayR s 0 := by unfold oneR; rw [if_neg (by omega), if_pos h42]
  rw [hR]
  rw [bt_nat' s 0 h0] at h42
  have k1 : (((s[0]).toNat : Int) == 42) = true := by rw [beq_iff_eq]; exact h42
  have H := Aside0.mk h
  have hbl := blk_lt h
  clear h hR h42
  go_enter Tryd.func39, Tryd.ntmps39
  go_wp2_with fail
  go_at_call 56; refine (here_some _ b s 0 e0 hs h0 H.out).mono ?_; rintro e w1 ⟨rfl, ha1, ho1⟩; obtain ⟨⟨g0, g1, g2, g3⟩, f1, f2, f3⟩ := PAt.cells ha1; have HA1 := Aside0.mk ha1; have HO1 := Aside0.mk ho1; clear ha1 ho1
  go_wp2_with fail
  go_at_call 67
  refine (array_any _ b s 0 e0 hs (by omega) HA1.out).mono ?_
  rintro e w2 ⟨⟨v, rfl, l, hl, hw⟩, ha2, ho2⟩
  have HL := Aside0.mk (Kd.R_lower hl HO1.out.size)
  have HW := Lib.hid hw
  have HA2 := Aside0.mk ha2
  have HO2 := Aside0.mk (HO1.out.trans ho2)
  obtain ⟨A, c, rfl⟩ := Kd.R_slice hl
  clear hl hw ha2 ho2
  go_wp2_with fail
  go_ret
  exact ⟨⟨_, rfl, l, HL.out, HW.out⟩, HA2.out, HO2.out⟩
set_option maxHeartbeats 2000000 in
set_option maxRecDepth 100000 in
theorem one_line (W : World) (b : Nat) (s : ByteArray) (e0 : Int) (hs : s.size ≤ 140737488351232) (h : PAt W b s (0 : Nat) 1 e0) (h0 : 0 < s.size) (h42 : ¬ bt s (0 : Nat) = 42) :
    Calls Tryd.prog 39 #[.pointer (some ⟨b, 0, none⟩)] W (ListOk b s (oneR s) W) := by
  have hR : oneR s = nextR (linR s s.size [] 0) lineN := by unfold oneR; rw [if_neg (by omega), if_neg h42]
  rw [hR]
  rw [bt_nat' s 0 h0] at h42
  have k1 : (((s[0]).toNat : Int) == 42) = false := by rw [beq_eq_false_iff_ne]; exact h42
  have H := Aside0.mk h
  have hbl := blk_lt h
  clear h hR h42
  generalize hL : linR s s.size [] 0 = RL
  have HLd := Lib.hid (show linR s (s.size - 0) [] 0 = RL by rw [← hL]; rfl)
  clear hL
  have key : (∃ k, RL = .no k) ∨ (∃ t j, RL = .ok t j) := by
    cases RL with
    | no k => exact .inl ⟨k, rfl⟩
    | ok t j => exact .inr ⟨t, j, rfl⟩
  rcases key with ⟨k, rfl⟩ | ⟨t, j, rfl⟩
  · have hw := wh_eq k
    show Calls _ _ _ _ (ListOk b s (.no k) W)
    go_enter Tryd.func39, Tryd.ntmps39
    go_wp2_with fail
    go_at_call 56; refine (here_some _ b s 0 e0 hs h0 H.out).mono ?_; rintro e w1 ⟨rfl, ha1, ho1⟩; obtain ⟨⟨g0, g1, g2, g3⟩, f1, f2, f3⟩ := PAt.cells ha1; have HA1 := Aside0.mk ha1; have HO1 := Aside0.mk ho1; clear ha1 ho1
    go_wp2_with fail
    go_at_call 68
    refine (line_good _ b s 0 e0 hs (by omega) HA1.out).mono ?_
    rw [HLd.out]
    rintro e w2 ⟨⟨v, rfl, hv, _⟩, ha2, ho2⟩
    have HA2 := Aside0.mk ha2
    have HO2 := Aside0.mk (HO1.out.trans ho2)
    clear ha2 ho2
    go_wp2_with fail
    go_at_call 69
    refine (words_any _ v hv).mono ?_
    rintro e w3 ⟨u, rfl, hr, hb⟩
    have HR3 := Aside0.mk (Kd.R_lower hr HO2.out.size)
    have HA3 := rleaves_below (R := Res.no (α := ByteArray) k) HA2.out hb
    have HO3 := Aside0.mk (HO2.out.trans (Only.of_below hb))
    obtain ⟨s', i', e', h, hk⟩ := HA3
    obtain ⟨⟨g0, g1, g2, g3⟩, f1, f2, f3⟩ := PAt.cells h
    have HP := Aside0.mk (show RBad w3 b k from ⟨s', i', e', h, hk⟩)
    obtain ⟨A, c, rfl⟩ := Kd.R_slice hr
    clear hr hb h hk
    go_wp2_with fail
    go_ret
    exact ⟨⟨_, rfl, _, HR3.out, fun w j h => by cases h⟩, HP.out, HO3.out⟩
  · show Calls _ _ _ _ (ListOk b s (lineN t j) W)
    generalize hwo : wordsOf (cut t 0 t.size) = ws
    have HWO := Lib.hid hwo
    have hor : (16 < ws.length ∧ lineN t j = .no 2) ∨ (¬ 16 < ws.length ∧ lineN t j = .ok ws j) := by
      unfold lineN
      rw [hwo]
      by_cases h : 16 < ws.length
      · exact .inl ⟨h, if_pos h⟩
      · exact .inr ⟨h, if_neg h⟩
    clear hwo
    rcases hor with ⟨h16, hN⟩ | ⟨h16, hN⟩
    · rw [hN]
      have k2 : (16 : Int) < (ws.length : Int) := by omega
      clear hN h16
      go_enter Tryd.func39, Tryd.ntmps39
      go_wp2_with fail
      go_at_call 56; refine (here_some _ b s 0 e0 hs h0 H.out).mono ?_; rintro e w1 ⟨rfl, ha1, ho1⟩; obtain ⟨⟨g0, g1, g2, g3⟩, f1, f2, f3⟩ := PAt.cells ha1; have HA1 := Aside0.mk ha1; have HO1 := Aside0.mk ho1; clear ha1 ho1
      go_wp2_with fail
      go_at_call 68
      refine (line_good _ b s 0 e0 hs (by omega) HA1.out).mono ?_
      rw [HLd.out]
      rintro e w2 ⟨⟨v, rfl, hv, hvt⟩, ha2, ho2⟩
      obtain rfl := hvt t j rfl
      have HA2 := Aside0.mk ha2
      have HO2 := Aside0.mk (HO1.out.trans ho2)
      clear ha2 ho2 hvt
      go_wp2_with fail
      go_at_call 69
      refine (words_any _ v hv).mono ?_
      rw [HWO.out]
      rintro e w3 ⟨u, rfl, hr, hb⟩
      have HR3 := Aside0.mk (Kd.R_lower hr HO2.out.size)
      have HO3 := Aside0.mk (HO2.out.trans (Only.of_below hb))
      obtain ⟨e', h⟩ := rleaves_below (R := Res.ok v j) HA2.out hb
      obtain ⟨⟨g0, g1, g2, g3⟩, f1, f2, f3⟩ := PAt.cells h
      have HP := Aside0.mk h
      obtain ⟨A, c, rfl⟩ := Kd.R_slice hr
      clear hr hb h
      go_wp2_with fail
      go_at_call 62
      refine (bad_3 _ b s _ _ _ HP.out).mono ?_
      rintro e w4 ⟨rfl, ha4, ho4⟩
      have HA4 := Aside0.mk ha4
      have HR4 := Aside0.mk (R_str_only HR3.out ho4 hbl)
      have HO4 := Aside0.mk (HO3.out.trans ho4)
      clear ha4 ho4
      go_wp2_with fail
      go_ret
      exact ⟨⟨_, rfl, _, HR4.out, fun w j h => by cases h⟩, rbad_2 HA4.out, HO4.out⟩
    · rw [hN]
      have k2 : ¬ (16 : Int) < (ws.length : Int) := by omega
      clear hN h16
      go_enter Tryd.func39, Tryd.ntmps39
      go_wp2_with fail
      go_at_call 56; refine (here_some _ b s 0 e0 hs h0 H.out).mono ?_; rintro e w1 ⟨rfl, ha1, ho1⟩; obtain ⟨⟨g0, g1, g2, g3⟩, f1, f2, f3⟩ := PAt.cells ha1; have HA1 := Aside0.mk ha1; have HO1 := Aside0.mk ho1; clear ha1 ho1
      go_wp2_with fail
      go_at_call 68
      refine (line_good _ b s 0 e0 hs (by omega) HA1.out).mono ?_
      rw [HLd.out]
      rintro e w2 ⟨⟨v, rfl, hv, hvt⟩, ha2, ho2⟩
      obtain rfl := hvt t j rfl
      have HA2 := Aside0.mk ha2
      have HO2 := Aside0.mk (HO1.out.trans ho2)
      clear ha2 ho2 hvt
      go_wp2_with fail
      go_at_call 69
      refine (words_any _ v hv).mono ?_
      rw [HWO.out]
      rintro e w3 ⟨u, rfl, hr, hb⟩
      have HR3 := Aside0.mk (Kd.R_lower hr HO2.out.size)
      have HO3 := Aside0.mk (HO2.out.trans (Only.of_below hb))
      obtain ⟨e', h⟩ := rleaves_below (R := Res.ok v j) HA2.out hb
      obtain ⟨⟨g0, g1, g2, g3⟩, f1, f2, f3⟩ := PAt.cells h
      have HP := Aside0.mk h
      obtain ⟨A, c, rfl⟩ := Kd.R_slice hr
      clear hr hb h
      go_wp2_with fail
      go_ret
      exact ⟨⟨_, rfl, _, HR3.out, fun w j h => by cases h; rfl⟩, ⟨e', HP.out⟩, HO3.out⟩
theorem one_any (W : World) (b : Nat) (s : ByteArray) (e0 : Int) (hs : s.size ≤ 140737488351232) (h : PAt W b s (0 : Nat) 1 e0) :
    Calls Tryd.prog 39 #[.pointer (some ⟨b, 0, none⟩)] W (ListOk b s (oneR s) W) := by
  by_cases h0 : s.size = 0
  · exact one_end W b s e0 hs h h0
  · by_cases h42 : bt s (0 : Nat) = 42
    · exact one_star W b s e0 hs h (by omega) h42
    · exact one_line W b s e0 hs h (by omega) h42
end Go.Proofs.YtbdfjiobegadjaaDoor.Rf
/- The walk of the document's reader: Next. -/
namespace Go.Proofs.YtbdfjiobegadjaaDoor.Rf
open Go Go.RowKit Go.Proofs.YtbdfjiobegadjaaDoor.Tk Go.Proofs.YtbdfjiobegadjaaDoor.Pl Go.Proofs.YtbdfjiobegadjaaDoor.Rd Go.Proofs.YtbdfjiobegadjaaDoor.PWireMemory Go.Proofs.YtbdfjiobegadjaaDoorW.PrintWords Go.Proofs.YtbdfjiobegadjaaDoorW.PrintLast Go.Proofs.YtbdfjiobegadjaaDoorW.PrintMore
set_option linter.unusedVariables false
set_option linter.unusedSectionVars false
set_option linter.unusedSimpArgs false
theorem expect_lt {s : ByteArray} {c : UInt8} {i j : Nat} {u : Unit} (h : expect s [c] i = .ok u j) : j = i + 1 := by
  rw [expect] at h
  split at h
  · split at h
    · simp only [expect, Res.ok.injEq] at h; omega
    · cases h
  · cases h
theorem linR_lt {s : ByteArray} : ∀ {f : Nat} {text : List Int} {i : Nat} {w : ByteArray} {j : Nat}, linR s f text i = .ok w j → i < j
  | 0, _, _, _, _, h => by cases h
  | f + 1, text, i, w, j, h => by
    rw [linR] at h
    split at h
    · obtain ⟨_, u, hu⟩ := as_ok h
      have := expect_lt hu
      omega
    · split at h
      · cases h
      · split at h
        · cases h
        · have := linR_lt h
          omega
theorem numF_lt' {s : ByteArray} : ∀ {f n many i a j : Nat}, numF s f n many i = .ok a j → i < j
  | 0, _, _, _, _, _, h => by cases h
  | f + 1, n, many, i, a, j, h => by
    rw [numF] at h
    split at h
    · obtain ⟨_, u, hu⟩ := as_ok h
      have := expect_lt hu
      omega
    · split at h
      · cases h
      · have := numF_lt' h
        omega
theorem wordR_ge {s : ByteArray} {i j : Nat} {w : ByteArray} (h : wordR s i = .ok w j) : i ≤ j := by
  unfold wordR at h
  split at h
  · cases h
  · rename_i u j1 h1
    have l1 := expect_lt h1
    split at h
    · cases h
    · rename_i n j2 h2
      have l2 := numF_lt' h2
      split at h
      · cases h
      · split at h
        · cases h
        · obtain ⟨_, u, hu⟩ := as_ok h
          rw [expect_cons] at hu
          cases hx : expect s [13] (j2 + n) with
          | no k => rw [hx] at hu; cases hu
          | ok u' j3 =>
            rw [hx] at hu
            have l3 := expect_lt hx
            have l4 := expect_lt hu
            omega
theorem wordsR_ge {s : ByteArray} : ∀ {n i j : Nat} {l : List ByteArray}, wordsR s n i = .ok l j → i ≤ j
  | 0, i, j, l, h => by simp only [wordsR, Res.ok.injEq] at h; omega
  | n + 1, i, j, l, h => by
    rw [wordsR] at h
    split at h
    · cases h
    · rename_i w j1 h1
      obtain ⟨y, hy, _⟩ := map_ok h
      have := wordR_ge h1
      have := wordsR_ge hy
      omega
theorem oneR_lt {s : ByteArray} {l : List ByteArray} {i : Nat} (h : oneR s = .ok l i) : 0 < i ∧ i ≤ s.size := by
  unfold oneR at h
  split at h
  · cases h
  · rename_i h0
    split at h
    · unfold arrayR at h
      cases hx : expect s [42] 0 with
      | no k => rw [hx] at h; cases h
      | ok u j1 =>
        rw [hx] at h
        have l1 := expect_lt hx
        have l1' := expect_one_le hx (by omega)
        cases hn : numS s j1 with
        | no k => rw [show nextR (Res.ok u j1) (fun _ j => numS s j) = numS s j1 from rfl, hn] at h; cases h
        | ok n j2 =>
          rw [show nextR (Res.ok u j1) (fun _ j => numS s j) = numS s j1 from rfl, hn] at h
          have l2 := numF_lt' hn
          have l2' := numS_le hn l1'
          have h : arrN s n j2 = .ok l i := h
          unfold arrN at h
          split at h
          · cases h
          · split at h
            · cases h
            · have := wordsR_ge h
              have := arrayR_le h l2'
              omega
    · cases hx : linR s s.size [] 0 with
      | no k => rw [hx] at h; cases h
      | ok t j =>
        rw [hx] at h
        have h : lineN t j = .ok l i := h
        unfold lineN at h
        split at h
        · cases h
        · have l1 := linR_lt hx
          have l2 := linR_le hx (by omega)
          simp only [Res.ok.injEq] at h
          omega
theorem wordsR_len {s : ByteArray} : ∀ {n i j : Nat} {l : List ByteArray}, wordsR s n i = .ok l j → l.length = n
  | 0, i, j, l, h => by simp only [wordsR, Res.ok.injEq] at h; rw [← h.1]; rfl
  | n + 1, i, j, l, h => by
    rw [wordsR] at h
    split at h
    · cases h
    · obtain ⟨y, hy, e⟩ := map_ok h
      have := wordsR_len hy
      rw [e]; simp [this]
inductive RefR where
  | more (s : ByteArray)
  | whole (l : List ByteArray) (s : ByteArray)
  | bad (k : Nat)
def nextF : Nat → ByteArray → RefR
  | 0, s => .more s
  | f + 1, s => match oneR s with
    | .no k => if k = 3 then .more s else .bad k
    | .ok l i => if l = [] then nextF f (s.extract i s.size) else .whole l (s.extract i s.size)
/-- More rounds come to the same. -/
theorem nextF_fuel : ∀ (f g : Nat) (s : ByteArray), s.size < f → s.size < g → nextF f s = nextF g s
  | 0, _, _, h, _ => by omega
  | _, 0, _, _, h => by omega
  | f + 1, g + 1, s, hf, hg => by
    rw [nextF, nextF]
    cases h : oneR s with
    | no k => rfl
    | ok l i =>
      have := oneR_lt h
      have hs : (s.extract i s.size).size = s.size - i := by rw [ByteArray.size_extract]; omega
      simp only
      rw [nextF_fuel f g (s.extract i s.size) (by omega) (by omega)]
def NAt (W : World) (b : Nat) (s : ByteArray) (e : Int) : Prop := W.heap[b]? = some (.cells #[.string s, .int .i64 e] 94 (0, 0))
theorem NAt.cells {W : World} {b : Nat} {s : ByteArray} {e : Int} (h : NAt W b s e) : W.cell? ⟨b, 0, none⟩ = some (.string s) ∧ W.cell? ⟨b, 1, none⟩ = some (.int .i64 e) ∧ W.frozen? ⟨b, 0, none⟩ = false ∧ W.frozen? ⟨b, 1, none⟩ = false :=
  ⟨blk_cell h 0, blk_cell h 1, blk_frozen h 0, blk_frozen h 1⟩
def RefEnd (base b : Nat) (e : Ending) (W' : World) : RefR → Prop
  | .more s => e = .returned (.tuple #[.slice none 0 0, .bool false, .int .i64 0]) ∧ NAt W' b s 0
  | .whole l s => ∃ v, e = .returned (.tuple #[v, .bool true, .int .i64 0]) ∧ NAt W' b s 0 ∧ Kd.string.R 9 W' base (fun _ => True) v l
  | .bad k => e = .returned (.tuple #[.slice none 0 0, .bool false, .int .i64 ((k : Int) + 1)]) ∧ NAt W' b ⟨#[]⟩ ((k : Int) + 1)
structure RefOk (b : Nat) (R : RefR) (W : World) (e : Ending) (W' : World) : Prop where
  end_ : RefEnd W.heap.size b e W' R
  only : Only b W W'
theorem ref_err (W : World) (b : Nat) (s : ByteArray) (k : Nat) (h : NAt W b s ((k : Int) + 1)) :
    Calls Tryd.prog 20 #[.pointer (some ⟨b, 0, none⟩)] W fun e w' => e = .returned (.tuple #[.slice none 0 0, .bool false, .int .i64 ((k : Int) + 1)]) ∧ ∃ n, w' = W.drewN n := by
  obtain ⟨h0, h1, f0, f1⟩ := h.cells
  have k1 : (((k : Int) + 1) != 0) = true := by rw [bne_iff_ne]; omega
  clear h
  go_enter Tryd.func20, Tryd.ntmps20
  go_wp2_with fail
  go_quiet (fail)
  go_wp2_with fail
  go_ret3
  exact ⟨rfl, _, rfl⟩
set_option maxHeartbeats 2000000 in
set_option maxRecDepth 100000 in
theorem ref_next (W : World) (b : Nat) (s : ByteArray) (hs : s.size ≤ 140737488351232) (h : NAt W b s 0) :
    Calls Tryd.prog 20 #[.pointer (some ⟨b, 0, none⟩)] W (RefOk b (nextF (s.size + 1) s) W) := by
  obtain ⟨h0, h1, f0, f1⟩ := h.cells
  have H := Aside0.mk h
  have hbl := blk_lt h
  generalize hR : nextF (s.size + 1) s = R
  have HR := Lib.hid hR
  clear h hR
  go_enter Tryd.func20, Tryd.ntmps20
  go_wp2_with fail
  go_loopg [] (s.size + 1) (fun gk W' => ∃ (t : ByteArray), t.size < gk ∧ t.size ≤ s.size ∧ Hid (nextF (t.size + 1) t = R) ∧ Aside0 (NAt W' b t 0) ∧ Aside0 (Only b W W'))
  case atStart => exact ⟨s, by omega, by omega, HR, H, ⟨Only.refl _ _⟩⟩
  case round =>
    obtain ⟨t, htg, hts, hF, HA, HO⟩ := hrel
    obtain ⟨h0, h1, f0, f1⟩ := HA.out.cells
    have hbr := blk_lt HA.out
    have HP := Aside0.mk (show PAt (wr.alloc (.cells #[.string t, .int .i64 0, .int .i64 1, .int .i64 0] 86)) wr.heap.size t (0 : Nat) 1 0 from (MapKept.heap_alloc wr _).1)
    have hts' : t.size ≤ 140737488351232 := by omega
    have hunf : nextF (t.size + 1) t = match oneR t with
      | .no k => if k = 3 then .more t else .bad k
      | .ok l i => if l = [] then nextF t.size (t.extract i t.size) else .whole l (t.extract i t.size) := by rw [nextF]
    generalize hO : oneR t = RO at hunf
    have HOO := Lib.hid hO
    have hlt := Lib.hid (fun l i (h : RO = .ok l i) => oneR_lt (hO.trans h))
    rw [hF.out] at hunf
    have HU := Lib.hid hunf
    clear hO hunf
    cases RO with
    | no k =>
      go_wp2_with fail
      go_at_call 39
      refine (one_any _ wr.heap.size t 0 hts' (by exact HP.out)).mono ?_
      rw [HOO.out]
      rintro e w1 ⟨⟨v, rfl, l, hl, _⟩, ha1, ho1⟩
      have HA1 := Aside0.mk (show NAt w1 b t 0 from (ho1.keep b (by simp; omega) (by omega)).trans ((Below.heap_alloc wr _ b hbr).trans HA.out))
      have HO1 := Aside0.mk (HO.out.trans (Only.of_below ((below_alloc (Below.refl _ _) _).trans (ho1.below (Nat.le_refl _) (by simp)))))
      obtain ⟨A, c, rfl⟩ := Kd.R_slice hl
      obtain ⟨s', i', e', h, hk⟩ := ha1
      obtain ⟨⟨g0, g1, g2, g3⟩, q1, q2, q3⟩ := PAt.cells h
      obtain ⟨m0, m1, n0, n1⟩ := HA1.out.cells
      have hl1 := blk_lt HA1.out
      have hl2 := blk_lt h
      have hne : ¬ b = wr.heap.size := by omega
      clear hl ho1 h
      by_cases h3 : k = 3
      · subst h3
        have hRR := Lib.hid (show R = .more t by rw [HU.out]; rfl)
        have hw : wh 3 = 0 := rfl
        rw [hw] at g2
        clear hw hk
        go_wp2_with fail
        go_ret3
        exact ⟨by rw [hRR.out]; exact ⟨rfl, HA1.out⟩, HO1.out⟩
      · have hRR := Lib.hid (show R = .bad k by rw [HU.out]; exact if_neg h3)
        have hw : wh k = 2 := wh_not k h3
        have he := hk h3
        rw [hw] at g2
        rw [he] at g3
        clear hw hk he h3
        go_wp2_with fail
        go_quiet (fail)
        go_wp2_with fail
        go_ret3
        exact ⟨by rw [hRR.out]; exact ⟨rfl, blk_set (blk_set HA1.out 1 _) 0 _⟩, ((HO1.out.set 1 _).set 0 _).drewN _⟩
    | ok l i =>
      have hi := hlt.out l i rfl
      have hi2 : (i : Int) ≤ (t.size : Int) := by omega
      go_wp2_with fail
      go_at_call 39
      refine (one_any _ wr.heap.size t 0 hts' (by exact HP.out)).mono ?_
      rw [HOO.out]
      rintro e w1 ⟨⟨v, rfl, l', hl, hll⟩, ha1, ho1⟩
      obtain rfl := hll l i rfl
      have HA1 := Aside0.mk (show NAt w1 b t 0 from (ho1.keep b (by simp; omega) (by omega)).trans ((Below.heap_alloc wr _ b hbr).trans HA.out))
      have HO1 := Aside0.mk (HO.out.trans (Only.of_below ((below_alloc (Below.refl _ _) _).trans (ho1.below (Nat.le_refl _) (by simp)))))
      have HL1 := Aside0.mk (Kd.R_lower hl (show W.heap.size ≤ (wr.alloc (.cells #[.string t, .int .i64 0, .int .i64 1, .int .i64 0] 86)).heap.size by have := HO.out.size; simp; omega))
      obtain ⟨A, c, rfl⟩ := Kd.R_slice hl
      obtain ⟨e', h⟩ := ha1
      obtain ⟨⟨g0, g1, g2, g3⟩, q1, q2, q3⟩ := PAt.cells h
      obtain ⟨m0, m1, n0, n1⟩ := HA1.out.cells
      have hl1 := blk_lt HA1.out
      have hl2 := blk_lt h
      have hne : ¬ b = wr.heap.size := by omega
      clear hl ho1 h hll hlt
      by_cases hnil : l' = []
      · subst hnil
        have k0 : ¬ (0 : Int) < ((([] : List ByteArray).length : Nat) : Int) := by simp
        have hsz : (t.extract i t.size).size = t.size - i := by rw [ByteArray.size_extract]; omega
        have hRR := Lib.hid (show nextF ((t.extract i t.size).size + 1) (t.extract i t.size) = R by
          rw [HU.out]
          show _ = nextF t.size (t.extract i t.size)
          exact nextF_fuel _ _ _ (by omega) (by omega))
        have HSZ := Lib.hid hsz
        clear hsz
        go_wp2_with fail
        go_region
        all_goals
          go_wp2_with fail
          go_roundg t.size
          case rel => exact ⟨t.extract i t.size, by rw [HSZ.out]; omega, by rw [HSZ.out]; omega, hRR, ⟨blk_set (w := w1.drew) HA1.out 0 _⟩, ⟨HO1.out.drew.set 0 _⟩⟩
          case measure => omega
      · have k0 : (0 : Int) < (l'.length : Int) := by have := List.length_pos_iff.2 hnil; omega
        have hRR := Lib.hid (show R = .whole l' (t.extract i t.size) by rw [HU.out]; exact if_neg hnil)
        clear hnil
        go_wp2_with fail
        go_region
        all_goals
          go_wp2_with fail
          go_ret3
          exact ⟨by rw [hRR.out]; exact ⟨_, rfl, blk_set (w := w1.drew) HA1.out 0 _, R_str_only HL1.out ((Only.refl b w1).drew.set 0 _) hbl⟩, HO1.out.drew.set 0 _⟩
end Go.Proofs.YtbdfjiobegadjaaDoor.Rf
