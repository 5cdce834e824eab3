/- The walks of the document's place: a counted text. -/
import Derived.Test.YtbdfjiobegadjaaDoorPlace4
import Derived.Test.YtbdfjiobegadjaaDoorDecode
namespace Go.Proofs.YtbdfjiobegadjaaDoor.Pl
open Go Go.RowKit Go.Proofs.YtbdfjiobegadjaaDoor.Tk Go.Proofs.YtbdfjiobegadjaaDoor.PWireMemory Go.Proofs.YtbdfjiobegadjaaDoorW.PrintWords Go.Proofs.YtbdfjiobegadjaaDoorW.PrintLast Go.Proofs.YtbdfjiobegadjaaDoorW.PrintMore
set_option linter.unusedVariables false
set_option linter.unusedSectionVars false
set_option linter.unusedSimpArgs false
theorem next_no {D : Res Nat} {p : Nat → Res Unit} {k : Nat} (h : (nextR D fun n j => (p j).as n) = .no k) : (nextR D fun _ j => p j) = .no k := by
  cases D with
  | no k' => simpa [nextR] using h
  | ok n j => simp only [nextR] at h ⊢; cases hp : p j with
    | ok u j' => rw [hp] at h; cases h
    | no k' => rw [hp] at h; simpa [Res.as] using h
theorem next_ok {D : Res Nat} {p : Nat → Res Unit} {n j : Nat} (h : (nextR D fun n j => (p j).as n) = .ok n j) : (nextR D fun _ j => p j) = .ok () j ∧ ∃ j0, D = .ok n j0 := by
  cases D with
  | no k' => cases h
  | ok m j0 => simp only [nextR] at h ⊢; cases hp : p j0 with
    | ok u j' => rw [hp] at h; simp only [Res.as, Res.ok.injEq] at h; obtain ⟨rfl, rfl⟩ := h; exact ⟨rfl, j0, rfl⟩
    | no k' => rw [hp] at h; cases h
theorem pahead_nextN {α β : Type} {b : Nat} {s : ByteArray} {W : World} {R : Res β} {S : Res α} (i0 : Nat) (p : Nat → Res α) (h : PLeaves W b s R) (hS : (nextR R fun _ j => p j) = S) : ∃ j, PAhead b s j (p j) S W := by
  cases R with
  | ok a j => exact ⟨j, .inl ⟨h, hS⟩⟩
  | no k => exact ⟨i0, .inr ⟨k, h, hS.symm⟩⟩
structure PAnsOk (b : Nat) (s : ByteArray) (R : Res S24) (W : World) (e : Ending) (W' : World) : Prop where
  end_ : ∃ (x : S24) (c0 c1 c2 c3 : Value), e = .returned (.agg #[c0, c1, c2, c3]) ∧ k24.M W' W.heap.size (fun _ => True) x [c0, c1, c2, c3] ∧ ∀ a j, R = .ok a j → x = a
  at_ : PLeaves W' b s R
  only : Only b W W'
theorem pat_alloc {W : World} {b : Nat} {s : ByteArray} {i y e : Int} (h : PAt W b s i y e) (o : Obj) : PAt (W.alloc o) b s i y e := ((MapKept.heap_alloc W o).2 b (blk_lt h)).trans h
theorem put4_pat {b g : Nat} {w : World} {s : ByteArray} {i y e : Int} (c0 c1 c2 c3 : Value) (h : PAt w b s i y e) (hg : b ≠ g) : PAt (put4 w g c0 c1 c2 c3) b s i y e := (put4_heap w g b _ _ _ _ hg).trans h
theorem put4_pleaves {α : Type} {b g : Nat} {w : World} {s : ByteArray} {R : Res α} (c0 c1 c2 c3 : Value) (h : PLeaves w b s R) (hg : b ≠ g) : PLeaves (put4 w g c0 c1 c2 c3) b s R := by
  cases R with
  | ok a i => obtain ⟨e, h⟩ := h; exact ⟨e, put4_pat _ _ _ _ h hg⟩
  | no j => obtain ⟨r, i, e, h⟩ := h; exact ⟨r, i, e, put4_pat _ _ _ _ h hg⟩
theorem dig_K (W : World) (b : Nat) (s : ByteArray) (i0 : Nat) (R : Res Nat) (hs : s.size ≤ 140737488351232) (hi0 : i0 ≤ s.size) (h : PAhead b s i0 (digR s 65536 (s.size - i0) 0 true i0) R W) :
    Calls Tryd.prog 75 #[.pointer (some ⟨b, 0, none⟩), .int .u64 65536] W (DigOk b s 65536 R W) := digits_any W b s 65536 i0 R hs (by decide) (by decide) hi0 h
theorem dig_L (W : World) (b : Nat) (s : ByteArray) (i0 : Nat) (R : Res Nat) (hs : s.size ≤ 140737488351232) (hi0 : i0 ≤ s.size) (h : PAhead b s i0 (digR s 2000 (s.size - i0) 0 true i0) R W) :
    Calls Tryd.prog 75 #[.pointer (some ⟨b, 0, none⟩), .int .u64 2000] W (DigOk b s 2000 R W) := digits_any W b s 2000 i0 R hs (by decide) (by decide) hi0 h
theorem pbad_cells {W : World} {b k : Nat} (h : PBad W b k) : ∃ (s : ByteArray) (i e : Int), PAt W b s i (wh k) e := h
theorem wrap_nat (v : Nat) (h : v ≤ 65536) : wrap64 (v : Int) = v := by unfold wrap64; omega
set_option maxHeartbeats 4000000 in
theorem pbulk_end (W : World) (b : Nat) (s : ByteArray) (i : Nat) (e0 : Int) (hs : s.size ≤ 140737488351232) (h : PAt W b s i 1 e0) (hi : ¬ i < s.size) :
    Calls Tryd.prog 60 #[.pointer (some ⟨b, 0, none⟩)] W (PAnsOk b s (.no 3) W) := by
  have hbl := blk_lt h
  have H := Aside0.mk h
  have HI := Aside0.mk hi
  clear h hi
  have HO0 := Aside0.mk ((Only.refl b W).alloc zero4)
  go_enter Tryd.func60, Tryd.ntmps60
  go_wp2_with (first | (go_at_call 56; refine (here_end _ b s i e0 hs HI.out (by exact (pat_alloc H.out _))).mono ?_; rintro e w1 ⟨rfl, ha1, ho1⟩; have HA1 := Aside0.mk ha1; have HO1 := Aside0.mk (HO0.out.trans ho1); have HR1 := Aside0.mk ((ralloc W).only ho1 (by omega)); clear ha1 ho1) | (go_at_call 75; refine (dig_K _ b s 0 (.no 3) hs (by omega) (.inr ⟨3, ⟨s, i, e0, HA1.out⟩, rfl⟩)).mono ?_; rintro e w2 ⟨⟨v, hv, rfl, hvr⟩, ⟨s2, i2, e2, ha2⟩, ho2⟩; have HA2 := Aside0.mk ha2; have HO2 := Aside0.mk (HO1.out.trans ho2); have HR2 := Aside0.mk (HR1.out.only ho2 (by omega)); clear hvr ha2 ho2) | (go_at_call 59; refine (crlf_any _ b s 0 (.no 3) hs (.inr ⟨3, ⟨s2, i2, e2, HA2.out⟩, rfl⟩)).mono ?_; rintro e w3 ⟨rfl, ⟨s3, i3, e3, ha3⟩, ho3⟩; obtain ⟨⟨g0, g1, g2, g3⟩, _⟩ := PAt.cells ha3; obtain ⟨⟨m0, m1, m2, m3⟩, n0, n1, n2, n3⟩ := (HR2.out.only ho3 (by omega)).cells; have hw := wh_ne 3; have HA3 := Aside0.mk ha3; have HO3 := Aside0.mk (HO2.out.trans ho3); clear ha3 ho3))
  refine bodyPost_ret (v := .agg #[.int .i64 0, .int .i64 0, .string ⟨#[]⟩, .slice none 0 0]) (by simp [results, Tryd.results60, go_sem, m0, m1, m2, m3, n0, n1, n2, n3]) rfl ⟨⟨_, _, _, _, _, rfl, plain_M _ _ 0 0 ⟨#[]⟩, fun a j he => ?_⟩, ?_, ?_⟩
  · cases he
  · exact put4_pleaves _ _ _ _ (R := Res.no (α := S24) 3) ⟨s3, i3, e3, HA3.out⟩ (by omega)
  · exact put4_only _ _ _ _ HO3.out
set_option maxHeartbeats 4000000 in
theorem pbulk_dash (W : World) (b : Nat) (s : ByteArray) (i : Nat) (R : Res S24) (e0 : Int) (hs : s.size ≤ 140737488351232) (h : PAt W b s i 1 e0) (hi : i < s.size) (hm : ((s[i]).toNat : Int) = 45)
    (e : (expect s [49, 13, 10] (i + 1)).as ⟨5, 0, ⟨#[]⟩, []⟩ = R) :
    Calls Tryd.prog 60 #[.pointer (some ⟨b, 0, none⟩)] W (PAnsOk b s R W) := by
  have hbl := blk_lt h
  have H := Aside0.mk h
  have hr := (s[i]).toNat_lt
  have HR := Aside0.mk e.symm
  have HX := Aside0.mk (expect_cons s 49 [13, 10] (i + 1))
  have hmb : (((s[i]).toNat : Int) == 45) = true := beq_iff_eq.mpr hm
  clear h hm e
  have HO0 := Aside0.mk ((Only.refl b W).alloc zero4)
  go_enter Tryd.func60, Tryd.ntmps60
  go_wp2_with (first | (go_at_call 56; refine (here_some _ b s i e0 hs hi (by exact (pat_alloc H.out _))).mono ?_; rintro e w1 ⟨rfl, ha1, ho1⟩; obtain ⟨⟨g0, g1, g2, g3⟩, q1, q2, q3⟩ := PAt.cells ha1; have HA1 := Aside0.mk (ha1.set1 ((i : Int) + 1)); have HO1 := Aside0.mk ((HO0.out.trans ho1).set 1 (.int .i64 ((i : Int) + 1))); have HR1 := Aside0.mk (((ralloc W).only ho1 (by omega)).only ((Only.refl b _).set 1 (.int .i64 ((i : Int) + 1))) (by omega)); clear ha1 ho1) | (go_at_call 76; refine (must_49 _ b s (i + 1) _ hs (.inl ⟨⟨e0, by exact HA1.out⟩, rfl⟩)).mono ?_; rintro e w2 ⟨rfl, ha2, ho2⟩; obtain ⟨j2, ha2⟩ := pahead_next i (fun j => expect s [13, 10] j) ha2 rfl; rw [← HX.out] at ha2; have HA2 := Aside0.mk ha2; have HO2 := Aside0.mk (HO1.out.trans ho2); have HR2 := Aside0.mk (HR1.out.only ho2 (by omega)); clear ha2 ho2) | (go_at_call 59; refine (crlf_any _ b s j2 _ hs HA2.out).mono ?_; rintro e w3 ⟨rfl, ha3, ho3⟩; obtain ⟨⟨m0, m1, m2, m3⟩, n0, n1, n2, n3⟩ := (HR2.out.only ho3 (by omega)).cells; have HA3 := Aside0.mk ha3; have HO3 := Aside0.mk (HO2.out.trans ho3); clear ha3 ho3))
  refine bodyPost_ret (v := .agg #[.int .i64 5, .int .i64 0, .string ⟨#[]⟩, .slice none 0 0]) (by simp [results, Tryd.results60, go_sem, m0, m1, m2, m3, n0, n1, n2, n3]) rfl ⟨⟨_, _, _, _, _, rfl, plain_M _ _ 5 0 ⟨#[]⟩, fun a j he => ?_⟩, ?_, ?_⟩
  · rw [HR.out] at he; exact (as_ok he).1.symm
  · rw [HR.out]; exact put4_pleaves _ _ _ _ (pleaves_as _ HA3.out) (by omega)
  · exact put4_only _ _ _ _ HO3.out
set_option maxRecDepth 100000 in
set_option maxHeartbeats 4000000 in
theorem pbulk_digits (W : World) (b : Nat) (s : ByteArray) (i : Nat) (R : Res S24) (e0 : Int) (hs : s.size ≤ 140737488351232) (h : PAt W b s i 1 e0) (hi : i < s.size) (hm : ¬ ((s[i]).toNat : Int) = 45)
    (e : (match digs s 65536 (s.size - i) 0 true i with
    | .no k => .no k
    | .ok n j => if s.size - j < n then .no 3 else (expect s [13, 10] (j + n)).as ⟨4, 0, s.extract j (j + n), []⟩) = R) :
    Calls Tryd.prog 60 #[.pointer (some ⟨b, 0, none⟩)] W (PAnsOk b s R W) := by
  have hbl := blk_lt h
  have H := Aside0.mk h
  have hr := (s[i]).toNat_lt
  have hmb : (((s[i]).toNat : Int) == 45) = false := beq_eq_false_iff_ne.mpr hm
  have HO0 := Aside0.mk ((Only.refl b W).alloc zero4)
  clear h hm
  have hx0 := digs_digR s 65536 (s.size - i) 0 true i (by omega)
  cases hx : digs s 65536 (s.size - i) 0 true i with
  | no k =>
    rw [hx] at e
    have HR := Aside0.mk e.symm
    have HN := Aside0.mk (next_no (hx0.symm.trans hx))
    clear e hx hx0
    go_enter Tryd.func60, Tryd.ntmps60
    go_wp2_with fail
    go_at_call 56; refine (here_some _ b s i e0 hs hi (by exact (pat_alloc H.out _))).mono ?_; rintro e w1 ⟨rfl, ha1, ho1⟩; have HA1 := Aside0.mk ha1; have HO1 := Aside0.mk (HO0.out.trans ho1); have HR1 := Aside0.mk ((ralloc W).only ho1 (by omega)); clear ha1 ho1
    go_wp2_with fail
    go_at_call 75; refine (dig_K _ b s i _ hs (by omega) (.inl ⟨⟨e0, HA1.out⟩, rfl⟩)).mono ?_; rintro e w2 ⟨⟨v, hv, rfl, hvr⟩, ha2, ho2⟩; obtain ⟨j2, ha2⟩ := pahead_nextN i (fun j => expect s [13, 10] j) ha2 HN.out; have HA2 := Aside0.mk ha2; have HO2 := Aside0.mk (HO1.out.trans ho2); have HR2 := Aside0.mk (HR1.out.only ho2 (by omega)); clear hvr ha2 ho2
    go_wp2_with fail
    go_at_call 59; refine (crlf_any _ b s j2 _ hs HA2.out).mono ?_; rintro e w3 ⟨rfl, ⟨s3, i3, e3, ha3⟩, ho3⟩; obtain ⟨⟨g0, g1, g2, g3⟩, _⟩ := PAt.cells ha3; obtain ⟨⟨m0, m1, m2, m3⟩, n0, n1, n2, n3⟩ := (HR2.out.only ho3 (by omega)).cells; have hw := wh_ne k; have HA3 := Aside0.mk ha3; have HO3 := Aside0.mk (HO2.out.trans ho3); clear ha3 ho3
    go_wp2_with fail
    refine bodyPost_ret (v := .agg #[.int .i64 0, .int .i64 0, .string ⟨#[]⟩, .slice none 0 0]) (by simp [results, Tryd.results60, go_sem, m0, m1, m2, m3, n0, n1, n2, n3]) rfl ⟨⟨_, _, _, _, _, rfl, plain_M _ _ 0 0 ⟨#[]⟩, fun a j he => ?_⟩, ?_, ?_⟩
    · rw [HR.out] at he; cases he
    · rw [HR.out]; exact put4_pleaves _ _ _ _ (R := Res.no (α := S24) k) ⟨s3, i3, e3, HA3.out⟩ (by omega)
    · exact put4_only _ _ _ _ HO3.out
  | ok n j =>
    rw [hx] at e
    simp only [] at e
    obtain ⟨hN, hD⟩ := next_ok (hx0.symm.trans hx)
    have HN := Aside0.mk hN
    have HD := Aside0.mk hD
    have hj : j ≤ s.size := digs_le hx (by omega)
    clear hx hx0 hN hD
    by_cases hn : s.size - j < n
    · rw [if_pos hn] at e
      have HR := Aside0.mk e.symm
      clear e
      have hn' : (s.size : Int) < (j : Int) + (n : Int) := by omega
      clear hn
      go_enter Tryd.func60, Tryd.ntmps60
      go_wp2_with fail
      go_at_call 56; refine (here_some _ b s i e0 hs hi (by exact (pat_alloc H.out _))).mono ?_; rintro e w1 ⟨rfl, ha1, ho1⟩; have HA1 := Aside0.mk ha1; have HO1 := Aside0.mk (HO0.out.trans ho1); have HR1 := Aside0.mk ((ralloc W).only ho1 (by omega)); clear ha1 ho1
      go_wp2_with fail
      go_at_call 75; refine (dig_K _ b s i _ hs (by omega) (.inl ⟨⟨e0, HA1.out⟩, rfl⟩)).mono ?_; rintro e w2 ⟨⟨v, hv, rfl, hvr⟩, ha2, ho2⟩; obtain ⟨j2, ha2⟩ := pahead_nextN i (fun j => expect s [13, 10] j) ha2 HN.out; obtain ⟨j0, hD⟩ := HD.out; obtain rfl := hvr _ _ hD; have hwv := wrap_nat v hv; have HA2 := Aside0.mk ha2; have HO2 := Aside0.mk (HO1.out.trans ho2); have HR2 := Aside0.mk (HR1.out.only ho2 (by omega)); clear hvr ha2 ho2 hD
      go_wp2_with fail
      go_at_call 59; refine (crlf_any _ b s j2 _ hs HA2.out).mono ?_; rintro e w3 ⟨rfl, ⟨e3, ha3⟩, ho3⟩; obtain ⟨⟨g0, g1, g2, g3⟩, q1, q2, q3⟩ := PAt.cells ha3; obtain ⟨⟨m0, m1, m2, m3⟩, n0, n1, n2, n3⟩ := (HR2.out.only ho3 (by omega)).cells; have HA3 := Aside0.mk ha3; have HO3 := Aside0.mk (HO2.out.trans ho3); clear ha3 ho3
      have hb3 : b < w3.heap.size := Nat.lt_of_lt_of_le hbl HO3.out.size
      have hbne1 : ¬ b = W.heap.size := by omega
      have hbne2 : ¬ W.heap.size = b := by omega
      go_wp2_with fail
      go_quiet (fail)
      go_wp2_with fail
      refine bodyPost_ret (v := .agg #[.int .i64 0, .int .i64 0, .string ⟨#[]⟩, .slice none 0 0]) (by simp [results, Tryd.results60, go_sem, m0, m1, m2, m3, n0, n1, n2, n3, hbne1, hbne2]) rfl ⟨⟨_, _, _, _, _, rfl, plain_M _ _ 0 0 ⟨#[]⟩, fun a j he => ?_⟩, ?_, ?_⟩
      · rw [HR.out] at he; cases he
      · rw [HR.out]; exact put4_pleaves _ _ _ _ (R := Res.no (α := S24) 3) ⟨s, _, _, (HA3.out.drewN _).set2 0⟩ (by omega)
      · exact put4_only _ _ _ _ ((HO3.out.drewN _).set 2 _)
    · rw [if_neg hn] at e
      have HR := Aside0.mk e.symm
      clear e
      have hn' : ¬ (s.size : Int) < (j : Int) + (n : Int) := by omega
      have hn2 : j + n ≤ s.size := by omega
      clear hn
      go_enter Tryd.func60, Tryd.ntmps60
      go_wp2_with fail
      go_at_call 56; refine (here_some _ b s i e0 hs hi (by exact (pat_alloc H.out _))).mono ?_; rintro e w1 ⟨rfl, ha1, ho1⟩; have HA1 := Aside0.mk ha1; have HO1 := Aside0.mk (HO0.out.trans ho1); have HR1 := Aside0.mk ((ralloc W).only ho1 (by omega)); clear ha1 ho1
      go_wp2_with fail
      go_at_call 75; refine (dig_K _ b s i _ hs (by omega) (.inl ⟨⟨e0, HA1.out⟩, rfl⟩)).mono ?_; rintro e w2 ⟨⟨v, hv, rfl, hvr⟩, ha2, ho2⟩; obtain ⟨j2, ha2⟩ := pahead_nextN i (fun j => expect s [13, 10] j) ha2 HN.out; obtain ⟨j0, hD⟩ := HD.out; obtain rfl := hvr _ _ hD; have hwv := wrap_nat v hv; have HA2 := Aside0.mk ha2; have HO2 := Aside0.mk (HO1.out.trans ho2); have HR2 := Aside0.mk (HR1.out.only ho2 (by omega)); clear hvr ha2 ho2 hD
      go_wp2_with fail
      go_at_call 59; refine (crlf_any _ b s j2 _ hs HA2.out).mono ?_; rintro e w3 ⟨rfl, ⟨e3, ha3⟩, ho3⟩; obtain ⟨⟨g0, g1, g2, g3⟩, q1, q2, q3⟩ := PAt.cells ha3; have HR3 := Aside0.mk (HR2.out.only ho3 (by omega)); have HA3 := Aside0.mk ha3; have HO3 := Aside0.mk (HO2.out.trans ho3); clear ha3 ho3
      have hb3 : b < w3.heap.size := Nat.lt_of_lt_of_le hbl HO3.out.size
      have hsum := Lib.hid (show (j : Int) + (v : Int) = ((j + v : Nat) : Int) by omega)
      go_wp2_with fail
      go_quiet (fail)
      go_wp2_with fail
      obtain ⟨⟨y0, y1, y2, y3⟩, yf0, yf1, yf2, yf3⟩ := (ralloc (w3.drewN (nq + 1))).cells
      have hsz : (w3.drewN (nq + 1)).heap.size = w3.heap.size := rfl
      obtain ⟨⟨x0, x1, x2, x3⟩, xf1, xf2, xf3⟩ := PAt.cells (pat_alloc (HA3.out.drewN (nq + 1)) zero4)
      rw [hsz] at y0 y1 y2 y3 yf0 yf1 yf2 yf3
      have hbne3 : ¬ b = w3.heap.size := by omega
      have hbne4 : ¬ w3.heap.size = b := by omega
      have hwr : IntKind.i64.wrap ((j : Int) + (v : Int)) = (j : Int) + (v : Int) := IntWalk.i64_in _ (by omega)
      have hle0 : (0 : Int) ≤ (j : Int) + (v : Int) := by omega
      have hle1 : (j : Int) ≤ (j : Int) + (v : Int) := by omega
      have hle2 : (j : Int) + (v : Int) ≤ (s.size : Int) := by omega
      go_region
      all_goals
        go_wp2_with fail
        have HWB := Aside0.mk (put4_below w3.heap.size (.int .i64 4) (.int .i64 0) (.string (s.extract j (j + v))) (.slice none 0 0) ((Below.refl w3.heap.size (w3.drewN (nq + 1))).alloc (Nat.le_refl _) zero4) (Nat.le_refl _))
        have HW5 := Aside0.mk (rat_put4 (ralloc (w3.drewN (nq + 1))) (.int .i64 4) (.int .i64 0) (.string (s.extract j (j + v))) (.slice none 0 0))
        have HWP := Aside0.mk (put4_pat (.int .i64 4) (.int .i64 0) (.string (s.extract j (j + v))) (.slice none 0 0) (pat_alloc (HA3.out.drewN (nq + 1)) zero4) hbne3)
        have hlt3 : W.heap.size < w3.heap.size := blk_lt HR3.out
        have HWR := Aside0.mk (show RAt (put4 ((w3.drewN (nq + 1)).alloc zero4) w3.heap.size (.int .i64 4) (.int .i64 0) (.string (s.extract j (j + v))) (.slice none 0 0)) W.heap.size _ _ _ _ from (HWB.out.block _ hlt3).trans HR3.out)
        have HWO := Aside0.mk ((HO3.out.drewN (nq + 1)).of_below_lt HWB.out (Nat.le_of_lt hlt3))
        refine (crlf_any _ b s (j + v) (expect s [13, 10] (j + v)) hs (.inl ⟨⟨e3, by rw [← hsum.out]; exact HWP.out.set1 _⟩, rfl⟩)).mono ?_
        rintro e w5 ⟨rfl, ha5, ho5⟩
        have ho5' : Only b (put4 ((w3.drewN (nq + 1)).alloc zero4) w3.heap.size (.int .i64 4) (.int .i64 0) (.string (s.extract j (j + v))) (.slice none 0 0)) w5 := ((Only.refl b _).set 1 _).trans ho5
        obtain ⟨⟨m0, m1, m2, m3⟩, n0, n1, n2, n3⟩ := (HWR.out.only ho5' (by omega)).cells
        obtain ⟨⟨l0, l1, l2, l3⟩, _⟩ := RAt.cells (show RAt w5 w3.heap.size _ _ _ _ from HW5.out.only ho5' hbne4)
        have HA5 := Aside0.mk ha5
        have HO5 := Aside0.mk (HWO.out.trans ho5')
        clear ha5 ho5 ho5'
        go_wp2_with fail
        refine bodyPost_ret (v := .agg #[.int .i64 4, .int .i64 0, .string (s.extract j (j + v)), .slice none 0 0]) (by simp [results, Tryd.results60, go_sem, m0, m1, m2, m3, n0, n1, n2, n3]) rfl ⟨⟨_, _, _, _, _, rfl, plain_M _ _ 4 0 _, fun a j he => ?_⟩, ?_, ?_⟩
        · rw [HR.out] at he; exact (as_ok he).1.symm
        · rw [HR.out]; exact put4_pleaves _ _ _ _ (pleaves_as _ HA5.out) (by omega)
        · exact put4_only _ _ _ _ HO5.out
theorem pbulk_any (W : World) (b : Nat) (s : ByteArray) (i : Nat) (R : Res S24) (e0 : Int) (hs : s.size ≤ 140737488351232) (h : PAt W b s i 1 e0) (e : bulkS s i = R) :
    Calls Tryd.prog 60 #[.pointer (some ⟨b, 0, none⟩)] W (PAnsOk b s R W) := by
  unfold bulkS at e
  by_cases hi : s.size ≤ i
  · rw [if_pos hi] at e
    subst e
    exact pbulk_end W b s i e0 hs h (by omega)
  · rw [if_neg hi, bt_nat s i (by omega)] at e
    by_cases hm : ((s[i]'(by omega)).toNat : Int) = 45
    · rw [if_pos hm] at e
      exact pbulk_dash W b s i R e0 hs h (by omega) hm e
    · rw [if_neg hm] at e
      exact pbulk_digits W b s i R e0 hs h (by omega) hm e
end Go.Proofs.YtbdfjiobegadjaaDoor.Pl
