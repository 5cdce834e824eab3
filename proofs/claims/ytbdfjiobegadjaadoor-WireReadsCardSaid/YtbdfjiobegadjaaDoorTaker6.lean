/- The walks of wire's taker: a counted text. -/
import Derived.Test.YtbdfjiobegadjaaDoorTaker5
namespace Go.Proofs.YtbdfjiobegadjaaDoor.Tk
open Go Go.RowKit Go.Proofs.YtbdfjiobegadjaaDoor.PWireMemory Go.Proofs.YtbdfjiobegadjaaDoorW.PrintWords Go.Proofs.YtbdfjiobegadjaaDoorW.PrintLast Go.Proofs.YtbdfjiobegadjaaDoorW.PrintMore
set_option linter.unusedVariables false
set_option linter.unusedSectionVars false
set_option linter.unusedSimpArgs false
/-- A counted text, or none. -/
def bulkS (s : ByteArray) (i : Nat) : Res S24 :=
  if s.size ≤ i then .no 3
  else if bt s i = 45 then (expect s [49, 13, 10] (i + 1)).as ⟨5, 0, ⟨#[]⟩, []⟩
  else match digs s 65536 (s.size - i) 0 true i with
    | .no k => .no k
    | .ok n j => if s.size - j < n then .no 3 else (expect s [13, 10] (j + n)).as ⟨4, 0, s.extract j (j + n), []⟩
structure AnsOk (b : Nat) (s : ByteArray) (ad : Nat → Addr) (R : Res S24) (W : World) (e : Ending) (W' : World) : Prop where
  end_ : ∃ (x : S24) (c0 c1 c2 c3 : Value), e = .returned (.agg #[c0, c1, c2, c3]) ∧ k24.M W' W.heap.size (fun _ => True) x [c0, c1, c2, c3] ∧ ∀ a j, R = .ok a j → x = a
  at_ : Leaves W' b s ad R
  only : Only b W W'
theorem plain_M (w : World) (base : Nat) (k n : Int) (t : ByteArray) : k24.M w base (fun _ => True) ⟨k, n, t, []⟩ [.int .i64 k, .int .i64 n, .string t, .slice none 0 0] :=
  k24_mkM w base _ ⟨k, n, t, []⟩ (Kd.R_nil _ _ _ _ _)
theorem tail_take (s : ByteArray) (j n : Nat) (hj : j ≤ s.size) (h : n ≤ s.size - j) : (tail s j).extract 0 n = s.extract j (j + n) := by
  unfold tail; rw [ByteArray.extract_extract]; congr 1; omega
theorem tail_drop (s : ByteArray) (j n : Nat) (hj : j ≤ s.size) (h : n ≤ s.size - j) : (tail s j).extract n (tail s j).size = tail s (j + n) := by
  rw [tail_size]; unfold tail; rw [ByteArray.extract_extract]; congr 1; omega
theorem expect_le {s : ByteArray} : ∀ {l : List UInt8} {i j : Nat} {u : Unit}, expect s l i = .ok u j → i ≤ s.size → j = i + l.length ∧ j ≤ s.size
  | [], i, j, u, h, hi => by simp only [expect, Res.ok.injEq] at h; exact ⟨by simp [h.2], by omega⟩
  | c :: l, i, j, u, h, hi => by
    rw [expect] at h
    split at h
    · split at h
      · have := expect_le h (by omega)
        exact ⟨by rw [this.1]; simp; omega, this.2⟩
      · cases h
    · cases h
theorem as_ok {α β : Type} {R : Res α} {x y : β} {j : Nat} (h : R.as x = .ok y j) : y = x ∧ ∃ u, R = .ok u j := by
  cases R with
  | ok u i => simp only [Res.as, Res.ok.injEq] at h; exact ⟨h.1.symm, u, by rw [h.2]⟩
  | no k => cases h
theorem digs_le {s : ByteArray} {most : Nat} : ∀ {f n : Nat} {first : Bool} {i a j : Nat}, digs s most f n first i = .ok a j → i + f = s.size → j ≤ s.size
  | 0, _, _, _, _, _, h, _ => by cases h
  | f + 1, n, first, i, a, j, h, hf => by
    rw [digs] at h
    split at h
    · obtain ⟨_, u, hu⟩ := as_ok h
      exact (expect_le hu (by omega)).2
    · split at h
      · cases h
      · exact digs_le h (by omega)
theorem good_alloc_at {W : World} {b : Nat} {r : ByteArray} {v : Value} (h : At W b r v) (o : Obj) : At (W.alloc o) b r v := ((MapKept.heap_alloc W o).2 b (blk_lt h)).trans h
/-- The result's own block. -/
def RAt (W : World) (g : Nat) (c0 c1 c2 c3 : Value) : Prop := W.heap[g]? = some (.cells #[c0, c1, c2, c3] 24 (0, 0))
theorem RAt.cells {W : World} {g : Nat} {c0 c1 c2 c3 : Value} (h : RAt W g c0 c1 c2 c3) : (W.cell? ⟨g, 0, none⟩ = some c0 ∧ W.cell? ⟨g, 1, none⟩ = some c1 ∧ W.cell? ⟨g, 2, none⟩ = some c2 ∧ W.cell? ⟨g, 3, none⟩ = some c3) ∧
    (W.frozen? ⟨g, 0, none⟩ = false ∧ W.frozen? ⟨g, 1, none⟩ = false ∧ W.frozen? ⟨g, 2, none⟩ = false ∧ W.frozen? ⟨g, 3, none⟩ = false) := by
  have h0 := blk_cell h 0
  have h1 := blk_cell h 1
  have h2 := blk_cell h 2
  have h3 := blk_cell h 3
  simp only [List.getElem?_toArray, List.getElem?_cons_zero, List.getElem?_cons_succ] at h0 h1 h2 h3
  exact ⟨⟨h0, h1, h2, h3⟩, blk_frozen h 0, blk_frozen h 1, blk_frozen h 2, blk_frozen h 3⟩
theorem RAt.only {W W' : World} {g b : Nat} {c0 c1 c2 c3 : Value} (h : RAt W g c0 c1 c2 c3) (ho : Only b W W') (hb : g ≠ b) : RAt W' g c0 c1 c2 c3 := (ho.keep g (blk_lt h) hb).trans h
abbrev zero4 : Obj := .cells #[.int .i64 0, .int .i64 0, .string ⟨#[]⟩, .slice none 0 0] 24
theorem ralloc (W : World) : RAt (W.alloc zero4) W.heap.size (.int .i64 0) (.int .i64 0) (.string ⟨#[]⟩) (.slice none 0 0) := (MapKept.heap_alloc W _).1
theorem count_K (W : World) (N b : Nat) (s : ByteArray) (ad : Nat → Addr) (R : Res Nat) (c : Int) (hs : s.size ≤ 140738562097152) (hN : N ≤ b) (hE : EN N W ad)
    (hc0 : 0 ≤ c) (hc1 : c ≤ 255) (h : Cnt b s ad 65536 R 0 0 c W) : Calls Tryd.prog 54 #[.pointer (some ⟨b, 0, none⟩), .int .u8 c, .int .u64 65536] W (CountOk b s ad 65536 R W) :=
  count_any W N b s ad 65536 R c hs (by decide) (by decide) hN hE hc0 hc1 h
abbrev put4 (w : World) (g : Nat) (c0 c1 c2 c3 : Value) : World := (((w.setCell ⟨g, 0, none⟩ c0).setCell ⟨g, 1, none⟩ c1).setCell ⟨g, 2, none⟩ c2).setCell ⟨g, 3, none⟩ c3
theorem put4_heap (w : World) (g k : Nat) (c0 c1 c2 c3 : Value) (h : k ≠ g) : (put4 w g c0 c1 c2 c3).heap[k]? = w.heap[k]? := by
  unfold put4
  rw [Below.heap_setCell _ ⟨g, 3, none⟩ _ k h, Below.heap_setCell _ ⟨g, 2, none⟩ _ k h, Below.heap_setCell _ ⟨g, 1, none⟩ _ k h, Below.heap_setCell _ ⟨g, 0, none⟩ _ k h]
theorem put4_below {B : Nat} {a w : World} (g : Nat) (c0 c1 c2 c3 : Value) (h : Below B a w) (hg : B ≤ g) : Below B a (put4 w g c0 c1 c2 c3) :=
  (((h.setCell hg _).setCell hg _).setCell hg _).setCell hg _
theorem put4_only {b : Nat} {W w : World} (c0 c1 c2 c3 : Value) (h : Only b W w) : Only b W (put4 w W.heap.size c0 c1 c2 c3) :=
  h.of_below_lt (put4_below _ c0 c1 c2 c3 (Below.refl _ _) (Nat.le_refl _)) (Nat.le_refl _)
theorem put4_leaves {α : Type} {b g : Nat} {w : World} {s : ByteArray} {ad : Nat → Addr} {R : Res α} (c0 c1 c2 c3 : Value) (h : Leaves w b s ad R) (hg : b ≠ g) : Leaves (put4 w g c0 c1 c2 c3) b s ad R := by
  cases R with
  | ok a i => exact (put4_heap w g b _ _ _ _ hg).trans h
  | no j => obtain ⟨r, h⟩ := h; exact ⟨r, (put4_heap w g b _ _ _ _ hg).trans h⟩
theorem put4_at {b g : Nat} {w : World} {r : ByteArray} {v : Value} (c0 c1 c2 c3 : Value) (h : At w b r v) (hg : b ≠ g) : At (put4 w g c0 c1 c2 c3) b r v := (put4_heap w g b _ _ _ _ hg).trans h
set_option maxHeartbeats 2000000 in
theorem bulk_bad (W : World) (N b : Nat) (s : ByteArray) (ad : Nat → Addr) (R : Res S24) (k : Nat) (hs : s.size ≤ 140738562097152) (hN : N ≤ b) (hE : EN N W ad) (h : Bad W b ad k) (e : R = .no k) :
    Calls Tryd.prog 53 #[.pointer (some ⟨b, 0, none⟩)] W (AnsOk b s ad R W) := by
  obtain ⟨r, h⟩ := h
  have hbl := blk_lt h
  have HE := Aside0.mk hE
  have H := Aside0.mk h
  have HR := Aside0.mk e
  clear h e hE
  have HO0 := Aside0.mk ((Only.refl b W).alloc zero4)
  go_enter Tryd.func53, Tryd.ntmps53
  go_wp2_with (first | (go_at_call 50; refine (byte_bad _ b r ad k (by exact (good_alloc_at H.out _))).mono ?_; rintro e w1 ⟨rfl, ha1, ho1⟩; obtain ⟨g0, g1, _, _⟩ := At.cells ha1; have HA1 := Aside0.mk ha1; have HO1 := Aside0.mk (HO0.out.trans ho1); have HR1 := Aside0.mk ((ralloc W).only ho1 (by omega)); clear ha1 ho1) | (go_at_call 54; refine (count_K _ N b s ad (.no k) 0 hs hN (HE.out.only HO1.out hN (Nat.le_of_lt hbl)) (by omega) (by omega) (.bad k ⟨_, HA1.out⟩ (by omega) rfl)).mono ?_; rintro e w2 ⟨⟨v, hv, rfl, hvr⟩, ha2, ho2⟩; obtain ⟨r2, ha2⟩ := ha2; obtain ⟨k0, k1, _, _⟩ := At.cells ha2; obtain ⟨⟨m0, m1, m2, m3⟩, n0, n1, n2, n3⟩ := (HR1.out.only ho2 (by omega)).cells; have HR2 := Aside0.mk (HR1.out.only ho2 (by omega)); have HA2 := Aside0.mk ha2; have HO2 := Aside0.mk ho2; clear hvr ha2 ho2))
  refine bodyPost_ret (v := .agg #[.int .i64 0, .int .i64 0, .string ⟨#[]⟩, .slice none 0 0]) (by simp [results, Tryd.results53, go_sem, m0, m1, m2, m3, n0, n1, n2, n3]) rfl ⟨⟨_, _, _, _, _, rfl, plain_M _ _ 0 0 ⟨#[]⟩, fun a j he => ?_⟩, ?_, ?_⟩
  · rw [HR.out] at he; cases he
  · rw [HR.out]; exact put4_leaves _ _ _ _ (R := Res.no (α := S24) k) ⟨r2, HA2.out⟩ (by omega)
  · exact put4_only _ _ _ _ (HO1.out.trans HO2.out)
theorem noS (k : Nat) {W : World} {b : Nat} {s : ByteArray} {ad : Nat → Addr} {r : ByteArray} (h : At W b r (ev ad k)) : Leaves W b s ad (Res.no (α := S24) k) := ⟨r, h⟩
theorem leaves_as {α β : Type} {W : World} {b : Nat} {s : ByteArray} {ad : Nat → Addr} {R : Res α} (x : β) (h : Leaves W b s ad R) : Leaves W b s ad (R.as x) := by cases R <;> exact h
theorem ahead_these {b : Nat} {s m : ByteArray} {ad : Nat → Addr} {i : Nat} {W : World} (h : Good W b s i) : Upto b s m ad i (expect s m.data.toList i) 0 W := .good h (by simp)
set_option maxHeartbeats 4000000 in
theorem bulk_good (W : World) (N b : Nat) (s : ByteArray) (ad : Nat → Addr) (i : Nat) (R : Res S24) (hs : s.size ≤ 140738562097152) (hN : N ≤ b) (hE : EN N W ad) (h : Good W b s i) (e : bulkS s i = R) :
    Calls Tryd.prog 53 #[.pointer (some ⟨b, 0, none⟩)] W (AnsOk b s ad R W) := by
  have hbl := blk_lt h
  have HE := Aside0.mk hE
  have H := Aside0.mk h
  clear h hE
  have HO0 := Aside0.mk ((Only.refl b W).alloc zero4)
  unfold bulkS at e
  by_cases hi : s.size ≤ i
  · rw [if_pos hi] at e
    have HR := Aside0.mk e.symm
    have HI := Aside0.mk (show ¬ i < s.size by omega)
    clear e hi
    go_enter Tryd.func53, Tryd.ntmps53
    go_wp2_with (first | (go_at_call 50; refine (byte_end _ b s i HI.out (by exact (good_alloc_at H.out _)) ad (by exact ((HE.out.only HO0.out hN (Nat.le_of_lt hbl)).errs.cell 3 (by omega)))).mono ?_; rintro e w1 ⟨rfl, ha1, ho1⟩; obtain ⟨g0, g1, _, _⟩ := At.cells ha1; have HA1 := Aside0.mk ha1; have HO1 := Aside0.mk (HO0.out.trans ho1); have HR1 := Aside0.mk ((ralloc W).only ho1 (by omega)); clear ha1 ho1) | (go_at_call 54; refine (count_K _ N b s ad (.no 3) 0 hs hN (HE.out.only HO1.out hN (Nat.le_of_lt hbl)) (by omega) (by omega) (.bad 3 ⟨_, HA1.out⟩ (by omega) rfl)).mono ?_; rintro e w2 ⟨⟨v, hv, rfl, hvr⟩, ha2, ho2⟩; obtain ⟨r2, ha2⟩ := ha2; obtain ⟨k0, k1, _, _⟩ := At.cells ha2; obtain ⟨⟨m0, m1, m2, m3⟩, n0, n1, n2, n3⟩ := (HR1.out.only ho2 (by omega)).cells; have HA2 := Aside0.mk ha2; have HO2 := Aside0.mk ho2; clear hvr ha2 ho2))
    refine bodyPost_ret (v := .agg #[.int .i64 0, .int .i64 0, .string ⟨#[]⟩, .slice none 0 0]) (by simp [results, Tryd.results53, go_sem, m0, m1, m2, m3, n0, n1, n2, n3]) rfl ⟨⟨_, _, _, _, _, rfl, plain_M _ _ 0 0 ⟨#[]⟩, fun a j he => ?_⟩, ?_, ?_⟩
    · rw [HR.out] at he; cases he
    · rw [HR.out]; exact put4_leaves _ _ _ _ (noS 3 HA2.out) (by omega)
    · exact put4_only _ _ _ _ (HO1.out.trans HO2.out)
  · rw [if_neg hi, bt_nat s i (by omega)] at e
    have hi' : i < s.size := by omega
    have hr := (s[i]).toNat_lt
    by_cases hm : ((s[i]).toNat : Int) = 45
    · rw [if_pos hm] at e
      have HR := Aside0.mk e.symm
      have hmb : (((s[i]).toNat : Int) == 45) = true := beq_iff_eq.mpr hm
      clear e hm hi
      go_enter Tryd.func53, Tryd.ntmps53
      go_wp2_with (first | (go_at_call 50; refine (byte_some _ b s i hi' (by exact (good_alloc_at H.out _))).mono ?_; rintro e w1 ⟨rfl, ha1, ho1⟩; obtain ⟨g0, g1, _, _⟩ := At.cells ha1; have HA1 := Aside0.mk ha1; have HO1 := Aside0.mk (HO0.out.trans ho1); have HR1 := Aside0.mk ((ralloc W).only ho1 (by omega)); clear ha1 ho1) | (go_at_call 73; refine (these_any _ N b s ⟨#[49, 13, 10]⟩ ad (i + 1) _ (by decide) hN (HE.out.only HO1.out hN (Nat.le_of_lt hbl)) (ahead_these HA1.out)).mono ?_; rintro e w2 ⟨rfl, ha2, ho2⟩; obtain ⟨⟨m0, m1, m2, m3⟩, n0, n1, n2, n3⟩ := (HR1.out.only ho2 (by omega)).cells; have HA2 := Aside0.mk ha2; have HO2 := Aside0.mk ho2; clear ha2 ho2))
      refine bodyPost_ret (v := .agg #[.int .i64 5, .int .i64 0, .string ⟨#[]⟩, .slice none 0 0]) (by simp [results, Tryd.results53, go_sem, m0, m1, m2, m3, n0, n1, n2, n3]) rfl ⟨⟨_, _, _, _, _, rfl, plain_M _ _ 5 0 ⟨#[]⟩, fun a j he => ?_⟩, ?_, ?_⟩
      · rw [HR.out] at he; exact (as_ok he).1.symm
      · rw [HR.out]; exact put4_leaves _ _ _ _ (leaves_as _ HA2.out) (by omega)
      · exact put4_only _ _ _ _ (HO1.out.trans HO2.out)
    · rw [if_neg hm] at e
      have hmb : (((s[i]).toNat : Int) == 45) = false := beq_eq_false_iff_ne.mpr hm
      have HB := Aside0.mk (bt_nat s i hi')
      clear hm hi
      cases hx : digs s 65536 (s.size - i) 0 true i with
      | no k =>
        rw [hx] at e
        have HR := Aside0.mk e.symm
        have HX := Aside0.mk hx
        clear e hx
        go_enter Tryd.func53, Tryd.ntmps53
        go_wp2_with (first | (go_at_call 50; refine (byte_some _ b s i hi' (by exact (good_alloc_at H.out _))).mono ?_; rintro e w1 ⟨rfl, ha1, ho1⟩; obtain ⟨g0, g1, _, _⟩ := At.cells ha1; have HA1 := Aside0.mk ha1; have HO1 := Aside0.mk (HO0.out.trans ho1); have HR1 := Aside0.mk ((ralloc W).only ho1 (by omega)); clear ha1 ho1) | (go_at_call 54; refine (count_K _ N b s ad (digs s 65536 (s.size - i) 0 true i) _ hs hN (HE.out.only HO1.out hN (Nat.le_of_lt hbl)) (by omega) (by omega) (.good i hi' (by omega) HB.out.symm HA1.out rfl)).mono ?_; rintro e w2 ⟨⟨v, hv, rfl, hvr⟩, ha2, ho2⟩; rw [HX.out] at ha2; obtain ⟨r2, ha2⟩ := ha2; obtain ⟨k0, k1, _, _⟩ := At.cells ha2; obtain ⟨⟨m0, m1, m2, m3⟩, n0, n1, n2, n3⟩ := (HR1.out.only ho2 (by omega)).cells; have HA2 := Aside0.mk ha2; have HO2 := Aside0.mk ho2; clear hvr ha2 ho2))
        refine bodyPost_ret (v := .agg #[.int .i64 0, .int .i64 0, .string ⟨#[]⟩, .slice none 0 0]) (by simp [results, Tryd.results53, go_sem, m0, m1, m2, m3, n0, n1, n2, n3]) rfl ⟨⟨_, _, _, _, _, rfl, plain_M _ _ 0 0 ⟨#[]⟩, fun a j he => ?_⟩, ?_, ?_⟩
        · rw [HR.out] at he; cases he
        · rw [HR.out]; exact put4_leaves _ _ _ _ (noS k HA2.out) (by omega)
        · exact put4_only _ _ _ _ (HO1.out.trans HO2.out)
      | ok n j =>
        rw [hx] at e
        simp only [] at e
        have HX := Aside0.mk hx
        have hj : j ≤ s.size := digs_le hx (by omega)
        clear hx
        have hts := tail_size s j
        by_cases hn : s.size - j < n
        · rw [if_pos hn] at e
          have HR := Aside0.mk e.symm
          clear e
          have hn' : ((tail s j).size : Int) < (n : Int) := by rw [hts]; omega
          clear hts
          go_enter Tryd.func53, Tryd.ntmps53
          go_wp2_with (first | (go_at_call 50; refine (byte_some _ b s i hi' (by exact (good_alloc_at H.out _))).mono ?_; rintro e w1 ⟨rfl, ha1, ho1⟩; obtain ⟨g0, g1, _, _⟩ := At.cells ha1; have HA1 := Aside0.mk ha1; have HO1 := Aside0.mk (HO0.out.trans ho1); have HR1 := Aside0.mk ((ralloc W).only ho1 (by omega)); clear ha1 ho1) | (go_at_call 54; refine (count_K _ N b s ad (digs s 65536 (s.size - i) 0 true i) _ hs hN (HE.out.only HO1.out hN (Nat.le_of_lt hbl)) (by omega) (by omega) (.good i hi' (by omega) HB.out.symm HA1.out rfl)).mono ?_; rintro e w2 ⟨⟨v, hv, rfl, hvr⟩, ha2, ho2⟩; rw [HX.out] at ha2; obtain rfl := hvr _ _ HX.out; have ha2' : At w2 b (tail s j) .nilIface := ha2; obtain ⟨k0, k1, k2, k3⟩ := At.cells ha2'; obtain ⟨⟨m0, m1, m2, m3⟩, n0, n1, n2, n3⟩ := (HR1.out.only ho2 (by omega)).cells; have HR2 := Aside0.mk (HR1.out.only ho2 (by omega)); have HA2 := Aside0.mk ha2'; have HO2 := Aside0.mk ho2; have hg3 := (HE.out.only (HO1.out.trans ho2) hN (Nat.le_of_lt hbl)).errs.cell 3 (by omega); have hbne1 : ¬ b = W.heap.size := (by omega); have hbne2 : ¬ W.heap.size = b := (by omega); clear hvr ha2 ho2 ha2'))
          refine bodyPost_ret (v := .agg #[.int .i64 0, .int .i64 0, .string ⟨#[]⟩, .slice none 0 0]) (by simp [results, Tryd.results53, go_sem, m0, m1, m2, m3, n0, n1, n2, n3, hbne1, hbne2]) rfl ⟨⟨_, _, _, _, _, rfl, plain_M _ _ 0 0 ⟨#[]⟩, fun a j he => ?_⟩, ?_, ?_⟩
          · rw [HR.out] at he; cases he
          · rw [HR.out]; exact put4_leaves _ _ _ _ (noS 3 (HA2.out.set1 _)) (by omega)
          · exact put4_only _ _ _ _ ((HO1.out.trans HO2.out).set 1 _)
        · rw [if_neg hn] at e
          have HR := Aside0.mk e.symm
          clear e
          have hn' : ¬ ((tail s j).size : Int) < (n : Int) := by rw [hts]; omega
          have hn2 : n ≤ (tail s j).size := by rw [hts]; omega
          have HT := Aside0.mk (tail_take s j n hj (by omega))
          have HD := Aside0.mk (tail_drop s j n hj (by omega))
          clear hts hn
          go_enter Tryd.func53, Tryd.ntmps53
          go_wp2_with (first | (go_at_call 50; refine (byte_some _ b s i hi' (by exact (good_alloc_at H.out _))).mono ?_; rintro e w1 ⟨rfl, ha1, ho1⟩; obtain ⟨g0, g1, _, _⟩ := At.cells ha1; have HA1 := Aside0.mk ha1; have HO1 := Aside0.mk (HO0.out.trans ho1); have HR1 := Aside0.mk ((ralloc W).only ho1 (by omega)); clear ha1 ho1) | (go_at_call 54; refine (count_K _ N b s ad (digs s 65536 (s.size - i) 0 true i) _ hs hN (HE.out.only HO1.out hN (Nat.le_of_lt hbl)) (by omega) (by omega) (.good i hi' (by omega) HB.out.symm HA1.out rfl)).mono ?_; rintro e w2 ⟨⟨v, hv, rfl, hvr⟩, ha2, ho2⟩; rw [HX.out] at ha2; obtain rfl := hvr _ _ HX.out; have ha2' : At w2 b (tail s j) .nilIface := ha2; obtain ⟨k0, k1, k2, k3⟩ := At.cells ha2'; have HR2 := Aside0.mk (HR1.out.only ho2 (by omega)); have HA2 := Aside0.mk ha2'; have HO2 := Aside0.mk ho2; clear hvr ha2 ho2 ha2') | (go_at_call 73; rw [HD.out]; refine (these_any _ N b s ⟨#[13, 10]⟩ ad (j + v) _ (by decide) hN (HE.out.only ((HO1.out.trans HO2.out).set 0 _) hN (Nat.le_of_lt hbl)) (ahead_these (HA2.out.set0 _))).mono ?_; rintro e w3 ⟨rfl, ha3, ho3⟩; obtain ⟨⟨m0, m1, m2, m3⟩, n0, n1, n2, n3⟩ := ((HR2.out.only ((Only.refl b _).set 0 _) (by omega)).only ho3 (by omega)).cells; have HA3 := Aside0.mk ha3; have HO3 := Aside0.mk ho3; clear ha3 ho3))
          refine bodyPost_ret (v := .agg #[.int .i64 4, .int .i64 0, .string (s.extract j (j + v)), .slice none 0 0]) (by simp [results, Tryd.results53, go_sem, m0, m1, m2, m3, n0, n1, n2, n3, HT.out]) rfl ⟨⟨_, _, _, _, _, rfl, plain_M _ _ 4 0 _, fun a j he => ?_⟩, ?_, ?_⟩
          · rw [HR.out] at he; exact (as_ok he).1.symm
          · rw [HR.out]; exact put4_leaves _ _ _ _ (leaves_as _ HA3.out) (by omega)
          · exact put4_only _ _ _ _ (((HO1.out.trans HO2.out).set 0 _).trans HO3.out)
end Go.Proofs.YtbdfjiobegadjaaDoor.Tk
