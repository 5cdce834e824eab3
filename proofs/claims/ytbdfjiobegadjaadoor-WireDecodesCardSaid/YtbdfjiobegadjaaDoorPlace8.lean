/- The walk of the document's Decode. -/
import Derived.Test.YtbdfjiobegadjaaDoorPlace7
namespace Go.Proofs.YtbdfjiobegadjaaDoor.Pl
open Go Go.RowKit Go.Proofs.YtbdfjiobegadjaaDoor.Tk Go.Proofs.YtbdfjiobegadjaaDoor.PWireMemory Go.Proofs.YtbdfjiobegadjaaDoorW.PrintWords Go.Proofs.YtbdfjiobegadjaaDoorW.PrintLast Go.Proofs.YtbdfjiobegadjaaDoorW.PrintMore
set_option linter.unusedVariables false
set_option linter.unusedSectionVars false
set_option linter.unusedSimpArgs false
/-- What the document's Decode comes to. -/
def refV : Res S24 → List Value → Value
  | .ok x j, cs => .tuple #[.agg cs.toArray, .int .i64 j, .int .i64 0]
  | .no k, cs => .tuple #[.agg cs.toArray, .int .i64 0, .int .i64 (if k = 3 then 4 else 2)]
structure RefOk (R : Res S24) (W : World) (e : Ending) (W' : World) : Prop where
  end_ : ∃ c0 c1 c2 c3 : Value, e = .returned (refV R [c0, c1, c2, c3]) ∧ k24.M W' W.heap.size (fun _ => True) (decX R) [c0, c1, c2, c3]
  below : Below W.heap.size W W'
abbrev twoNewP (W : World) (s : ByteArray) : World := (W.alloc zero4).alloc (.cells #[.string s, .int .i64 0, .int .i64 1, .int .i64 0] 86)
theorem twoP_size (W : World) (s : ByteArray) : (twoNewP W s).heap.size = W.heap.size + 2 := by simp [twoNewP]
theorem twoP_at (W : World) (s : ByteArray) : PAt (twoNewP W s) (W.heap.size + 1) s ((0 : Nat) : Int) 1 0 := by
  have e1 : (W.alloc zero4).heap.size = W.heap.size + 1 := by simp
  show (twoNewP W s).heap[W.heap.size + 1]? = _
  rw [← e1]
  exact (MapKept.heap_alloc _ _).1
theorem twoP_res (W : World) (s : ByteArray) : RAt (twoNewP W s) W.heap.size (.int .i64 0) (.int .i64 0) (.string ⟨#[]⟩) (.slice none 0 0) := by
  show (twoNewP W s).heap[W.heap.size]? = _
  rw [(MapKept.heap_alloc _ _).2 _ (by simp)]
  exact (MapKept.heap_alloc _ _).1
theorem twoP_below (W : World) (s : ByteArray) : Below W.heap.size W (twoNewP W s) := below_alloc (below_alloc (Below.refl _ _) _) _
theorem pans_zero (W : World) (b : Nat) (s : ByteArray) (hs : s.size ≤ 140737488351232) (h : PAt W b s ((0 : Nat) : Int) 1 0) :
    Calls Tryd.prog 34 #[.pointer (some ⟨b, 0, none⟩), .int .i64 0] W (PAnsOk b s (ansS s 4 0) W) := pans_any b s hs 4 0 rfl W 0 _ 0 h rfl
set_option maxHeartbeats 2000000 in
theorem refdec_R (W : World) (s : ByteArray) (hs : s.size ≤ 140737488351232) (R : Res S24) (hR : ansS s 4 0 = R) :
    Calls Tryd.prog 11 #[.string s] W (RefOk R W) := by
  have h2 := twoP_size W s
  have H2 := Aside0.mk h2
  clear h2
  go_enter Tryd.func11, Tryd.ntmps11
  go_wp2_with fail
  refine (pans_zero _ (W.heap.size + 1) s hs (by exact (twoP_at W s))).mono ?_
  rintro e w2 ⟨⟨x, c0, c1, c2, c3, rfl, hM, hxr⟩, ha2, ho2⟩
  obtain ⟨A3, cp3, hcs⟩ := M_form hM
  simp only [List.cons.injEq, and_true] at hcs
  obtain ⟨rfl, rfl, rfl, rfl⟩ := hcs
  have ho2' : Only (W.heap.size + 1) (twoNewP W s) w2 := ho2
  have hM' : k24.M w2 (twoNewP W s).heap.size (fun _ => True) x _ := hM
  have HR2 := Aside0.mk ((twoP_res W s).only ho2' (by omega))
  have HS := Aside0.mk (show W.heap.size + 2 ≤ w2.heap.size by have := ho2'.size; have := H2.out; omega)
  have HB := Aside0.mk (show Below W.heap.size W w2 from (twoP_below W s).trans (ho2'.below (by omega) (by have := H2.out; omega)))
  have HM := Aside0.mk hM'
  obtain ⟨⟨m0, m1, m2, m3⟩, n0, n1, n2, n3⟩ := HR2.out.cells
  clear hM hM' ho2 ho2'
  have zlt : W.heap.size + 1 < w2.heap.size := by have := HS.out; omega
  have zlt0 : W.heap.size < w2.heap.size := by omega
  rw [hR] at ha2 hxr
  cases R with
  | no k =>
    obtain ⟨r, i2, e2, ha2⟩ := ha2
    unfold wh at ha2
    by_cases hk : k = 3
    · rw [if_pos hk] at ha2
      obtain ⟨⟨g0, g1, g2, g3⟩, _⟩ := PAt.cells ha2
      obtain ⟨⟨z0, z1, z2, z3⟩, _⟩ := (rat_final HR2.out (.int .i64 0) (.int .i64 0) (.string ⟨#[]⟩) (.slice none 0 0) (.cells #[.int .i64 x.f0, .int .i64 x.f1, .string x.f2, .slice A3 x.f3.length cp3] 24)).cells
      clear ha2 hxr hR
      go_wp2_with fail
      refine bodyPost_ret (v := refV (.no k) [.int .i64 0, .int .i64 0, .string ⟨#[]⟩, .slice none 0 0]) (by simp [refV, hk, results, Tryd.results11, go_sem, z0, z1, z2, z3]) rfl ⟨⟨_, _, _, _, rfl, plain_M _ _ 0 0 ⟨#[]⟩⟩, ?_⟩
      exact below_alloc (put4_below _ _ _ _ _ HB.out (Nat.le_refl _)) _
    · rw [if_neg hk] at ha2
      obtain ⟨⟨g0, g1, g2, g3⟩, _⟩ := PAt.cells ha2
      obtain ⟨⟨z0, z1, z2, z3⟩, _⟩ := (rat_final HR2.out (.int .i64 0) (.int .i64 0) (.string ⟨#[]⟩) (.slice none 0 0) (.cells #[.int .i64 x.f0, .int .i64 x.f1, .string x.f2, .slice A3 x.f3.length cp3] 24)).cells
      clear ha2 hxr hR
      go_wp2_with fail
      refine bodyPost_ret (v := refV (.no k) [.int .i64 0, .int .i64 0, .string ⟨#[]⟩, .slice none 0 0]) (by simp [refV, hk, results, Tryd.results11, go_sem, z0, z1, z2, z3]) rfl ⟨⟨_, _, _, _, rfl, plain_M _ _ 0 0 ⟨#[]⟩⟩, ?_⟩
      exact below_alloc (put4_below _ _ _ _ _ HB.out (Nat.le_refl _)) _
  | ok y j =>
    obtain ⟨e2, ha2⟩ := ha2
    obtain ⟨⟨g0, g1, g2, g3⟩, _⟩ := PAt.cells ha2
    obtain rfl := hxr y j rfl
    obtain ⟨⟨z0, z1, z2, z3⟩, _⟩ := (rat_final HR2.out (.int .i64 x.f0) (.int .i64 x.f1) (.string x.f2) (.slice A3 x.f3.length cp3) (.cells #[.int .i64 x.f0, .int .i64 x.f1, .string x.f2, .slice A3 x.f3.length cp3] 24)).cells
    clear ha2 hxr hR
    go_wp2_with fail
    go_region
    all_goals
      go_wp2_with fail
      refine bodyPost_ret (v := refV (.ok x j) [.int .i64 x.f0, .int .i64 x.f1, .string x.f2, .slice A3 x.f3.length cp3]) (by simp [refV, results, Tryd.results11, go_sem, z0, z1, z2, z3]) rfl ⟨⟨_, _, _, _, rfl, ?_⟩, ?_⟩
      · exact Kd.M_drewN (Kd.M_alloc (k24.M_lower (by have := H2.out; omega) (M_put4 _ _ _ _ HM.out (by have := H2.out; omega))) _) 1
      · exact below_final HB.out _ _ _ _ _
theorem refdec_any (W : World) (s : ByteArray) (hs : s.size ≤ 140737488351232) : Calls Tryd.prog 11 #[.string s] W (RefOk (ansS s 4 0) W) := refdec_R W s hs _ rfl
/-- The refusals that Decode may come to. -/
def two {α : Type} : Res α → Prop
  | .ok _ _ => True
  | .no k => k = 1 ∨ k = 3
theorem two_as {α β : Type} {R : Res α} (x : β) (h : two R) : two (R.as x) := by cases R <;> exact h
theorem two_map {α β : Type} {R : Res α} (f : α → β) (h : two R) : two (R.map f) := by cases R <;> exact h
theorem expect_two (s : ByteArray) : ∀ (l : List UInt8) (i : Nat), two (expect s l i)
  | [], i => by simp only [expect]; exact trivial
  | c :: l, i => by
    rw [expect]
    split
    · split
      · exact expect_two s l _
      · exact .inl rfl
    · exact .inr rfl
theorem digs_two (s : ByteArray) (most : Nat) : ∀ (f n : Nat) (first : Bool) (i : Nat), two (digs s most f n first i)
  | 0, _, _, _ => .inr rfl
  | f + 1, n, first, i => by
    rw [digs]
    split
    · exact two_as _ (expect_two s _ _)
    · split
      · exact .inl rfl
      · exact digs_two s most f _ _ _
theorem lin_two (s : ByteArray) : ∀ (f m i : Nat), two (lin s f m i)
  | 0, _, _ => .inr rfl
  | f + 1, m, i => by
    rw [lin]
    split
    · exact two_as _ (expect_two s _ _)
    · split
      · exact .inl rfl
      · exact lin_two s f _ _
theorem numS_two (s : ByteArray) (i : Nat) : two (numS s i) := by
  unfold numS
  split
  · exact .inr rfl
  · split
    · exact two_map _ (digs_two _ _ _ _ _ _)
    · split
      · exact .inr rfl
      · split
        · exact .inl rfl
        · exact two_map _ (digs_two _ _ _ _ _ _)
theorem bulkS_two (s : ByteArray) (i : Nat) : two (bulkS s i) := by
  unfold bulkS
  split
  · exact .inr rfl
  · split
    · exact two_as _ (expect_two s _ _)
    · have := digs_two s 65536 (s.size - i) 0 true i
      split
      · rename_i k hk; rw [hk] at this; exact this
      · split
        · exact .inr rfl
        · exact two_as _ (expect_two s _ _)
theorem itemsS_two {f : Nat → Res S24} (hf : ∀ j, two (f j)) : ∀ (n j : Nat), two (itemsS f n j)
  | 0, j => by rw [itemsS]; exact trivial
  | n + 1, j => by
    rw [itemsS]
    have := hf j
    split
    · rename_i k hk; rw [hk] at this; exact this
    · exact two_map _ (itemsS_two hf n _)
theorem listS_two {s : ByteArray} {f : Nat → Res S24} (hf : ∀ j, two (f j)) (i : Nat) : two (listS s f i) := by
  unfold listS
  split
  · exact .inr rfl
  · have := digs_two s 2000 (s.size - i) 0 true i
    split
    · rename_i k hk; rw [hk] at this; exact this
    · exact two_map _ (itemsS_two hf _ _)
theorem headS_two {s : ByteArray} {f : Nat → Res S24} (hf : ∀ j, two (f j)) (i : Nat) : two (headS s f i) := by
  unfold headS
  split
  · exact .inr rfl
  · split
    · exact two_map _ (lin_two _ _ _ _)
    · split
      · exact two_map _ (lin_two _ _ _ _)
      · split
        · exact two_map _ (numS_two _ _)
        · split
          · exact bulkS_two _ _
          · split
            · exact hf _
            · exact .inl rfl
theorem ansS_two (s : ByteArray) : ∀ (d j : Nat), two (ansS s d j)
  | 0, j => headS_two (f := fun _ => .no 1) (fun _ => Or.inl rfl) j
  | d + 1, j => headS_two (fun _ => listS_two (ansS_two s d) _) j
end Go.Proofs.YtbdfjiobegadjaaDoor.Pl
