/- The walk of the law: what wire.Decode and the document's Decode answer is compared, and is the same. -/
import Derived.Test.YtbdfjiobegadjaaDoorPlace8
import Derived.Test.YtbdfjiobegadjaaDoorSame
import Derived.Test.YtbdfjiobegadjaaDoorNum
namespace Go.Proofs.YtbdfjiobegadjaaDoor.Pl
open Go Go.RowKit Go.Proofs.YtbdfjiobegadjaaDoor.Tk Go.Proofs.YtbdfjiobegadjaaDoor.PWireMemory Go.Proofs.YtbdfjiobegadjaaDoorW.PrintWords Go.Proofs.YtbdfjiobegadjaaDoorW.PrintLast Go.Proofs.YtbdfjiobegadjaaDoorW.PrintMore
set_option linter.unusedVariables false
set_option linter.unusedSectionVars false
set_option linter.unusedSimpArgs false
theorem en_of {W : World} {ad : Nat → Addr} (h : Errs W ad) : EN W.heap.size W ad := by
  refine ⟨h, ?_, fun i hi => ?_⟩
  · have := h.cell 12 (by omega)
    by_cases hl : 13 ≤ W.heap.size
    · exact hl
    · exfalso
      simp only [World.cell?] at this
      rw [Array.getElem?_eq_none (by omega)] at this
      cases this
  · obtain ⟨c, t, hb⟩ := h.blk i hi
    exact blk_lt hb
theorem errs_below {W W' : World} {ad : Nat → Addr} (h : Errs W ad) (hb : Below W.heap.size W W') : Errs W' ad := ((en_of h).below hb).errs
theorem k_form {w : World} {base : Nat} {x : S24} {c0 c1 c2 c3 : Value} (h : k24.M w base (fun _ => True) x [c0, c1, c2, c3]) :
    ∃ A c, c0 = .int .i64 x.f0 ∧ c1 = .int .i64 x.f1 ∧ c2 = .string x.f2 ∧ c3 = .slice A x.f3.length c ∧ x.f3.length ≤ c ∧ k24.C w A x.f3.length x.f3 := by
  obtain ⟨A, c, e, hl, hC⟩ := k24_open (k24.K_of_M h)
  simp only [List.cons.injEq, and_true] at e
  obtain ⟨rfl, rfl, rfl, rfl⟩ := e
  exact ⟨A, c, rfl, rfl, rfl, rfl, hl, hC⟩
/-- The error's value and the two numbers that go with it. -/
inductive Ends (ad : Nat → Addr) : Res S24 → Value → Int → Nat → Prop
  | ok (x : S24) (j : Nat) : Ends ad (.ok x j) .nilIface 0 j
  | bad (k : Nat) (hk : k < 13) : Ends ad (.no k) (ev ad k) ((k : Int) + 1) 0
theorem num_of {ad : Nat → Addr} {R : Res S24} {v : Value} {n : Int} {j : Nat} (h : Ends ad R v n j) (W : World) (hE : Errs W ad) : Calls Tryd.prog 13 #[v] W (KNumOk n W) := by
  cases h with
  | ok => exact knum_nil W
  | bad k hk => exact knum_any W ad hE k hk
theorem ends_of {ad : Nat → Addr} {R : Res S24} (h : two R) : ∃ v n j, Ends ad R v n j ∧ (∀ cs, decV ad R cs = .tuple #[.agg cs.toArray, .int .i64 (j : Nat), v]) ∧ ∀ cs, refV R cs = .tuple #[.agg cs.toArray, .int .i64 (j : Nat), .int .i64 n] := by
  cases R with
  | ok x j => exact ⟨_, _, _, .ok x j, fun _ => rfl, fun _ => rfl⟩
  | no k =>
    rcases h with rfl | rfl
    · exact ⟨_, _, _, .bad 1 (by omega), fun _ => rfl, fun _ => rfl⟩
    · exact ⟨_, _, _, .bad 3 (by omega), fun _ => rfl, fun _ => rfl⟩
set_option maxHeartbeats 2000000 in
theorem walk_decodes (s : ByteArray) (W : World) (ad : Nat → Addr) (h : Errs W ad) (hs : s.size ≤ 140737488351232) :
    Calls Tryd.prog 3 #[.string s] W fun e w' => e = .returned (.bool true) ∧ Below W.heap.size W w' := by
  have H := Aside0.mk h
  clear h
  generalize hR : ansS s 4 0 = R
  obtain ⟨ve, ne, je, hends, hdec, href⟩ := ends_of (ad := ad) (hR ▸ ansS_two s 4 0)
  have HR := Aside0.mk hR
  have HD := Lib.hid hdec
  have HF := Lib.hid href
  have HN := Aside0.mk hends
  clear hR hdec href hends
  generalize hX : decX R = x
  have HX := Aside0.mk hX
  clear hX
  go_enter Tryd.func3, Tryd.ntmps3
  go_wp2_with fail
  go_at_call 10
  refine (decode_any W W.heap.size s ad hs (Nat.le_refl _) (en_of H.out)).mono ?_
  rintro e w1 ⟨⟨c0, c1, c2, c3, rfl, hM⟩, hb1⟩
  rw [HR.out, HX.out] at hM
  rw [HR.out, HD.out]
  obtain ⟨A, c, rfl, rfl, rfl, rfl, hc, hA⟩ := k_form hM
  have HA := Aside0.mk hA
  have HB1 := Aside0.mk hb1
  clear hM hA hb1
  go_wp2_with fail
  go_at_call 11
  refine (refdec_any (w1.alloc (.cells #[.int .i64 x.f0, .int .i64 x.f1, .string x.f2, .slice A x.f3.length c] 24)) s hs).mono ?_
  rintro e w2 ⟨⟨c0, c1, c2, c3, rfl, hM⟩, hb2⟩
  rw [HR.out, HX.out] at hM
  rw [HR.out, HF.out]
  obtain ⟨B, d, rfl, rfl, rfl, rfl, hd, hB⟩ := k_form hM
  have hz : (w1.alloc (.cells #[.int .i64 x.f0, .int .i64 x.f1, .string x.f2, .slice A x.f3.length c] 24)).heap.size = w1.heap.size + 1 := by simp
  have HQ := Aside0.mk (show RAt (w2.alloc (.cells #[.int .i64 x.f0, .int .i64 x.f1, .string x.f2, .slice B x.f3.length d] 24)) w2.heap.size (.int .i64 x.f0) (.int .i64 x.f1) (.string x.f2) (.slice B x.f3.length d) from (MapKept.heap_alloc _ _).1)
  have hlt : w1.heap.size < w2.heap.size := by have := hb2.size; omega
  have HP := Aside0.mk (show RAt (w2.alloc (.cells #[.int .i64 x.f0, .int .i64 x.f1, .string x.f2, .slice B x.f3.length d] 24)) w1.heap.size (.int .i64 x.f0) (.int .i64 x.f1) (.string x.f2) (.slice A x.f3.length c) from ((MapKept.heap_alloc _ _).2 _ hlt).trans ((hb2.block _ (by omega)).trans (MapKept.heap_alloc _ _).1))
  have HB2 := Aside0.mk ((below_alloc HB1.out (.cells #[.int .i64 x.f0, .int .i64 x.f1, .string x.f2, .slice A x.f3.length c] 24)).trans (hb2.mono (by have := HB1.out.size; omega)))
  have HA3 := Aside0.mk (Kd.C_alloc (Kd.C_below (Kd.C_alloc HA.out (.cells #[.int .i64 x.f0, .int .i64 x.f1, .string x.f2, .slice A x.f3.length c] 24)) hb2) (.cells #[.int .i64 x.f0, .int .i64 x.f1, .string x.f2, .slice B x.f3.length d] 24))
  have HB3 := Aside0.mk (Kd.C_alloc hB (.cells #[.int .i64 x.f0, .int .i64 x.f1, .string x.f2, .slice B x.f3.length d] 24))
  have HW3 := Aside0.mk (below_alloc HB2.out (.cells #[.int .i64 x.f0, .int .i64 x.f1, .string x.f2, .slice B x.f3.length d] 24))
  obtain ⟨⟨m0, m1, m2, m3⟩, _⟩ := HP.out.cells
  obtain ⟨⟨n0, n1, n2, n3⟩, _⟩ := HQ.out.cells
  clear hM hB hb2 hz
  go_wp2_with fail
  go_at_call 12
  refine (same_all _ x (Nat.le_refl _) _ A B c d hc hd (by exact HA3.out) (by exact HB3.out)).mono ?_
  rintro e w3 ⟨rfl, hb3⟩
  have HW := Aside0.mk (HW3.out.trans (hb3.mono HW3.out.size))
  clear hb3
  go_wp2_with fail
  go_at_call 13
  refine (num_of HN.out w3 (errs_below H.out HW.out)).mono ?_
  rintro e w4 ⟨rfl, rfl⟩
  go_wp2_with fail
  go_ret
  exact ⟨rfl, HW.out⟩
end Go.Proofs.YtbdfjiobegadjaaDoor.Pl
