/- The walks of the document's place: an answer, but for lists. -/
import Derived.Test.YtbdfjiobegadjaaDoorPlace5
namespace Go.Proofs.YtbdfjiobegadjaaDoor.Pl
open Go Go.RowKit Go.Proofs.YtbdfjiobegadjaaDoor.Tk Go.Proofs.YtbdfjiobegadjaaDoor.PWireMemory Go.Proofs.YtbdfjiobegadjaaDoorW.PrintWords Go.Proofs.YtbdfjiobegadjaaDoorW.PrintLast Go.Proofs.YtbdfjiobegadjaaDoorW.PrintMore
set_option linter.unusedVariables false
set_option linter.unusedSectionVars false
set_option linter.unusedSimpArgs false
theorem next_okI {D : Res Int} {p : Nat → Res Unit} {n : Int} {j : Nat} (h : (nextR D fun n j => (p j).as n) = .ok n j) : (nextR D fun _ j => p j) = .ok () j ∧ ∃ j0, D = .ok n j0 := by
  cases D with
  | no k' => cases h
  | ok m j0 => simp only [nextR] at h ⊢; cases hp : p j0 with
    | ok u j' => rw [hp] at h; simp only [Res.as, Res.ok.injEq] at h; obtain ⟨rfl, rfl⟩ := h; exact ⟨rfl, j0, rfl⟩
    | no k' => rw [hp] at h; cases h
theorem pleaves_next {W : World} {b : Nat} {s : ByteArray} {D : Res Int} {p : Nat → Res Unit} (h : PLeaves W b s (nextR D fun _ j => p j)) : PLeaves W b s (nextR D fun n j => (p j).as n) := by
  cases D with
  | no k => exact h
  | ok m j => exact pleaves_as m (R := p j) h
section
variable (W : World) (b : Nat) (s : ByteArray) (i : Nat) (R : Res S24) (e0 : Int) (hs : s.size ≤ 140737488351232) (h : PAt W b s i 1 e0) (l0 : Int)
include hs h
set_option maxHeartbeats 4000000 in
theorem pans_end (hi : ¬ i < s.size) (e : R = .no 3) : Calls Tryd.prog 34 #[.pointer (some ⟨b, 0, none⟩), .int .i64 l0] W (PAnsOk b s R W) := by
  have hbl := blk_lt h
  have H := Aside0.mk h
  have HI := Aside0.mk hi
  have HR := Aside0.mk e
  clear h hi e
  have HO0 := Aside0.mk ((Only.refl b W).alloc zero4)
  go_enter Tryd.func34, Tryd.ntmps34
  go_wp2_with (go_at_call 56; refine (here_end _ b s i e0 hs HI.out (by exact (pat_alloc H.out _))).mono ?_; rintro e w1 ⟨rfl, ha1, ho1⟩; obtain ⟨⟨g0, g1, g2, g3⟩, _⟩ := PAt.cells ha1; obtain ⟨⟨m0, m1, m2, m3⟩, n0, n1, n2, n3⟩ := ((ralloc W).only ho1 (by omega)).cells; have HA1 := Aside0.mk ha1; have HO1 := Aside0.mk (HO0.out.trans ho1); clear ha1 ho1)
  refine bodyPost_ret (v := .agg #[.int .i64 0, .int .i64 0, .string ⟨#[]⟩, .slice none 0 0]) (by simp [results, Tryd.results34, go_sem, m0, m1, m2, m3, n0, n1, n2, n3]) rfl ⟨⟨_, _, _, _, _, rfl, plain_M _ _ 0 0 ⟨#[]⟩, fun a j he => ?_⟩, ?_, ?_⟩
  · rw [HR.out] at he; cases he
  · rw [HR.out]; exact put4_pleaves _ _ _ _ (R := Res.no (α := S24) 3) ⟨s, i, e0, HA1.out⟩ (by omega)
  · exact put4_only _ _ _ _ HO1.out
set_option maxHeartbeats 4000000 in
theorem pans_line1 (hi : i < s.size) (hc : ((s[i]).toNat : Int) = 43) (e : ((lin s (s.size - (i + 1)) 0 (i + 1)).map fun a => (⟨1, 0, s.extract (i + 1) a, []⟩ : S24)) = R) :
    Calls Tryd.prog 34 #[.pointer (some ⟨b, 0, none⟩), .int .i64 l0] W (PAnsOk b s R W) := by
  have hbl := blk_lt h
  have H := Aside0.mk h
  have hr := (s[i]).toNat_lt
  have HR := Aside0.mk e.symm
  have c43 : (((s[i]).toNat : Int) == 43) = true := beq_iff_eq.mpr hc
  have c45 : (((s[i]).toNat : Int) == 45) = false := by rw [hc]; rfl
  clear h e hc
  have HO0 := Aside0.mk ((Only.refl b W).alloc zero4)
  go_enter Tryd.func34, Tryd.ntmps34
  go_wp2_with fail
  go_at_call 56; refine (here_some _ b s i e0 hs hi (by exact (pat_alloc H.out _))).mono ?_; rintro e w1 ⟨rfl, ha1, ho1⟩; obtain ⟨⟨g0, g1, g2, g3⟩, q1, q2, q3⟩ := PAt.cells ha1; have HA1 := Aside0.mk (ha1.set1 ((i : Int) + 1)); have HO1 := Aside0.mk ((HO0.out.trans ho1).set 1 (.int .i64 ((i : Int) + 1))); have HR1 := Aside0.mk (((ralloc W).only ho1 (by omega)).only ((Only.refl b _).set 1 (.int .i64 ((i : Int) + 1))) (by omega)); clear ha1 ho1
  go_wp2_with fail
  go_at_call 57; refine (texted_any _ b s (i + 1) _ hs (by omega) e0 (by exact HA1.out) rfl).mono ?_; rintro e w2 ⟨⟨t, rfl, htr⟩, ha2, ho2⟩; obtain ⟨⟨m0, m1, m2, m3⟩, n0, n1, n2, n3⟩ := (HR1.out.only ho2 (by omega)).cells; have HA2 := Aside0.mk ha2; have HO2 := Aside0.mk (HO1.out.trans ho2); have HT := Aside0.mk htr; clear ha2 ho2 htr
  go_wp2_with fail
  refine bodyPost_ret (v := .agg #[.int .i64 1, .int .i64 0, .string t, .slice none 0 0]) (by simp [results, Tryd.results34, go_sem, m0, m1, m2, m3, n0, n1, n2, n3]) rfl ⟨⟨_, _, _, _, _, rfl, plain_M _ _ 1 0 t, fun a j he => ?_⟩, ?_, ?_⟩
  · rw [HR.out] at he
    obtain ⟨x, hx, rfl⟩ := map_ok he
    rw [HT.out x j hx]
  · rw [HR.out]; exact put4_pleaves _ _ _ _ (pleaves_map _ HA2.out) (by omega)
  · exact put4_only _ _ _ _ HO2.out
set_option maxHeartbeats 4000000 in
theorem pans_line2 (hi : i < s.size) (hc : ((s[i]).toNat : Int) = 45) (e : ((lin s (s.size - (i + 1)) 0 (i + 1)).map fun a => (⟨2, 0, s.extract (i + 1) a, []⟩ : S24)) = R) :
    Calls Tryd.prog 34 #[.pointer (some ⟨b, 0, none⟩), .int .i64 l0] W (PAnsOk b s R W) := by
  have hbl := blk_lt h
  have H := Aside0.mk h
  have hr := (s[i]).toNat_lt
  have HR := Aside0.mk e.symm
  have c43 : (((s[i]).toNat : Int) == 43) = false := by rw [hc]; rfl
  have c45 : (((s[i]).toNat : Int) == 45) = true := beq_iff_eq.mpr hc
  clear h e hc
  have HO0 := Aside0.mk ((Only.refl b W).alloc zero4)
  go_enter Tryd.func34, Tryd.ntmps34
  go_wp2_with fail
  go_at_call 56; refine (here_some _ b s i e0 hs hi (by exact (pat_alloc H.out _))).mono ?_; rintro e w1 ⟨rfl, ha1, ho1⟩; obtain ⟨⟨g0, g1, g2, g3⟩, q1, q2, q3⟩ := PAt.cells ha1; have HA1 := Aside0.mk (ha1.set1 ((i : Int) + 1)); have HO1 := Aside0.mk ((HO0.out.trans ho1).set 1 (.int .i64 ((i : Int) + 1))); have HR1 := Aside0.mk (((ralloc W).only ho1 (by omega)).only ((Only.refl b _).set 1 (.int .i64 ((i : Int) + 1))) (by omega)); clear ha1 ho1
  go_wp2_with fail
  go_at_call 57; refine (texted_any _ b s (i + 1) _ hs (by omega) e0 (by exact HA1.out) rfl).mono ?_; rintro e w2 ⟨⟨t, rfl, htr⟩, ha2, ho2⟩; obtain ⟨⟨m0, m1, m2, m3⟩, n0, n1, n2, n3⟩ := (HR1.out.only ho2 (by omega)).cells; have HA2 := Aside0.mk ha2; have HO2 := Aside0.mk (HO1.out.trans ho2); have HT := Aside0.mk htr; clear ha2 ho2 htr
  go_wp2_with fail
  refine bodyPost_ret (v := .agg #[.int .i64 2, .int .i64 0, .string t, .slice none 0 0]) (by simp [results, Tryd.results34, go_sem, m0, m1, m2, m3, n0, n1, n2, n3]) rfl ⟨⟨_, _, _, _, _, rfl, plain_M _ _ 2 0 t, fun a j he => ?_⟩, ?_, ?_⟩
  · rw [HR.out] at he
    obtain ⟨x, hx, rfl⟩ := map_ok he
    rw [HT.out x j hx]
  · rw [HR.out]; exact put4_pleaves _ _ _ _ (pleaves_map _ HA2.out) (by omega)
  · exact put4_only _ _ _ _ HO2.out
set_option maxHeartbeats 4000000 in
theorem pans_num (hi : i < s.size) (hc : ((s[i]).toNat : Int) = 58) (e : ((numS s (i + 1)).map fun n => (⟨3, n, ⟨#[]⟩, []⟩ : S24)) = R) :
    Calls Tryd.prog 34 #[.pointer (some ⟨b, 0, none⟩), .int .i64 l0] W (PAnsOk b s R W) := by
  rw [numS_numR] at e
  have hbl := blk_lt h
  have H := Aside0.mk h
  have hr := (s[i]).toNat_lt
  have HR := Aside0.mk e.symm
  have c43 : (((s[i]).toNat : Int) == 43) = false := by rw [hc]; rfl
  have c45 : (((s[i]).toNat : Int) == 45) = false := by rw [hc]; rfl
  have c58 : (((s[i]).toNat : Int) == 58) = true := beq_iff_eq.mpr hc
  clear h e hc
  have HO0 := Aside0.mk ((Only.refl b W).alloc zero4)
  go_enter Tryd.func34, Tryd.ntmps34
  go_wp2_with fail
  go_at_call 56; refine (here_some _ b s i e0 hs hi (by exact (pat_alloc H.out _))).mono ?_; rintro e w1 ⟨rfl, ha1, ho1⟩; obtain ⟨⟨g0, g1, g2, g3⟩, q1, q2, q3⟩ := PAt.cells ha1; have HA1 := Aside0.mk (ha1.set1 ((i : Int) + 1)); have HO1 := Aside0.mk ((HO0.out.trans ho1).set 1 (.int .i64 ((i : Int) + 1))); have HR1 := Aside0.mk (((ralloc W).only ho1 (by omega)).only ((Only.refl b _).set 1 (.int .i64 ((i : Int) + 1))) (by omega)); clear ha1 ho1
  go_wp2_with fail
  go_at_call 58; refine (pnum_any _ b s (i + 1) (numR s (i + 1)) hs (by exact (.inl ⟨⟨e0, HA1.out⟩, rfl⟩))).mono ?_; rintro e w2 ⟨⟨v, rfl, hvr⟩, ha2, ho2⟩; obtain ⟨j2, ha2⟩ := pahead_nextN i (fun j => expect s [13, 10] j) ha2 rfl; have HR2 := Aside0.mk (HR1.out.only ho2 (by omega)); have HA2 := Aside0.mk ha2; have HO2 := Aside0.mk (HO1.out.trans ho2); have HV := Aside0.mk hvr; clear ho2 hvr
  go_wp2_with fail
  go_at_call 59; refine (crlf_any _ b s j2 _ hs HA2.out).mono ?_; rintro e w3 ⟨rfl, ha3, ho3⟩; obtain ⟨⟨m0, m1, m2, m3⟩, n0, n1, n2, n3⟩ := (HR2.out.only ho3 (by omega)).cells; have HA3 := Aside0.mk ha3; have HO3 := Aside0.mk (HO2.out.trans ho3); clear ha3 ho3
  go_wp2_with fail
  refine bodyPost_ret (v := .agg #[.int .i64 3, .int .i64 v, .string ⟨#[]⟩, .slice none 0 0]) (by simp [results, Tryd.results34, go_sem, m0, m1, m2, m3, n0, n1, n2, n3]) rfl ⟨⟨_, _, _, _, _, rfl, plain_M _ _ 3 v _, fun a j he => ?_⟩, ?_, ?_⟩
  · rw [HR.out] at he
    obtain ⟨x, hx, rfl⟩ := map_ok he
    obtain ⟨_, j0, hx2⟩ := next_okI hx
    rw [HV.out _ _ hx2]
  · rw [HR.out]; exact put4_pleaves _ _ _ _ (pleaves_map _ (pleaves_next HA3.out)) (by omega)
  · exact put4_only _ _ _ _ HO3.out
set_option maxHeartbeats 4000000 in
theorem pans_bulk (hi : i < s.size) (hc : ((s[i]).toNat : Int) = 36) (e : bulkS s (i + 1) = R) :
    Calls Tryd.prog 34 #[.pointer (some ⟨b, 0, none⟩), .int .i64 l0] W (PAnsOk b s R W) := by
  have hbl := blk_lt h
  have H := Aside0.mk h
  have hr := (s[i]).toNat_lt
  have HR := Aside0.mk e.symm
  have c43 : (((s[i]).toNat : Int) == 43) = false := by rw [hc]; rfl
  have c45 : (((s[i]).toNat : Int) == 45) = false := by rw [hc]; rfl
  have c58 : (((s[i]).toNat : Int) == 58) = false := by rw [hc]; rfl
  have c36 : (((s[i]).toNat : Int) == 36) = true := beq_iff_eq.mpr hc
  clear h e hc
  have HO0 := Aside0.mk ((Only.refl b W).alloc zero4)
  go_enter Tryd.func34, Tryd.ntmps34
  go_wp2_with fail
  go_at_call 56; refine (here_some _ b s i e0 hs hi (by exact (pat_alloc H.out _))).mono ?_; rintro e w1 ⟨rfl, ha1, ho1⟩; obtain ⟨⟨g0, g1, g2, g3⟩, q1, q2, q3⟩ := PAt.cells ha1; have HA1 := Aside0.mk (ha1.set1 ((i : Int) + 1)); have HO1 := Aside0.mk ((HO0.out.trans ho1).set 1 (.int .i64 ((i : Int) + 1))); have HR1 := Aside0.mk (((ralloc W).only ho1 (by omega)).only ((Only.refl b _).set 1 (.int .i64 ((i : Int) + 1))) (by omega)); clear ha1 ho1
  go_wp2_with fail
  go_at_call 60; refine (pbulk_any _ b s (i + 1) _ e0 hs (by exact HA1.out) rfl).mono ?_; rintro e w2 ⟨⟨x, c0, c1, c2, c3, rfl, hM, hxr⟩, ha2, ho2⟩; obtain ⟨A3, cp3, hcs⟩ := M_form hM; simp only [List.cons.injEq, and_true] at hcs; obtain ⟨rfl, rfl, rfl, rfl⟩ := hcs; obtain ⟨⟨m0, m1, m2, m3⟩, n0, n1, n2, n3⟩ := (HR1.out.only ho2 (by omega)).cells; have hlt := blk_lt HR1.out; have HM := Aside0.mk (k24.M_lower (by have := HO1.out.size; omega) (M_put4 (.int .i64 x.f0) (.int .i64 x.f1) (.string x.f2) (.slice A3 x.f3.length cp3) hM (show W.heap.size < _ from hlt))); have HA2 := Aside0.mk ha2; have HO2 := Aside0.mk (HO1.out.trans ho2); have HX := Aside0.mk hxr; clear hM ha2 ho2 hxr
  go_wp2_with fail
  refine bodyPost_ret (v := .agg #[.int .i64 x.f0, .int .i64 x.f1, .string x.f2, .slice A3 x.f3.length cp3]) (by simp [results, Tryd.results34, go_sem, m0, m1, m2, m3, n0, n1, n2, n3]) rfl ⟨⟨x, _, _, _, _, rfl, HM.out, fun a j he => ?_⟩, ?_, ?_⟩
  · rw [HR.out] at he; exact HX.out a j he
  · rw [HR.out]; exact put4_pleaves _ _ _ _ HA2.out (by omega)
  · exact put4_only _ _ _ _ HO2.out
set_option maxHeartbeats 4000000 in
theorem pans_wrong (hi : i < s.size) (h43 : ¬ ((s[i]).toNat : Int) = 43) (h45 : ¬ ((s[i]).toNat : Int) = 45) (h58 : ¬ ((s[i]).toNat : Int) = 58) (h36 : ¬ ((s[i]).toNat : Int) = 36)
    (h42 : ¬ ((s[i]).toNat : Int) = 42 ∨ 4 ≤ l0) (e : R = .no 1) : Calls Tryd.prog 34 #[.pointer (some ⟨b, 0, none⟩), .int .i64 l0] W (PAnsOk b s R W) := by
  have e := e.symm
  have hbl := blk_lt h
  have H := Aside0.mk h
  have hr := (s[i]).toNat_lt
  have HR := Aside0.mk e.symm
  have c43 : (((s[i]).toNat : Int) == 43) = false := beq_eq_false_iff_ne.mpr h43
  have c45 : (((s[i]).toNat : Int) == 45) = false := beq_eq_false_iff_ne.mpr h45
  have c58 : (((s[i]).toNat : Int) == 58) = false := beq_eq_false_iff_ne.mpr h58
  have c36 : (((s[i]).toNat : Int) == 36) = false := beq_eq_false_iff_ne.mpr h36
  clear h e h43 h45 h58 h36
  have HO0 := Aside0.mk ((Only.refl b W).alloc zero4)
  go_enter Tryd.func34, Tryd.ntmps34
  go_wp2_with fail
  go_at_call 56; refine (here_some _ b s i e0 hs hi (by exact (pat_alloc H.out _))).mono ?_; rintro e w1 ⟨rfl, ha1, ho1⟩; obtain ⟨⟨g0, g1, g2, g3⟩, q1, q2, q3⟩ := PAt.cells ha1; have HA1 := Aside0.mk (ha1.set1 ((i : Int) + 1)); have HO1 := Aside0.mk ((HO0.out.trans ho1).set 1 (.int .i64 ((i : Int) + 1))); have HR1 := Aside0.mk (((ralloc W).only ho1 (by omega)).only ((Only.refl b _).set 1 (.int .i64 ((i : Int) + 1))) (by omega)); clear ha1 ho1
  rcases h42 with h42 | h42
  · have c42 : (((s[i]).toNat : Int) == 42) = false := beq_eq_false_iff_ne.mpr h42
    clear h42
    go_wp2_with fail
    go_at_call 62; refine (bad_any _ b s _ _ _ (by exact HA1.out)).mono ?_; rintro e w2 ⟨rfl, ha2, ho2⟩; obtain ⟨⟨m0, m1, m2, m3⟩, n0, n1, n2, n3⟩ := (HR1.out.only ho2 (by omega)).cells; have HA2 := Aside0.mk ha2; have HO2 := Aside0.mk (HO1.out.trans ho2); clear ha2 ho2
    go_wp2_with fail
    refine bodyPost_ret (v := .agg #[.int .i64 0, .int .i64 0, .string ⟨#[]⟩, .slice none 0 0]) (by simp [results, Tryd.results34, go_sem, m0, m1, m2, m3, n0, n1, n2, n3]) rfl ⟨⟨_, _, _, _, _, rfl, plain_M _ _ 0 0 ⟨#[]⟩, fun a j he => ?_⟩, ?_, ?_⟩
    · rw [HR.out] at he; cases he
    · rw [HR.out]; exact put4_pleaves _ _ _ _ (pno 1 HA2.out) (by omega)
    · exact put4_only _ _ _ _ HO2.out
  · by_cases hc : ((s[i]).toNat : Int) = 42
    · have c42 : (((s[i]).toNat : Int) == 42) = true := beq_iff_eq.mpr hc
      have hl : ¬ l0 < 4 := by omega
      clear hc
      go_wp2_with fail
      go_at_call 62; refine (bad_any _ b s _ _ _ (by exact HA1.out)).mono ?_; rintro e w2 ⟨rfl, ha2, ho2⟩; obtain ⟨⟨m0, m1, m2, m3⟩, n0, n1, n2, n3⟩ := (HR1.out.only ho2 (by omega)).cells; have HA2 := Aside0.mk ha2; have HO2 := Aside0.mk (HO1.out.trans ho2); clear ha2 ho2
      go_wp2_with fail
      refine bodyPost_ret (v := .agg #[.int .i64 0, .int .i64 0, .string ⟨#[]⟩, .slice none 0 0]) (by simp [results, Tryd.results34, go_sem, m0, m1, m2, m3, n0, n1, n2, n3]) rfl ⟨⟨_, _, _, _, _, rfl, plain_M _ _ 0 0 ⟨#[]⟩, fun a j he => ?_⟩, ?_, ?_⟩
      · rw [HR.out] at he; cases he
      · rw [HR.out]; exact put4_pleaves _ _ _ _ (pno 1 HA2.out) (by omega)
      · exact put4_only _ _ _ _ HO2.out
    · have c42 : (((s[i]).toNat : Int) == 42) = false := beq_eq_false_iff_ne.mpr hc
      clear hc
      go_wp2_with fail
      go_at_call 62; refine (bad_any _ b s _ _ _ (by exact HA1.out)).mono ?_; rintro e w2 ⟨rfl, ha2, ho2⟩; obtain ⟨⟨m0, m1, m2, m3⟩, n0, n1, n2, n3⟩ := (HR1.out.only ho2 (by omega)).cells; have HA2 := Aside0.mk ha2; have HO2 := Aside0.mk (HO1.out.trans ho2); clear ha2 ho2
      go_wp2_with fail
      refine bodyPost_ret (v := .agg #[.int .i64 0, .int .i64 0, .string ⟨#[]⟩, .slice none 0 0]) (by simp [results, Tryd.results34, go_sem, m0, m1, m2, m3, n0, n1, n2, n3]) rfl ⟨⟨_, _, _, _, _, rfl, plain_M _ _ 0 0 ⟨#[]⟩, fun a j he => ?_⟩, ?_, ?_⟩
      · rw [HR.out] at he; cases he
      · rw [HR.out]; exact put4_pleaves _ _ _ _ (pno 1 HA2.out) (by omega)
      · exact put4_only _ _ _ _ HO2.out
end
end Go.Proofs.YtbdfjiobegadjaaDoor.Pl
