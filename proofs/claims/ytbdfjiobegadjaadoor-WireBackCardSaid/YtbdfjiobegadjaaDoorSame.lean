/- The walks of SameAnswer and SameAnswers, where the two are the same. -/
import Derived.Test.YtbdfjiobegadjaaDoorTaker8
namespace Go.Proofs.YtbdfjiobegadjaaDoor.Tk
open Go Go.RowKit Go.Proofs.YtbdfjiobegadjaaDoor.PWireMemory Go.Proofs.YtbdfjiobegadjaaDoorW.PrintWords Go.Proofs.YtbdfjiobegadjaaDoorW.PrintLast Go.Proofs.YtbdfjiobegadjaaDoorW.PrintMore
set_option linter.unusedVariables false
set_option linter.unusedSectionVars false
set_option linter.unusedSimpArgs false
structure TrueOk (W : World) (e : Ending) (W' : World) : Prop where
  end_ : e = .returned (.bool true)
  below : Below W.heap.size W W'
/-- SameAnswer says so of two readings of x. -/
def SameAt (x : S24) : Prop := ∀ (W : World) (A B : Option Addr) (c d : Nat), x.f3.length ≤ c → x.f3.length ≤ d → k24.C W A x.f3.length x.f3 → k24.C W B x.f3.length x.f3 →
  Calls Tryd.prog 12 #[.agg #[.int .i64 x.f0, .int .i64 x.f1, .string x.f2, .slice A x.f3.length c], .agg #[.int .i64 x.f0, .int .i64 x.f1, .string x.f2, .slice B x.f3.length d]] W (TrueOk W)
theorem rd_mem {xs : List S24} {i : Nat} (h : i < xs.length) : rd_T24 xs (i : Int) ∈ xs := by
  unfold rd_T24
  rw [Int.toNat_natCast, List.getD_eq_getElem?_getD, List.getElem?_eq_getElem h]
  exact List.getElem_mem h
set_option maxHeartbeats 2000000 in
theorem same_list (xs : List S24) (hx : ∀ y ∈ xs, SameAt y) (W : World) (A B : Option Addr) (c d : Nat) (hA : k24.C W A xs.length xs) (hB : k24.C W B xs.length xs) :
    Calls Tryd.prog 35 #[.slice A xs.length c, .slice B xs.length d] W (TrueOk W) := by
  have HX := Lib.hid hx
  have HA := Aside0.mk hA
  have HB := Aside0.mk hB
  have hm := Kd.C_max hA
  clear hx hA hB
  go_enter Tryd.func35, Tryd.ntmps35
  go_wp2_with fail
  go_loopw [5] (fun v5 W' => ∃ i : Nat, v5 = .int .i64 i ∧ i ≤ xs.length ∧ Below W.heap.size W W') (fun v5 _ => xs.length - (intOf v5).toNat)
  case atStart => exact ⟨0, rfl, by omega, Below.refl _ _⟩
  case round =>
    obtain ⟨i, rfl, hi, HW⟩ := hrel
    have HW := Aside0.mk HW
    by_cases hlt : i < xs.length
    · have hlt' : (i : Int) < (xs.length : Int) := by omega
      obtain ⟨a, A3, c3, rfl, a0, a1, a2, a3, al, aC⟩ := at_T24 (Kd.C_below HA.out HW.out) (i : Int) (by omega) (by omega)
      obtain ⟨b, B3, d3, rfl, b0, b1, b2, b3, bl, bC⟩ := at_T24 (Kd.C_below HB.out HW.out) (i : Int) (by omega) (by omega)
      have AC := Aside0.mk aC
      have BC := Aside0.mk bC
      have hmem := Lib.hid (rd_mem hlt)
      clear aC bC
      simp only [Int.toNat_natCast] at a0 a1 a2 a3 b0 b1 b2 b3
      go_wp2_with fail
      go_region_law (go_simp; go_at_call 12; refine (HX.out _ hmem.out _ A3 B3 c3 d3 al bl (Kd.C_drew AC.out) (Kd.C_drew BC.out)).mono ?_; rintro e w1 ⟨rfl, hb1⟩; have HB1 := Aside0.mk ((below_drew HW.out).trans (hb1.mono HW.out.size)); clear hb1)
      all_goals
        go_wp2_with fail
        go_roundw
        case rel => exact ⟨i + 1, by go_num, by omega, HB1.out⟩
        case measure => simp [intOf]; omega
    · have hlt' : ¬ (i : Int) < (xs.length : Int) := by omega
      go_wp2_with fail
      go_ret
      exact ⟨rfl, HW.out⟩
theorem same_at (x : S24) (hx : ∀ y ∈ x.f3, SameAt y) : SameAt x := by
  intro W A B c d hc hd hA hB
  have HX := Lib.hid hx
  have HA := Aside0.mk hA
  have HB := Aside0.mk hB
  clear hx hA hB
  have HBW := Aside0.mk (below_alloc (below_alloc (Below.refl W.heap.size W) (.cells #[.int .i64 x.f0, .int .i64 x.f1, .string x.f2, .slice A x.f3.length c] 24)) (.cells #[.int .i64 x.f0, .int .i64 x.f1, .string x.f2, .slice B x.f3.length d] 24))
  go_enter Tryd.func12, Tryd.ntmps12
  go_wp2_with fail
  go_at_call 35; refine (same_list x.f3 HX.out _ A B c d (by exact (Kd.C_alloc (Kd.C_alloc HA.out _) _)) (by exact (Kd.C_alloc (Kd.C_alloc HB.out _) _))).mono ?_
  rintro e w1 ⟨rfl, hb1⟩
  have HB1 := Aside0.mk (HBW.out.trans (hb1.mono HBW.out.size))
  have hP : ((W.alloc (.cells #[.int .i64 x.f0, .int .i64 x.f1, .string x.f2, .slice A x.f3.length c] 24)).alloc (.cells #[.int .i64 x.f0, .int .i64 x.f1, .string x.f2, .slice B x.f3.length d] 24)).heap[W.heap.size]? = some (.cells #[.int .i64 x.f0, .int .i64 x.f1, .string x.f2, .slice A x.f3.length c] 24 (0, 0)) := ((MapKept.heap_alloc _ _).2 _ (by simp)).trans (MapKept.heap_alloc _ _).1
  have hQ : ((W.alloc (.cells #[.int .i64 x.f0, .int .i64 x.f1, .string x.f2, .slice A x.f3.length c] 24)).alloc (.cells #[.int .i64 x.f0, .int .i64 x.f1, .string x.f2, .slice B x.f3.length d] 24)).heap[W.heap.size + 1]? = some (.cells #[.int .i64 x.f0, .int .i64 x.f1, .string x.f2, .slice B x.f3.length d] 24 (0, 0)) := by
    have e1 : (W.alloc (.cells #[.int .i64 x.f0, .int .i64 x.f1, .string x.f2, .slice A x.f3.length c] 24)).heap.size = W.heap.size + 1 := by simp
    rw [← e1]
    exact (MapKept.heap_alloc _ _).1
  have hP1 : RAt w1 W.heap.size _ _ _ _ := (hb1.block _ (by simp; omega)).trans hP
  have hQ1 : RAt w1 (W.heap.size + 1) _ _ _ _ := (hb1.block _ (by simp)).trans hQ
  obtain ⟨⟨m0, m1, m2, m3⟩, _⟩ := hP1.cells
  obtain ⟨⟨k0, k1, k2, k3⟩, _⟩ := hQ1.cells
  clear hP hQ hP1 hQ1 hb1
  go_wp2_with fail
  go_ret
  exact ⟨rfl, HB1.out⟩
theorem same_all : ∀ (n : Nat) (x : S24), SizeOf.sizeOf x ≤ n → SameAt x
  | 0, x, h => by cases x; simp at h
  | n + 1, x, h => same_at x fun y hy => same_all n y (by
      have h1 := List.sizeOf_lt_of_mem hy
      have h2 : SizeOf.sizeOf x = 1 + SizeOf.sizeOf x.f0 + SizeOf.sizeOf x.f1 + SizeOf.sizeOf x.f2 + SizeOf.sizeOf x.f3 := by cases x; rw [S24.mk.sizeOf_spec]
      omega)
end Go.Proofs.YtbdfjiobegadjaaDoor.Tk
