/- The walks of copsekit.Num and more, refusal by refusal. -/
import Derived.Test.YtbdfjiobegadjaaDoorTaker
import Derived.LaidEql
namespace Go.Proofs.YtbdfjiobegadjaaDoor.Tk
open Go Go.RowKit Go.Proofs.YtbdfjiobegadjaaDoor.PWireMemory Go.Proofs.YtbdfjiobegadjaaDoorW.PrintWords Go.Proofs.YtbdfjiobegadjaaDoorW.PrintLast Go.Proofs.YtbdfjiobegadjaaDoorW.PrintMore
set_option linter.unusedVariables false
set_option linter.unusedSectionVars false
set_option linter.unusedSimpArgs false
set_option maxRecDepth 100000
theorem info148 : ∃ i, Tryd.prog.info? 148 = some i ∧ i.comparable = true := by
  have h : (Tryd.prog.info? 148).map (·.comparable) = some true := by kernel_rfl
  obtain ⟨i, h1, h2⟩ := Option.map_eq_some_iff.1 h
  exact ⟨i, h1, h2⟩
theorem info162 : ∃ i, Tryd.prog.info? 162 = some i ∧ i.size ≠ 0 := by
  have h : (Tryd.prog.info? 162).map (fun i => i.size != 0) = some true := by kernel_rfl
  obtain ⟨i, h1, h2⟩ := Option.map_eq_some_iff.1 h
  exact ⟨i, h1, by simpa using h2⟩
theorem eq_same (W : World) (ad : Nat → Addr) (k : Nat) : (binOp .eql 26 (ev ad k) (ev ad k)).run Tryd.prog W = .ok (.bool true) W := by
  obtain ⟨i, hi, hc⟩ := info148
  obtain ⟨j, hj, _⟩ := info162
  exact run_eql_iface_ptr_same W (ad k) Tryd.underlying26 Tryd.underlying148 hi hc hj
theorem eq_other (W : World) (ad : Nat → Addr) (h : Errs W ad) (i j : Nat) (hi : i < 13) (hj : j < 13) (hij : i ≠ j) : (binOp .eql 26 (ev ad i) (ev ad j)).run Tryd.prog W = .ok (.bool false) W := by
  obtain ⟨t, ht, hc⟩ := info148
  obtain ⟨u, hu, hz⟩ := info162
  obtain ⟨c1, t1, h1⟩ := h.blk i hi
  obtain ⟨c2, t2, h2⟩ := h.blk j hj
  exact run_eql_iface_ptr_other W Tryd.underlying26 Tryd.underlying148 ht hc hu hz (fun e => hij (h.inj i j hi hj e)) h1 h2
structure KNumOk (n : Int) (W : World) (e : Ending) (W' : World) : Prop where
  end_ : e = .returned (.int .i64 n)
  same : W' = W
theorem knum_nil (W : World) : Calls Tryd.prog 13 #[.nilIface] W (KNumOk 0 W) := by
  go_enter Tryd.func13, Tryd.ntmps13
  go_wp2_with fail
  go_ret
  exact ⟨rfl, rfl⟩
theorem more_7 (W : World) (ad : Nat → Addr) (h : Errs W ad) : Calls Tryd.prog 36 #[ev ad 7] W (KNumOk 8 W) := by
  have c7 : W.cell? ⟨7, 0, none⟩ = some (ev ad 7) := h.cell 7 (by omega)
  have H := Aside0.mk h
  clear h
  go_enter Tryd.func36, Tryd.ntmps36
  go_wp2_with fail
  rw [eq_same W ad 7]
  go_wp2_with fail
  go_ret
  exact ⟨rfl, rfl⟩
theorem more_8 (W : World) (ad : Nat → Addr) (h : Errs W ad) : Calls Tryd.prog 36 #[ev ad 8] W (KNumOk 9 W) := by
  have c7 : W.cell? ⟨7, 0, none⟩ = some (ev ad 7) := h.cell 7 (by omega)
  have c8 : W.cell? ⟨8, 0, none⟩ = some (ev ad 8) := h.cell 8 (by omega)
  have H := Aside0.mk h
  clear h
  go_enter Tryd.func36, Tryd.ntmps36
  go_wp2_with fail
  rw [eq_other W ad H.out 8 7 (by omega) (by omega) (by omega)]
  go_wp2_with fail
  rw [eq_same W ad 8]
  go_wp2_with fail
  go_ret
  exact ⟨rfl, rfl⟩
theorem more_9 (W : World) (ad : Nat → Addr) (h : Errs W ad) : Calls Tryd.prog 36 #[ev ad 9] W (KNumOk 10 W) := by
  have c7 : W.cell? ⟨7, 0, none⟩ = some (ev ad 7) := h.cell 7 (by omega)
  have c8 : W.cell? ⟨8, 0, none⟩ = some (ev ad 8) := h.cell 8 (by omega)
  have c9 : W.cell? ⟨9, 0, none⟩ = some (ev ad 9) := h.cell 9 (by omega)
  have H := Aside0.mk h
  clear h
  go_enter Tryd.func36, Tryd.ntmps36
  go_wp2_with fail
  rw [eq_other W ad H.out 9 7 (by omega) (by omega) (by omega)]
  go_wp2_with fail
  rw [eq_other W ad H.out 9 8 (by omega) (by omega) (by omega)]
  go_wp2_with fail
  rw [eq_same W ad 9]
  go_wp2_with fail
  go_ret
  exact ⟨rfl, rfl⟩
theorem more_10 (W : World) (ad : Nat → Addr) (h : Errs W ad) : Calls Tryd.prog 36 #[ev ad 10] W (KNumOk 11 W) := by
  have c7 : W.cell? ⟨7, 0, none⟩ = some (ev ad 7) := h.cell 7 (by omega)
  have c8 : W.cell? ⟨8, 0, none⟩ = some (ev ad 8) := h.cell 8 (by omega)
  have c9 : W.cell? ⟨9, 0, none⟩ = some (ev ad 9) := h.cell 9 (by omega)
  have c10 : W.cell? ⟨10, 0, none⟩ = some (ev ad 10) := h.cell 10 (by omega)
  have H := Aside0.mk h
  clear h
  go_enter Tryd.func36, Tryd.ntmps36
  go_wp2_with fail
  rw [eq_other W ad H.out 10 7 (by omega) (by omega) (by omega)]
  go_wp2_with fail
  rw [eq_other W ad H.out 10 8 (by omega) (by omega) (by omega)]
  go_wp2_with fail
  rw [eq_other W ad H.out 10 9 (by omega) (by omega) (by omega)]
  go_wp2_with fail
  rw [eq_same W ad 10]
  go_wp2_with fail
  go_ret
  exact ⟨rfl, rfl⟩
theorem more_11 (W : World) (ad : Nat → Addr) (h : Errs W ad) : Calls Tryd.prog 36 #[ev ad 11] W (KNumOk 12 W) := by
  have c7 : W.cell? ⟨7, 0, none⟩ = some (ev ad 7) := h.cell 7 (by omega)
  have c8 : W.cell? ⟨8, 0, none⟩ = some (ev ad 8) := h.cell 8 (by omega)
  have c9 : W.cell? ⟨9, 0, none⟩ = some (ev ad 9) := h.cell 9 (by omega)
  have c10 : W.cell? ⟨10, 0, none⟩ = some (ev ad 10) := h.cell 10 (by omega)
  have c11 : W.cell? ⟨11, 0, none⟩ = some (ev ad 11) := h.cell 11 (by omega)
  have H := Aside0.mk h
  clear h
  go_enter Tryd.func36, Tryd.ntmps36
  go_wp2_with fail
  rw [eq_other W ad H.out 11 7 (by omega) (by omega) (by omega)]
  go_wp2_with fail
  rw [eq_other W ad H.out 11 8 (by omega) (by omega) (by omega)]
  go_wp2_with fail
  rw [eq_other W ad H.out 11 9 (by omega) (by omega) (by omega)]
  go_wp2_with fail
  rw [eq_other W ad H.out 11 10 (by omega) (by omega) (by omega)]
  go_wp2_with fail
  rw [eq_same W ad 11]
  go_wp2_with fail
  go_ret
  exact ⟨rfl, rfl⟩
theorem more_12 (W : World) (ad : Nat → Addr) (h : Errs W ad) : Calls Tryd.prog 36 #[ev ad 12] W (KNumOk 13 W) := by
  have c7 : W.cell? ⟨7, 0, none⟩ = some (ev ad 7) := h.cell 7 (by omega)
  have c8 : W.cell? ⟨8, 0, none⟩ = some (ev ad 8) := h.cell 8 (by omega)
  have c9 : W.cell? ⟨9, 0, none⟩ = some (ev ad 9) := h.cell 9 (by omega)
  have c10 : W.cell? ⟨10, 0, none⟩ = some (ev ad 10) := h.cell 10 (by omega)
  have c11 : W.cell? ⟨11, 0, none⟩ = some (ev ad 11) := h.cell 11 (by omega)
  have c12 : W.cell? ⟨12, 0, none⟩ = some (ev ad 12) := h.cell 12 (by omega)
  have H := Aside0.mk h
  clear h
  go_enter Tryd.func36, Tryd.ntmps36
  go_wp2_with fail
  rw [eq_other W ad H.out 12 7 (by omega) (by omega) (by omega)]
  go_wp2_with fail
  rw [eq_other W ad H.out 12 8 (by omega) (by omega) (by omega)]
  go_wp2_with fail
  rw [eq_other W ad H.out 12 9 (by omega) (by omega) (by omega)]
  go_wp2_with fail
  rw [eq_other W ad H.out 12 10 (by omega) (by omega) (by omega)]
  go_wp2_with fail
  rw [eq_other W ad H.out 12 11 (by omega) (by omega) (by omega)]
  go_wp2_with fail
  rw [eq_same W ad 12]
  go_wp2_with fail
  go_ret
  exact ⟨rfl, rfl⟩
theorem knum_0 (W : World) (ad : Nat → Addr) (h : Errs W ad) : Calls Tryd.prog 13 #[ev ad 0] W (KNumOk 1 W) := by
  have c0 : W.cell? ⟨0, 0, none⟩ = some (ev ad 0) := h.cell 0 (by omega)
  have H := Aside0.mk h
  clear h
  go_enter Tryd.func13, Tryd.ntmps13
  go_wp2_with fail
  rw [eq_same W ad 0]
  go_wp2_with fail
  go_ret
  exact ⟨rfl, rfl⟩
theorem knum_1 (W : World) (ad : Nat → Addr) (h : Errs W ad) : Calls Tryd.prog 13 #[ev ad 1] W (KNumOk 2 W) := by
  have c0 : W.cell? ⟨0, 0, none⟩ = some (ev ad 0) := h.cell 0 (by omega)
  have c1 : W.cell? ⟨1, 0, none⟩ = some (ev ad 1) := h.cell 1 (by omega)
  have H := Aside0.mk h
  clear h
  go_enter Tryd.func13, Tryd.ntmps13
  go_wp2_with fail
  rw [eq_other W ad H.out 1 0 (by omega) (by omega) (by omega)]
  go_wp2_with fail
  rw [eq_same W ad 1]
  go_wp2_with fail
  go_ret
  exact ⟨rfl, rfl⟩
theorem knum_2 (W : World) (ad : Nat → Addr) (h : Errs W ad) : Calls Tryd.prog 13 #[ev ad 2] W (KNumOk 3 W) := by
  have c0 : W.cell? ⟨0, 0, none⟩ = some (ev ad 0) := h.cell 0 (by omega)
  have c1 : W.cell? ⟨1, 0, none⟩ = some (ev ad 1) := h.cell 1 (by omega)
  have c2 : W.cell? ⟨2, 0, none⟩ = some (ev ad 2) := h.cell 2 (by omega)
  have H := Aside0.mk h
  clear h
  go_enter Tryd.func13, Tryd.ntmps13
  go_wp2_with fail
  rw [eq_other W ad H.out 2 0 (by omega) (by omega) (by omega)]
  go_wp2_with fail
  rw [eq_other W ad H.out 2 1 (by omega) (by omega) (by omega)]
  go_wp2_with fail
  rw [eq_same W ad 2]
  go_wp2_with fail
  go_ret
  exact ⟨rfl, rfl⟩
theorem knum_3 (W : World) (ad : Nat → Addr) (h : Errs W ad) : Calls Tryd.prog 13 #[ev ad 3] W (KNumOk 4 W) := by
  have c0 : W.cell? ⟨0, 0, none⟩ = some (ev ad 0) := h.cell 0 (by omega)
  have c1 : W.cell? ⟨1, 0, none⟩ = some (ev ad 1) := h.cell 1 (by omega)
  have c2 : W.cell? ⟨2, 0, none⟩ = some (ev ad 2) := h.cell 2 (by omega)
  have c3 : W.cell? ⟨3, 0, none⟩ = some (ev ad 3) := h.cell 3 (by omega)
  have H := Aside0.mk h
  clear h
  go_enter Tryd.func13, Tryd.ntmps13
  go_wp2_with fail
  rw [eq_other W ad H.out 3 0 (by omega) (by omega) (by omega)]
  go_wp2_with fail
  rw [eq_other W ad H.out 3 1 (by omega) (by omega) (by omega)]
  go_wp2_with fail
  rw [eq_other W ad H.out 3 2 (by omega) (by omega) (by omega)]
  go_wp2_with fail
  rw [eq_same W ad 3]
  go_wp2_with fail
  go_ret
  exact ⟨rfl, rfl⟩
theorem knum_4 (W : World) (ad : Nat → Addr) (h : Errs W ad) : Calls Tryd.prog 13 #[ev ad 4] W (KNumOk 5 W) := by
  have c0 : W.cell? ⟨0, 0, none⟩ = some (ev ad 0) := h.cell 0 (by omega)
  have c1 : W.cell? ⟨1, 0, none⟩ = some (ev ad 1) := h.cell 1 (by omega)
  have c2 : W.cell? ⟨2, 0, none⟩ = some (ev ad 2) := h.cell 2 (by omega)
  have c3 : W.cell? ⟨3, 0, none⟩ = some (ev ad 3) := h.cell 3 (by omega)
  have c4 : W.cell? ⟨4, 0, none⟩ = some (ev ad 4) := h.cell 4 (by omega)
  have H := Aside0.mk h
  clear h
  go_enter Tryd.func13, Tryd.ntmps13
  go_wp2_with fail
  rw [eq_other W ad H.out 4 0 (by omega) (by omega) (by omega)]
  go_wp2_with fail
  rw [eq_other W ad H.out 4 1 (by omega) (by omega) (by omega)]
  go_wp2_with fail
  rw [eq_other W ad H.out 4 2 (by omega) (by omega) (by omega)]
  go_wp2_with fail
  rw [eq_other W ad H.out 4 3 (by omega) (by omega) (by omega)]
  go_wp2_with fail
  rw [eq_same W ad 4]
  go_wp2_with fail
  go_ret
  exact ⟨rfl, rfl⟩
theorem knum_5 (W : World) (ad : Nat → Addr) (h : Errs W ad) : Calls Tryd.prog 13 #[ev ad 5] W (KNumOk 6 W) := by
  have c0 : W.cell? ⟨0, 0, none⟩ = some (ev ad 0) := h.cell 0 (by omega)
  have c1 : W.cell? ⟨1, 0, none⟩ = some (ev ad 1) := h.cell 1 (by omega)
  have c2 : W.cell? ⟨2, 0, none⟩ = some (ev ad 2) := h.cell 2 (by omega)
  have c3 : W.cell? ⟨3, 0, none⟩ = some (ev ad 3) := h.cell 3 (by omega)
  have c4 : W.cell? ⟨4, 0, none⟩ = some (ev ad 4) := h.cell 4 (by omega)
  have c5 : W.cell? ⟨5, 0, none⟩ = some (ev ad 5) := h.cell 5 (by omega)
  have H := Aside0.mk h
  clear h
  go_enter Tryd.func13, Tryd.ntmps13
  go_wp2_with fail
  rw [eq_other W ad H.out 5 0 (by omega) (by omega) (by omega)]
  go_wp2_with fail
  rw [eq_other W ad H.out 5 1 (by omega) (by omega) (by omega)]
  go_wp2_with fail
  rw [eq_other W ad H.out 5 2 (by omega) (by omega) (by omega)]
  go_wp2_with fail
  rw [eq_other W ad H.out 5 3 (by omega) (by omega) (by omega)]
  go_wp2_with fail
  rw [eq_other W ad H.out 5 4 (by omega) (by omega) (by omega)]
  go_wp2_with fail
  rw [eq_same W ad 5]
  go_wp2_with fail
  go_ret
  exact ⟨rfl, rfl⟩
theorem knum_6 (W : World) (ad : Nat → Addr) (h : Errs W ad) : Calls Tryd.prog 13 #[ev ad 6] W (KNumOk 7 W) := by
  have c0 : W.cell? ⟨0, 0, none⟩ = some (ev ad 0) := h.cell 0 (by omega)
  have c1 : W.cell? ⟨1, 0, none⟩ = some (ev ad 1) := h.cell 1 (by omega)
  have c2 : W.cell? ⟨2, 0, none⟩ = some (ev ad 2) := h.cell 2 (by omega)
  have c3 : W.cell? ⟨3, 0, none⟩ = some (ev ad 3) := h.cell 3 (by omega)
  have c4 : W.cell? ⟨4, 0, none⟩ = some (ev ad 4) := h.cell 4 (by omega)
  have c5 : W.cell? ⟨5, 0, none⟩ = some (ev ad 5) := h.cell 5 (by omega)
  have c6 : W.cell? ⟨6, 0, none⟩ = some (ev ad 6) := h.cell 6 (by omega)
  have H := Aside0.mk h
  clear h
  go_enter Tryd.func13, Tryd.ntmps13
  go_wp2_with fail
  rw [eq_other W ad H.out 6 0 (by omega) (by omega) (by omega)]
  go_wp2_with fail
  rw [eq_other W ad H.out 6 1 (by omega) (by omega) (by omega)]
  go_wp2_with fail
  rw [eq_other W ad H.out 6 2 (by omega) (by omega) (by omega)]
  go_wp2_with fail
  rw [eq_other W ad H.out 6 3 (by omega) (by omega) (by omega)]
  go_wp2_with fail
  rw [eq_other W ad H.out 6 4 (by omega) (by omega) (by omega)]
  go_wp2_with fail
  rw [eq_other W ad H.out 6 5 (by omega) (by omega) (by omega)]
  go_wp2_with fail
  rw [eq_same W ad 6]
  go_wp2_with fail
  go_ret
  exact ⟨rfl, rfl⟩
theorem knum_7 (W : World) (ad : Nat → Addr) (h : Errs W ad) : Calls Tryd.prog 13 #[ev ad 7] W (KNumOk 8 W) := by
  have c0 : W.cell? ⟨0, 0, none⟩ = some (ev ad 0) := h.cell 0 (by omega)
  have c1 : W.cell? ⟨1, 0, none⟩ = some (ev ad 1) := h.cell 1 (by omega)
  have c2 : W.cell? ⟨2, 0, none⟩ = some (ev ad 2) := h.cell 2 (by omega)
  have c3 : W.cell? ⟨3, 0, none⟩ = some (ev ad 3) := h.cell 3 (by omega)
  have c4 : W.cell? ⟨4, 0, none⟩ = some (ev ad 4) := h.cell 4 (by omega)
  have c5 : W.cell? ⟨5, 0, none⟩ = some (ev ad 5) := h.cell 5 (by omega)
  have c6 : W.cell? ⟨6, 0, none⟩ = some (ev ad 6) := h.cell 6 (by omega)
  have H := Aside0.mk h
  clear h
  go_enter Tryd.func13, Tryd.ntmps13
  go_wp2_with fail
  rw [eq_other W ad H.out 7 0 (by omega) (by omega) (by omega)]
  go_wp2_with fail
  rw [eq_other W ad H.out 7 1 (by omega) (by omega) (by omega)]
  go_wp2_with fail
  rw [eq_other W ad H.out 7 2 (by omega) (by omega) (by omega)]
  go_wp2_with fail
  rw [eq_other W ad H.out 7 3 (by omega) (by omega) (by omega)]
  go_wp2_with fail
  rw [eq_other W ad H.out 7 4 (by omega) (by omega) (by omega)]
  go_wp2_with fail
  rw [eq_other W ad H.out 7 5 (by omega) (by omega) (by omega)]
  go_wp2_with fail
  rw [eq_other W ad H.out 7 6 (by omega) (by omega) (by omega)]
  go_wp2_with fail
  go_at_call 36; refine (more_7 W ad H.out).mono ?_; rintro e w1 ⟨rfl, rfl⟩
  go_wp2_with fail
  go_ret
  exact ⟨rfl, rfl⟩
theorem knum_8 (W : World) (ad : Nat → Addr) (h : Errs W ad) : Calls Tryd.prog 13 #[ev ad 8] W (KNumOk 9 W) := by
  have c0 : W.cell? ⟨0, 0, none⟩ = some (ev ad 0) := h.cell 0 (by omega)
  have c1 : W.cell? ⟨1, 0, none⟩ = some (ev ad 1) := h.cell 1 (by omega)
  have c2 : W.cell? ⟨2, 0, none⟩ = some (ev ad 2) := h.cell 2 (by omega)
  have c3 : W.cell? ⟨3, 0, none⟩ = some (ev ad 3) := h.cell 3 (by omega)
  have c4 : W.cell? ⟨4, 0, none⟩ = some (ev ad 4) := h.cell 4 (by omega)
  have c5 : W.cell? ⟨5, 0, none⟩ = some (ev ad 5) := h.cell 5 (by omega)
  have c6 : W.cell? ⟨6, 0, none⟩ = some (ev ad 6) := h.cell 6 (by omega)
  have H := Aside0.mk h
  clear h
  go_enter Tryd.func13, Tryd.ntmps13
  go_wp2_with fail
  rw [eq_other W ad H.out 8 0 (by omega) (by omega) (by omega)]
  go_wp2_with fail
  rw [eq_other W ad H.out 8 1 (by omega) (by omega) (by omega)]
  go_wp2_with fail
  rw [eq_other W ad H.out 8 2 (by omega) (by omega) (by omega)]
  go_wp2_with fail
  rw [eq_other W ad H.out 8 3 (by omega) (by omega) (by omega)]
  go_wp2_with fail
  rw [eq_other W ad H.out 8 4 (by omega) (by omega) (by omega)]
  go_wp2_with fail
  rw [eq_other W ad H.out 8 5 (by omega) (by omega) (by omega)]
  go_wp2_with fail
  rw [eq_other W ad H.out 8 6 (by omega) (by omega) (by omega)]
  go_wp2_with fail
  go_at_call 36; refine (more_8 W ad H.out).mono ?_; rintro e w1 ⟨rfl, rfl⟩
  go_wp2_with fail
  go_ret
  exact ⟨rfl, rfl⟩
theorem knum_9 (W : World) (ad : Nat → Addr) (h : Errs W ad) : Calls Tryd.prog 13 #[ev ad 9] W (KNumOk 10 W) := by
  have c0 : W.cell? ⟨0, 0, none⟩ = some (ev ad 0) := h.cell 0 (by omega)
  have c1 : W.cell? ⟨1, 0, none⟩ = some (ev ad 1) := h.cell 1 (by omega)
  have c2 : W.cell? ⟨2, 0, none⟩ = some (ev ad 2) := h.cell 2 (by omega)
  have c3 : W.cell? ⟨3, 0, none⟩ = some (ev ad 3) := h.cell 3 (by omega)
  have c4 : W.cell? ⟨4, 0, none⟩ = some (ev ad 4) := h.cell 4 (by omega)
  have c5 : W.cell? ⟨5, 0, none⟩ = some (ev ad 5) := h.cell 5 (by omega)
  have c6 : W.cell? ⟨6, 0, none⟩ = some (ev ad 6) := h.cell 6 (by omega)
  have H := Aside0.mk h
  clear h
  go_enter Tryd.func13, Tryd.ntmps13
  go_wp2_with fail
  rw [eq_other W ad H.out 9 0 (by omega) (by omega) (by omega)]
  go_wp2_with fail
  rw [eq_other W ad H.out 9 1 (by omega) (by omega) (by omega)]
  go_wp2_with fail
  rw [eq_other W ad H.out 9 2 (by omega) (by omega) (by omega)]
  go_wp2_with fail
  rw [eq_other W ad H.out 9 3 (by omega) (by omega) (by omega)]
  go_wp2_with fail
  rw [eq_other W ad H.out 9 4 (by omega) (by omega) (by omega)]
  go_wp2_with fail
  rw [eq_other W ad H.out 9 5 (by omega) (by omega) (by omega)]
  go_wp2_with fail
  rw [eq_other W ad H.out 9 6 (by omega) (by omega) (by omega)]
  go_wp2_with fail
  go_at_call 36; refine (more_9 W ad H.out).mono ?_; rintro e w1 ⟨rfl, rfl⟩
  go_wp2_with fail
  go_ret
  exact ⟨rfl, rfl⟩
theorem knum_10 (W : World) (ad : Nat → Addr) (h : Errs W ad) : Calls Tryd.prog 13 #[ev ad 10] W (KNumOk 11 W) := by
  have c0 : W.cell? ⟨0, 0, none⟩ = some (ev ad 0) := h.cell 0 (by omega)
  have c1 : W.cell? ⟨1, 0, none⟩ = some (ev ad 1) := h.cell 1 (by omega)
  have c2 : W.cell? ⟨2, 0, none⟩ = some (ev ad 2) := h.cell 2 (by omega)
  have c3 : W.cell? ⟨3, 0, none⟩ = some (ev ad 3) := h.cell 3 (by omega)
  have c4 : W.cell? ⟨4, 0, none⟩ = some (ev ad 4) := h.cell 4 (by omega)
  have c5 : W.cell? ⟨5, 0, none⟩ = some (ev ad 5) := h.cell 5 (by omega)
  have c6 : W.cell? ⟨6, 0, none⟩ = some (ev ad 6) := h.cell 6 (by omega)
  have H := Aside0.mk h
  clear h
  go_enter Tryd.func13, Tryd.ntmps13
  go_wp2_with fail
  rw [eq_other W ad H.out 10 0 (by omega) (by omega) (by omega)]
  go_wp2_with fail
  rw [eq_other W ad H.out 10 1 (by omega) (by omega) (by omega)]
  go_wp2_with fail
  rw [eq_other W ad H.out 10 2 (by omega) (by omega) (by omega)]
  go_wp2_with fail
  rw [eq_other W ad H.out 10 3 (by omega) (by omega) (by omega)]
  go_wp2_with fail
  rw [eq_other W ad H.out 10 4 (by omega) (by omega) (by omega)]
  go_wp2_with fail
  rw [eq_other W ad H.out 10 5 (by omega) (by omega) (by omega)]
  go_wp2_with fail
  rw [eq_other W ad H.out 10 6 (by omega) (by omega) (by omega)]
  go_wp2_with fail
  go_at_call 36; refine (more_10 W ad H.out).mono ?_; rintro e w1 ⟨rfl, rfl⟩
  go_wp2_with fail
  go_ret
  exact ⟨rfl, rfl⟩
theorem knum_11 (W : World) (ad : Nat → Addr) (h : Errs W ad) : Calls Tryd.prog 13 #[ev ad 11] W (KNumOk 12 W) := by
  have c0 : W.cell? ⟨0, 0, none⟩ = some (ev ad 0) := h.cell 0 (by omega)
  have c1 : W.cell? ⟨1, 0, none⟩ = some (ev ad 1) := h.cell 1 (by omega)
  have c2 : W.cell? ⟨2, 0, none⟩ = some (ev ad 2) := h.cell 2 (by omega)
  have c3 : W.cell? ⟨3, 0, none⟩ = some (ev ad 3) := h.cell 3 (by omega)
  have c4 : W.cell? ⟨4, 0, none⟩ = some (ev ad 4) := h.cell 4 (by omega)
  have c5 : W.cell? ⟨5, 0, none⟩ = some (ev ad 5) := h.cell 5 (by omega)
  have c6 : W.cell? ⟨6, 0, none⟩ = some (ev ad 6) := h.cell 6 (by omega)
  have H := Aside0.mk h
  clear h
  go_enter Tryd.func13, Tryd.ntmps13
  go_wp2_with fail
  rw [eq_other W ad H.out 11 0 (by omega) (by omega) (by omega)]
  go_wp2_with fail
  rw [eq_other W ad H.out 11 1 (by omega) (by omega) (by omega)]
  go_wp2_with fail
  rw [eq_other W ad H.out 11 2 (by omega) (by omega) (by omega)]
  go_wp2_with fail
  rw [eq_other W ad H.out 11 3 (by omega) (by omega) (by omega)]
  go_wp2_with fail
  rw [eq_other W ad H.out 11 4 (by omega) (by omega) (by omega)]
  go_wp2_with fail
  rw [eq_other W ad H.out 11 5 (by omega) (by omega) (by omega)]
  go_wp2_with fail
  rw [eq_other W ad H.out 11 6 (by omega) (by omega) (by omega)]
  go_wp2_with fail
  go_at_call 36; refine (more_11 W ad H.out).mono ?_; rintro e w1 ⟨rfl, rfl⟩
  go_wp2_with fail
  go_ret
  exact ⟨rfl, rfl⟩
theorem knum_12 (W : World) (ad : Nat → Addr) (h : Errs W ad) : Calls Tryd.prog 13 #[ev ad 12] W (KNumOk 13 W) := by
  have c0 : W.cell? ⟨0, 0, none⟩ = some (ev ad 0) := h.cell 0 (by omega)
  have c1 : W.cell? ⟨1, 0, none⟩ = some (ev ad 1) := h.cell 1 (by omega)
  have c2 : W.cell? ⟨2, 0, none⟩ = some (ev ad 2) := h.cell 2 (by omega)
  have c3 : W.cell? ⟨3, 0, none⟩ = some (ev ad 3) := h.cell 3 (by omega)
  have c4 : W.cell? ⟨4, 0, none⟩ = some (ev ad 4) := h.cell 4 (by omega)
  have c5 : W.cell? ⟨5, 0, none⟩ = some (ev ad 5) := h.cell 5 (by omega)
  have c6 : W.cell? ⟨6, 0, none⟩ = some (ev ad 6) := h.cell 6 (by omega)
  have H := Aside0.mk h
  clear h
  go_enter Tryd.func13, Tryd.ntmps13
  go_wp2_with fail
  rw [eq_other W ad H.out 12 0 (by omega) (by omega) (by omega)]
  go_wp2_with fail
  rw [eq_other W ad H.out 12 1 (by omega) (by omega) (by omega)]
  go_wp2_with fail
  rw [eq_other W ad H.out 12 2 (by omega) (by omega) (by omega)]
  go_wp2_with fail
  rw [eq_other W ad H.out 12 3 (by omega) (by omega) (by omega)]
  go_wp2_with fail
  rw [eq_other W ad H.out 12 4 (by omega) (by omega) (by omega)]
  go_wp2_with fail
  rw [eq_other W ad H.out 12 5 (by omega) (by omega) (by omega)]
  go_wp2_with fail
  rw [eq_other W ad H.out 12 6 (by omega) (by omega) (by omega)]
  go_wp2_with fail
  go_at_call 36; refine (more_12 W ad H.out).mono ?_; rintro e w1 ⟨rfl, rfl⟩
  go_wp2_with fail
  go_ret
  exact ⟨rfl, rfl⟩
theorem knum_any (W : World) (ad : Nat → Addr) (h : Errs W ad) (k : Nat) (hk : k < 13) : Calls Tryd.prog 13 #[ev ad k] W (KNumOk ((k : Int) + 1) W) := by
  match k, hk with
  | 0, _ => exact knum_0 W ad h
  | 1, _ => exact knum_1 W ad h
  | 2, _ => exact knum_2 W ad h
  | 3, _ => exact knum_3 W ad h
  | 4, _ => exact knum_4 W ad h
  | 5, _ => exact knum_5 W ad h
  | 6, _ => exact knum_6 W ad h
  | 7, _ => exact knum_7 W ad h
  | 8, _ => exact knum_8 W ad h
  | 9, _ => exact knum_9 W ad h
  | 10, _ => exact knum_10 W ad h
  | 11, _ => exact knum_11 W ad h
  | 12, _ => exact knum_12 W ad h
  | k + 13, h => omega
end Go.Proofs.YtbdfjiobegadjaaDoor.Tk
