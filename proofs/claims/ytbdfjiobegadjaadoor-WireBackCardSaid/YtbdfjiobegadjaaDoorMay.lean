/- The walk of wire.may, where an answer may be. -/
import Derived.Test.YtbdfjiobegadjaaDoorEnc
import Derived.Test.YtbdfjiobegadjaaDoorSame
namespace Go.Proofs.YtbdfjiobegadjaaDoor.Wr
open Go Go.RowKit Go.Proofs.YtbdfjiobegadjaaDoor.Tk Go.Proofs.YtbdfjiobegadjaaDoor.PWireMemory Go.Proofs.YtbdfjiobegadjaaDoorW.PrintWords Go.Proofs.YtbdfjiobegadjaaDoorW.PrintLast Go.Proofs.YtbdfjiobegadjaaDoorW.PrintMore
set_option linter.unusedVariables false
set_option linter.unusedSectionVars false
set_option linter.unusedSimpArgs false
structure NilOk (W : World) (e : Ending) (W' : World) : Prop where
  end_ : e = .returned .nilIface
  below : Below W.heap.size W W'
/-- The value of an answer. -/
abbrev agv (x : S24) (A : Option Addr) (c : Nat) : Value := .agg #[.int .i64 x.f0, .int .i64 x.f1, .string x.f2, .slice A x.f3.length c]
abbrev ago (x : S24) (A : Option Addr) (c : Nat) : Obj := .cells #[.int .i64 x.f0, .int .i64 x.f1, .string x.f2, .slice A x.f3.length c] 24
theorem ago_at (W : World) (x : S24) (A : Option Addr) (c : Nat) : RAt (W.alloc (ago x A c)) W.heap.size (.int .i64 x.f0) (.int .i64 x.f1) (.string x.f2) (.slice A x.f3.length c) := (MapKept.heap_alloc W _).1
theorem ago_below (W : World) (x : S24) (A : Option Addr) (c : Nat) : Below W.heap.size W (W.alloc (ago x A c)) := below_alloc (Below.refl _ _) _
set_option maxHeartbeats 2000000 in
theorem may_num (n : Int) (W : World) (A : Option Addr) (c : Nat) (lists : Int) : Calls Tryd.prog 44 #[agv ⟨3, n, ⟨#[]⟩, []⟩ A c, .int .i64 lists] W (NilOk W) := by
  have HB := Aside0.mk (ago_below W ⟨3, n, ⟨#[]⟩, []⟩ A c)
  go_enter Tryd.func44, Tryd.ntmps44
  go_wp2_with fail
  go_quiet (fail)
  go_wp2_with fail
  go_ret
  exact ⟨rfl, pw_below_drewN HB.out _⟩
set_option maxHeartbeats 2000000 in
theorem may_none (W : World) (A : Option Addr) (c : Nat) (lists : Int) : Calls Tryd.prog 44 #[agv ⟨5, 0, ⟨#[]⟩, []⟩ A c, .int .i64 lists] W (NilOk W) := by
  have HB := Aside0.mk (ago_below W ⟨5, 0, ⟨#[]⟩, []⟩ A c)
  go_enter Tryd.func44, Tryd.ntmps44
  go_wp2_with fail
  go_quiet (fail)
  go_wp2_with fail
  go_ret
  exact ⟨rfl, pw_below_drewN HB.out _⟩
set_option maxHeartbeats 2000000 in
theorem may_bulk (t : ByteArray) (ht : t.size ≤ 65536) (W : World) (A : Option Addr) (c : Nat) (lists : Int) : Calls Tryd.prog 44 #[agv ⟨4, 0, t, []⟩ A c, .int .i64 lists] W (NilOk W) := by
  have HB := Aside0.mk (ago_below W ⟨4, 0, t, []⟩ A c)
  have ht' : ¬ (65536 : Int) < (t.size : Int) := by omega
  go_enter Tryd.func44, Tryd.ntmps44
  go_wp2_with fail
  go_quiet (fail)
  go_wp2_with fail
  go_ret
  exact ⟨rfl, pw_below_drewN HB.out _⟩
set_option maxHeartbeats 2000000 in
theorem may_line1 (t : ByteArray) (ht : lineOk t) (W : World) (A : Option Addr) (c : Nat) (lists : Int) : Calls Tryd.prog 44 #[agv ⟨1, 0, t, []⟩ A c, .int .i64 lists] W (NilOk W) := by
  have HB := Aside0.mk (ago_below W ⟨1, 0, t, []⟩ A c)
  have HA := Aside0.mk (ago_at W ⟨1, 0, t, []⟩ A c)
  have ht' : ¬ (4096 : Int) < (t.size : Int) := by have := ht.1; omega
  have HT := Lib.hid ht.2
  clear ht
  go_enter Tryd.func44, Tryd.ntmps44
  go_wp2_with fail
  go_quiet (fail)
  go_wp2_with fail
  go_loopw [36] (fun v36 W' => ∃ i : Nat, v36 = .int .i64 i ∧ i ≤ t.size ∧ Aside0 (RAt W' W.heap.size (.int .i64 1) (.int .i64 0) (.string t) (.slice A 0 c)) ∧ Aside0 (Below W.heap.size W W')) (fun v36 _ => t.size - (intOf v36).toNat)
  case atStart => exact ⟨0, rfl, by omega, ⟨HA.out⟩, ⟨pw_below_drewN HB.out _⟩⟩
  case round =>
    clear HA HB
    obtain ⟨i, rfl, hi, HA, HB⟩ := hrel
    obtain ⟨⟨m0, m1, m2, m3⟩, _⟩ := HA.out.cells
    by_cases hlt : i < t.size
    · have hlt' : (i : Int) < (t.size : Int) := by omega
      have hr := (t[i]).toNat_lt
      have hlo : ¬ ((t[i]).toNat : Int) < 32 := by have := (HT.out i hlt).1; omega
      have h127 : (((t[i]).toNat : Int) == 127) = false := by rw [beq_eq_false_iff_ne]; have := (HT.out i hlt).2; omega
      go_wp2_with fail
      go_roundw
      case rel => exact ⟨i + 1, by go_num, by omega, HA, HB⟩
      case measure => simp [intOf]; omega
    · obtain rfl : i = t.size := by omega
      have hlt' : ¬ (t.size : Int) < (t.size : Int) := by omega
      go_wp2_with fail
      go_ret
      exact ⟨rfl, HB.out⟩
set_option maxHeartbeats 2000000 in
theorem may_line2 (t : ByteArray) (ht : lineOk t) (W : World) (A : Option Addr) (c : Nat) (lists : Int) : Calls Tryd.prog 44 #[agv ⟨2, 0, t, []⟩ A c, .int .i64 lists] W (NilOk W) := by
  have HB := Aside0.mk (ago_below W ⟨2, 0, t, []⟩ A c)
  have HA := Aside0.mk (ago_at W ⟨2, 0, t, []⟩ A c)
  have ht' : ¬ (4096 : Int) < (t.size : Int) := by have := ht.1; omega
  have HT := Lib.hid ht.2
  clear ht
  go_enter Tryd.func44, Tryd.ntmps44
  go_wp2_with fail
  go_quiet (fail)
  go_wp2_with fail
  go_loopw [36] (fun v36 W' => ∃ i : Nat, v36 = .int .i64 i ∧ i ≤ t.size ∧ Aside0 (RAt W' W.heap.size (.int .i64 2) (.int .i64 0) (.string t) (.slice A 0 c)) ∧ Aside0 (Below W.heap.size W W')) (fun v36 _ => t.size - (intOf v36).toNat)
  case atStart => exact ⟨0, rfl, by omega, ⟨HA.out⟩, ⟨pw_below_drewN HB.out _⟩⟩
  case round =>
    clear HA HB
    obtain ⟨i, rfl, hi, HA, HB⟩ := hrel
    obtain ⟨⟨m0, m1, m2, m3⟩, _⟩ := HA.out.cells
    by_cases hlt : i < t.size
    · have hlt' : (i : Int) < (t.size : Int) := by omega
      have hr := (t[i]).toNat_lt
      have hlo : ¬ ((t[i]).toNat : Int) < 32 := by have := (HT.out i hlt).1; omega
      have h127 : (((t[i]).toNat : Int) == 127) = false := by rw [beq_eq_false_iff_ne]; have := (HT.out i hlt).2; omega
      go_wp2_with fail
      go_roundw
      case rel => exact ⟨i + 1, by go_num, by omega, HA, HB⟩
      case measure => simp [intOf]; omega
    · obtain rfl : i = t.size := by omega
      have hlt' : ¬ (t.size : Int) < (t.size : Int) := by omega
      go_wp2_with fail
      go_ret
      exact ⟨rfl, HB.out⟩
theorem leaf_may {x : S24} (h : leafOk x) (W : World) (A : Option Addr) (c : Nat) (lists : Int) : Calls Tryd.prog 44 #[agv x A c, .int .i64 lists] W (NilOk W) := by
  obtain ⟨k, n, t, l⟩ := x
  rcases h with ⟨h | h, h1, h2, h3⟩ | ⟨h, h1, h2, _⟩ | ⟨h, h1, h2, h3⟩ | ⟨h, h1, h2, h3⟩
  · simp only at h h1 h2 h3; subst h h1 h3; exact may_line1 t h2 W A c lists
  · simp only at h h1 h2 h3; subst h h1 h3; exact may_line2 t h2 W A c lists
  · simp only at h h1 h2; subst h h1 h2; exact may_num n W A c lists
  · simp only at h h1 h2 h3; subst h h1 h3; exact may_bulk t h2 W A c lists
  · simp only at h h1 h2 h3; subst h h1 h2 h3; exact may_none W A c lists
theorem elem_K {w : World} {A : Option Addr} {l : List S24} (h : k24.C w A l.length l) (i : Nat) (hi : i < l.length) : ∃ (a : Addr) (B : Option Addr) (e : Nat), A = some a ∧
    w.cell? (a.add (i * 4)) = some (.int .i64 (rd_T24 l i).f0) ∧ w.cell? ⟨(a.add (i * 4)).block, (a.add (i * 4)).off + 1, none⟩ = some (.int .i64 (rd_T24 l i).f1) ∧
    w.cell? ⟨(a.add (i * 4)).block, (a.add (i * 4)).off + 2, none⟩ = some (.string (rd_T24 l i).f2) ∧ w.cell? ⟨(a.add (i * 4)).block, (a.add (i * 4)).off + 3, none⟩ = some (.slice B (rd_T24 l i).f3.length e) ∧
    (rd_T24 l i).f3.length ≤ e ∧ k24.C w B (rd_T24 l i).f3.length (rd_T24 l i).f3 := by
  obtain ⟨a, B, e, hA, h0, h1, h2, h3, h4, h5⟩ := at_T24 h (i : Int) (by omega) (by omega)
  simp only [Int.toNat_natCast] at h0 h1 h2 h3
  exact ⟨a, B, e, hA, h0, h1, h2, h3, h4, h5⟩
set_option maxHeartbeats 2000000 in
theorem may_list (l : List S24) (hl : l.length ≤ 2000) (lists : Nat) (h4 : lists < 4) (ih : ∀ y ∈ l, ∀ (W : World) (A : Option Addr) (c : Nat), y.f3.length ≤ c → k24.C W A y.f3.length y.f3 → Calls Tryd.prog 44 #[agv y A c, .int .i64 ((lists : Int) + 1)] W (NilOk W))
    (W : World) (A : Option Addr) (c : Nat) (hA : k24.C W A l.length l) : Calls Tryd.prog 44 #[agv ⟨6, 0, ⟨#[]⟩, l⟩ A c, .int .i64 lists] W (NilOk W) := by
  have HB := Aside0.mk (ago_below W ⟨6, 0, ⟨#[]⟩, l⟩ A c)
  have HA := Aside0.mk hA
  have HI := Lib.hid ih
  have h4' : ¬ (4 : Int) ≤ (lists : Int) := by omega
  have hl' : ¬ (2000 : Int) < (l.length : Int) := by omega
  have hsum : IntKind.i64.wrap ((lists : Int) + 1) = (lists : Int) + 1 := IntWalk.i64_in _ (by omega)
  clear hA ih
  go_enter Tryd.func44, Tryd.ntmps44
  go_wp2_with fail
  go_quiet (fail)
  go_wp2_with fail
  go_loopw [106] (fun v106 W' => ∃ i : Nat, v106 = .int .i64 i ∧ i ≤ l.length ∧ Aside0 (Below W.heap.size W W')) (fun v106 _ => l.length - (intOf v106).toNat)
  case atStart => exact ⟨0, rfl, by omega, ⟨pw_below_drewN HB.out _⟩⟩
  case round =>
    clear HB
    obtain ⟨i, rfl, hi, HB⟩ := hrel
    by_cases hlt : i < l.length
    · have hlt' : (i : Int) < (l.length : Int) := by omega
      obtain ⟨a, B, e, rfl, a0, a1, a2, a3, ae, aC⟩ := elem_K (Kd.C_below HA.out HB.out) i hlt
      have hmem := Lib.hid (rd_mem hlt)
      generalize hy : rd_T24 l i = y at a0 a1 a2 a3 ae aC hmem
      have AC := Aside0.mk aC
      clear aC hy
      go_wp2_with fail
      refine (HI.out y hmem.out _ B e ae (Kd.C_alloc AC.out _)).mono ?_
      rintro _ w1 ⟨rfl, hb1⟩
      have HB1 := Aside0.mk ((below_alloc HB.out (ago y B e)).trans (hb1.mono (by have := HB.out.size; simp; omega)))
      clear hb1
      go_wp2_with fail
      go_roundw
      case rel => exact ⟨i + 1, by go_num, by omega, HB1⟩
      case measure => simp [intOf]; omega
    · obtain rfl : i = l.length := by omega
      have hlt' : ¬ (l.length : Int) < (l.length : Int) := by omega
      go_wp2_with fail
      go_ret
      exact ⟨rfl, HB.out⟩
theorem may_any : ∀ (d lists : Nat), lists + d = 4 → ∀ (x : S24), okD d x → ∀ (W : World) (A : Option Addr) (c : Nat), x.f3.length ≤ c → k24.C W A x.f3.length x.f3 → Calls Tryd.prog 44 #[agv x A c, .int .i64 lists] W (NilOk W)
  | 0, lists, hl, x, hx, W, A, c, _, _ => leaf_may hx W A c lists
  | d + 1, lists, hl, x, hx, W, A, c, hc, hC => by
    rcases hx with hx | ⟨h0, h1, h2, h3, h4⟩
    · exact leaf_may hx W A c lists
    · obtain ⟨k, n, t, l⟩ := x
      simp only at h0 h1 h2 h3 h4
      subst h0 h1 h2
      exact may_list l h3 lists (by omega) (fun y hy W A c hc hC => may_any d (lists + 1) (by omega) y (h4 y hy) W A c hc hC) W A c hC
end Go.Proofs.YtbdfjiobegadjaaDoor.Wr
