/- The walks of the law's own twins, at a list that may be, and of seven. -/
import Derived.Test.YthlolfncdjaniaaDoorOrder
namespace Go.Proofs.YthlolfncdjaniaaDoor.Tu
open Go Go.RowKit Go.Proofs.YthlolfncdjaniaaDoor.PTuplePrefix Go.Proofs.YthlolfncdjaniaaDoorW.PrintWords Go.Proofs.YthlolfncdjaniaaDoorW.PrintLast Go.Proofs.YthlolfncdjaniaaDoorW.PrintMore
set_option linter.unusedVariables false
set_option linter.unusedSectionVars false
set_option linter.unusedSimpArgs false
/-- What twins is asked of: a list. -/
def TwinsAt (l : List S46) : Prop := ∀ (W : World) (A : Option Addr) (c : Nat), k46.C W A l.length l → Calls Tryd.prog 14 #[.slice A l.length c] W fun e w' => ∃ v, e = .returned v ∧ k46.R 46 w' W.heap.size (fun _ => True) v l ∧ Below W.heap.size W w'
theorem take_snoc (l : List S46) (i : Nat) (h : i < l.length) : l.take (i + 1) = l.take i ++ [rd_T46 l (i : Int)] := by
  rw [rd_at l i h, List.take_succ_eq_append_getElem h]
set_option maxHeartbeats 8000000 in
set_option maxRecDepth 100000 in
theorem twins_list (l : List S46) (hlen : l.length ≤ 1000) (hin : ∀ y, y ∈ l → TwinsAt y.f3) : TwinsAt l := by
  intro W A c hA
  have HA := Aside0.mk hA
  have HI := Lib.hid hin
  have hm := Kd.C_max hA
  clear hA hin
  go_enter Tryd.func14, Tryd.ntmps14
  go_wp2_with fail
  go_loopw [3, 4] (fun v3 v4 W' => ∃ i : Nat, v4 = .int .i64 i ∧ i ≤ l.length ∧ Aside0 (k46.R 46 W' W.heap.size (fun _ => True) v3 (l.take i)) ∧ Aside0 (Below W.heap.size W W')) (fun _ v4 _ => l.length - (intOf v4).toNat)
  case atStart => exact ⟨0, rfl, by omega, ⟨Kd.R_nil _ _ _ _ _⟩, ⟨Below.refl _ _⟩⟩
  case round =>
    obtain ⟨i, rfl, hi, HR, HB⟩ := hrel
    have hlen2 := Lib.hid (show (l.take i).length = i by rw [List.length_take]; omega)
    have hbs := HB.out.size
    by_cases hlt : i < l.length
    · have hlt' : (i : Int) < (l.length : Int) := by omega
      obtain ⟨a, B, e, rfl, a0, a1, a2, a3, ae, aC⟩ := elem46 (Kd.C_below HA.out HB.out) i hlt
      have htk := Lib.hid (take_snoc l i hlt)
      have hf := Lib.hid (HI.out _ (rd_mem hlt))
      generalize rd_T46 l (i : Int) = x at a0 a1 a2 a3 ae aC htk hf
      generalize hl : l.take i = xs at HR htk hlen2
      obtain ⟨A1, c1, rfl⟩ := Kd.R_slice HR.out
      clear hl
      have AC := Aside0.mk aC
      have g1 : ∀ o, Below wr.heap.size wr (wr.alloc o) := fun o => below_alloc (Below.refl _ _) _
      have p0 := fun o => pw_cell_below (g1 o) a0
      have p1 := fun o => pw_cell_below (g1 o) a1
      have p2 := fun o => pw_cell_below (g1 o) a2
      have p3 := fun o => pw_cell_below (g1 o) a3
      clear aC g1
      go_wp2_with fail
      go_at_call 14
      refine (hf.out _ B e (by exact (Kd.C_alloc AC.out _))).mono ?_
      rintro _ w3 ⟨v3, rfl, hr3, hb3⟩
      obtain ⟨A3, c3, rfl⟩ := Kd.R_slice hr3
      have HX := Aside0.mk (show RAt w3 wr.heap.size (.int .i64 x.f0) (.int .i64 x.f1) (.string x.f2) (.slice B x.f3.length e) from (hb3.block _ (by simp)).trans (MapKept.heap_alloc _ _).1)
      have hsz3 : wr.heap.size < w3.heap.size := blk_lt HX.out
      have HBo := Aside0.mk ((HB.out.alloc hbs (ago x B e)).trans (hb3.mono (by simp; omega)))
      have hOB := Lib.hid (fun k (h : (Value.slice A1 xs.length c1).ownBlock = some k) => own_lt (Kd.R_own HR.out).choose_spec k h)
      have HR3 := Aside0.mk (show k46.R 46 w3 W.heap.size (fun k => wr.heap.size < k) (.slice A3 x.f3.length c3) x.f3 from Kd.R_lower (Kd.R_mono (Kd.R_bound hr3) (fun k hk => by have := hk.2.1; simp at this; omega)) (by simp; omega))
      obtain ⟨⟨m0, m1, m2, m3⟩, mf⟩ := HX.out.cells
      have ylt := hsz3
      have HRb := Kd.R_below (Kd.R_alloc (Kd.R_mono (Kd.R_bound HR.out) (fun k hk => (hk.2.2.1 : k < wr.heap.size))) (ago x B e)) hb3
      have HR2 := Aside0.mk (Kd.R_mono (Kd.R_far (p := ⟨wr.heap.size, 3, none⟩) HRb (fun k hk => by show k ≠ wr.heap.size; omega) (.slice A3 x.f3.length c3)) (ok' := fun _ => True) (fun _ _ => trivial))
      have HB2 := Aside0.mk (HBo.out.setCell (p := ⟨wr.heap.size, 3, none⟩) hbs (.slice A3 x.f3.length c3))
      have hbs2 := HB2.out.size
      have HM3 := Aside0.mk (k46_mkM _ _ _ x (Kd.R_far (p := ⟨wr.heap.size, 3, none⟩) HR3.out (fun k hk => by show k ≠ wr.heap.size; omega) (.slice A3 x.f3.length c3)))
      clear hr3 hb3 HRb
      go_wp2_with ((with_reducible refine gate_builtin (b := .append) (xs := #[.tmp 23, .tmp 25]) rfl ?_); at_builtin; refine Kd.R_append k46 (w0 := W) W.heap.size rfl (.tmp 23) (.tmp 25) 22 46 (.agg #[.int .i64 0, .int .i64 0, .string ⟨#[]⟩, .slice none 0 0]) 56 rfl Tryd.underlying22 info46 rfl (by decide) (by omega) (.slice A1 xs.length c1) xs x [.int .i64 x.f0, .int .i64 x.f1, .string x.f2, .slice A3 x.f3.length c3] (fun _ => True) (fun k => wr.heap.size < k) rfl (by simp [Act.eval]) HM3.out (fun k hk => ⟨trivial, fun e => by have := hOB.out k e.symm; omega⟩) (fun _ _ => trivial) HR2.out HB2.out hbs2 (by have := hlen2.out; omega) ?_; intro v5 w5 ho5 hb5 hg5 hat5; have HO5 := Aside0.mk ho5; have HB5 := Aside0.mk hb5; clear ho5 hb5 hg5 hat5)
      go_roundw
      case rel => exact ⟨i + 1, by go_num, by omega, ⟨by rw [htk.out]; exact HO5.out⟩, HB5⟩
      case measure => simp [intOf]; omega
    · have hlt' : ¬ (i : Int) < (l.length : Int) := by omega
      obtain rfl : i = l.length := by omega
      rw [List.take_length] at HR
      obtain ⟨A1, c1, rfl⟩ := Kd.R_slice HR.out
      go_wp2_with fail
      go_ret
      exact ⟨_, rfl, HR.out, HB.out⟩
theorem twins_any : ∀ (d : Nat) (l : List S46), (∀ y, y ∈ l → Ok46 d y) → l.length ≤ 1000 → TwinsAt l
  | 0, l, hok, hl => twins_list l hl (fun y hy => by rw [ok_none (hok y hy)]; exact twins_list [] (by simp) (fun z hz => by simp at hz))
  | d + 1, l, hok, hl => twins_list l hl (fun y hy => twins_any d y.f3 (ok_inner (hok y hy)) (by cases hok y hy with | list _ l hl h => show l.length ≤ 1000; omega | _ => simp))
theorem pack7 : packS [⟨3, 7, ⟨#[]⟩, []⟩] = ⟨#[3, 128, 0, 0, 0, 0, 0, 0, 7]⟩ := by decide
theorem seven_walk (W : World) : Calls Tryd.prog 16 #[] W fun e w' => e = .returned (.bool true) ∧ Below W.heap.size W w' := by
  have hO := Lib.hid (okL_num 7 ⟨by decide, by decide⟩)
  have HL := Aside0.mk (lit_C W 3 7)
  have HB := Aside0.mk (below_alloc (Below.refl W.heap.size W) (.cells #[.int .i64 3, .int .i64 7, .string ⟨#[]⟩, .slice none 0 0] 46))
  go_enter Tryd.func16, Tryd.ntmps16
  go_wp2_with fail
  go_at_call 15
  refine (pack_any [⟨3, 7, ⟨#[]⟩, []⟩] hO.out _ (some ⟨W.heap.size, 0, none⟩) 1 (by exact HL.out)).mono ?_
  rintro _ w1 ⟨rfl, hb1⟩
  rw [pack7]
  have HB1 := Aside0.mk (HB.out.trans (hb1.mono HB.out.size))
  clear hb1
  go_wp2_with fail
  go_ret
  exact ⟨rfl, HB1.out⟩
end Go.Proofs.YthlolfncdjaniaaDoor.Tu
