/- The walk of the law: lists stand as their texts do; what its parameter reads as. -/
import Derived.Test.YthlolfncdjaniaaDoorTidy
import Derived.Test.YthlolfncdjaniaaDoorOpens
import Derived.OpenShut
namespace Go.Proofs.YthlolfncdjaniaaDoor.Tu
open Go Go.RowKit Go.Proofs.YthlolfncdjaniaaDoor.Op Go.Proofs.YthlolfncdjaniaaDoor.PTuplePrefix Go.Proofs.YthlolfncdjaniaaDoorW.PrintWords Go.Proofs.YthlolfncdjaniaaDoorW.PrintLast Go.Proofs.YthlolfncdjaniaaDoorW.PrintMore
set_option linter.unusedVariables false
set_option linter.unusedSectionVars false
set_option linter.unusedSimpArgs false
theorem lit_C (W : World) (a b : Int) : k46.C (W.alloc (.cells #[.int .i64 a, .int .i64 b, .string ⟨#[]⟩, .slice none 0 0] 46)) (some ⟨W.heap.size, 0, none⟩) 1 [⟨a, b, ⟨#[]⟩, []⟩] := by
  have h := OwnRow.lit (R := k46.K W) (size := 4) (e := 46) (ps := [(⟨a, b, ⟨#[]⟩, []⟩ : S46)]) W 0 (inner := [.int .i64 a, .int .i64 b, .string ⟨#[]⟩, .slice none 0 0]) ⟨rfl, fun j p hj => by
    cases j with
    | zero => simp only [List.getElem?_cons_zero, Option.some.injEq] at hj; subst hj; exact k46_mk W ⟨a, b, ⟨#[]⟩, []⟩ (A3 := none) (c3 := 0) (Nat.le_refl _) (Kd.C_nil _ _)
    | succ j => simp at hj⟩ (Nat.zero_le _) (by simp)
  obtain ⟨A, c, e, _, hr⟩ := OwnRow.reads h
  simp only [Value.slice.injEq] at e
  obtain ⟨rfl, -, -⟩ := e
  exact hr.imp_ (Below.refl _ _) (fun _ _ hp => k46.K_below (below_alloc (Below.refl _ _) _) hp)
theorem okL_num (n : Int) (h : -9223372036854775808 ≤ n ∧ n ≤ 9223372036854775807) : OkL [⟨3, n, ⟨#[]⟩, []⟩] :=
  ⟨fun y hy => by rw [List.mem_singleton.1 hy]; exact .num 4 n h, by simp, by show (encI 4 ⟨3, n, ⟨#[]⟩, []⟩ ++ []).length ≤ _; rw [List.append_nil, len_num]; decide⟩
theorem cb_range : ∀ s t, cb s t = -1 ∨ cb s t = 0 ∨ cb s t = 1
  | [], [] => .inr (.inl rfl)
  | [], _ :: _ => .inl rfl
  | _ :: _, [] => .inr (.inr rfl)
  | a :: s, b :: t => by
    rw [cb_cons]
    split
    · exact .inl rfl
    · split
      · exact .inr (.inr rfl)
      · exact cb_range s t
/-- What the law asks of two lists that may be. -/
theorem law_order {a b : List S46} (ha : OkL a) (hb : OkL b) : ∃ n : Int, (n = -1 ∨ n = 0 ∨ n = 1) ∧ cmpLs (cmpI 4) a b = n ∧ cmpLs (cmpI 4) b a = -n ∧ eqL a b = decide (n = 0) ∧ cb (packS a).data.toList (packS b).data.toList = n := by
  refine ⟨cmpLs (cmpI 4) a b, ?_, rfl, cmpLs_neg (cmpI_neg 4) a b, ?_, ?_⟩
  · rw [← lists_cmp 4 a b ha.ok hb.ok]; exact cb_range _ _
  · by_cases h : a = b
    · rw [eqL_true.2 h, decide_eq_true ((lists_zero 4 ha.ok hb.ok).2 h)]
    · rw [eqL_false h, decide_eq_false (fun e => h ((lists_zero 4 ha.ok hb.ok).1 e))]
  · rw [packS_data, packS_data]; exact lists_cmp 4 a b ha.ok hb.ok
set_option maxHeartbeats 4000000 in
set_option maxRecDepth 100000 in
theorem walk_order (l m : List S46) (A B : Option Addr) (c e : Nat) (W : World) (hA : k46.C W A l.length l) (hB : k46.C W B m.length m) (hl : ∀ y, y ∈ l → Fit46 y) (hm : ∀ y, y ∈ m → Fit46 y) :
    Calls Tryd.prog 5 #[.agg #[.slice A l.length c, .slice B m.length e]] W fun e' w' => e' = .returned (.bool true) ∧ Below W.heap.size W w' := by
  have HA := Aside0.mk hA
  have HB := Aside0.mk hB
  have hc0 := Lib.hid (show cmpLs (cmpI 4) [(⟨3, -1, ⟨#[]⟩, []⟩ : S46)] [⟨3, 1, ⟨#[]⟩, []⟩] = -1 by decide)
  have hO1 := Lib.hid (okL_num (-1) ⟨by decide, by decide⟩)
  have hO2 := Lib.hid (okL_num 1 ⟨by decide, by decide⟩)
  obtain ⟨ha, -⟩ := tidy_okL l hl
  obtain ⟨hb, -⟩ := tidy_okL m hm
  have HOA := Lib.hid ha
  have HOB := Lib.hid hb
  have HN := Lib.hid (law_order ha hb)
  clear hA hB ha hb hl hm
  have hX : (W.alloc (.cells #[.slice A l.length c, .slice B m.length e] 33)).heap[W.heap.size]? = some (.cells #[.slice A l.length c, .slice B m.length e] 33 (0, 0)) := (MapKept.heap_alloc W _).1
  have e1 : (W.alloc (.cells #[.slice A l.length c, .slice B m.length e] 33)).heap.size = W.heap.size + 1 := by simp
  have e2 : ((W.alloc (.cells #[.slice A l.length c, .slice B m.length e] 33)).alloc (.cells #[.int .i64 3, .int .i64 (-1), .string ⟨#[]⟩, .slice none 0 0] 46)).heap.size = W.heap.size + 1 + 1 := by simp
  have L1 := Kd.C_alloc (lit_C (W.alloc (.cells #[.slice A l.length c, .slice B m.length e] 33)) 3 (-1)) (.cells #[.int .i64 3, .int .i64 1, .string ⟨#[]⟩, .slice none 0 0] 46)
  have L2 := lit_C ((W.alloc (.cells #[.slice A l.length c, .slice B m.length e] 33)).alloc (.cells #[.int .i64 3, .int .i64 (-1), .string ⟨#[]⟩, .slice none 0 0] 46)) 3 1
  rw [e1] at L1
  rw [e2] at L2
  have B0 : Below W.heap.size W ((((W.alloc (.cells #[.slice A l.length c, .slice B m.length e] 33)).alloc (.cells #[.int .i64 3, .int .i64 (-1), .string ⟨#[]⟩, .slice none 0 0] 46))).alloc (.cells #[.int .i64 3, .int .i64 1, .string ⟨#[]⟩, .slice none 0 0] 46)) := below_alloc (below_alloc (below_alloc (Below.refl _ _) _) _) _
  have X0 : ((((W.alloc (.cells #[.slice A l.length c, .slice B m.length e] 33)).alloc (.cells #[.int .i64 3, .int .i64 (-1), .string ⟨#[]⟩, .slice none 0 0] 46))).alloc (.cells #[.int .i64 3, .int .i64 1, .string ⟨#[]⟩, .slice none 0 0] 46)).heap[W.heap.size]? = _ := ((MapKept.heap_alloc _ _).2 _ (by simp; omega)).trans (((MapKept.heap_alloc _ _).2 _ (by simp)).trans hX)
  have LL1 := Aside0.mk L1
  have LL2 := Aside0.mk L2
  have BB := Aside0.mk B0
  have XX := Aside0.mk X0
  clear L1 L2 B0 X0 e1 e2 hX
  go_enter Tryd.func5, Tryd.ntmps5
  go_wp2_with fail
  go_at_call 19
  refine (compareL_any [⟨3, -1, ⟨#[]⟩, []⟩] [⟨3, 1, ⟨#[]⟩, []⟩] hO1.out hO2.out _ (some ⟨W.heap.size + 1, 0, none⟩) (some ⟨W.heap.size + 1 + 1, 0, none⟩) 1 1 (by exact LL1.out) (by exact LL2.out)).mono ?_
  rintro _ w1 ⟨rfl, hb1⟩
  rw [hc0.out]
  have HB1 := Aside0.mk (BB.out.trans (hb1.mono BB.out.size))
  have hX1 := (hb1.block _ (blk_lt XX.out)).trans XX.out
  have XX1 := Aside0.mk hX1
  have x0 : w1.cell? ⟨W.heap.size, 0, none⟩ = some (.slice A l.length c) := blk_cell hX1 0
  clear hb1 hX1
  go_wp2_with fail
  go_at_call 13
  refine (tidy_any 4 0 rfl l w1 A c (Kd.C_below HA.out HB1.out)).mono ?_
  rintro _ w2 ⟨v2, rfl, hr2, hb2⟩
  obtain ⟨A2, c2, rfl⟩ := Kd.R_slice hr2
  have HC2 := Aside0.mk (Kd.R_reads' hr2).2.2
  have HB2 := Aside0.mk (HB1.out.trans (hb2.mono HB1.out.size))
  have hX2 := (hb2.block _ (blk_lt XX1.out)).trans XX1.out
  have x1 : w2.cell? ⟨W.heap.size, 1, none⟩ = some (.slice B m.length e) := blk_cell hX2 1
  clear hb2 hX2 hr2 x0
  go_wp2_with fail
  go_at_call 13
  refine (tidy_any 4 0 rfl m w2 B e (Kd.C_below HB.out HB2.out)).mono ?_
  rintro _ w3 ⟨v3, rfl, hr3, hb3⟩
  obtain ⟨A3, c3, rfl⟩ := Kd.R_slice hr3
  have HC3 := Aside0.mk (Kd.R_reads' hr3).2.2
  have HC2 := Aside0.mk (Kd.C_below HC2.out hb3)
  have HB3 := Aside0.mk (HB2.out.trans (hb3.mono HB2.out.size))
  clear hb3 hr3 x1
  generalize tidyL 4 l = p at HOA HN HC2 ⊢
  generalize tidyL 4 m = q at HOB HN HC3 ⊢
  go_wp2_with fail
  go_at_call 15
  refine (pack_any p HOA.out w3 A2 c2 HC2.out).mono ?_
  rintro _ w4 ⟨rfl, hb4⟩
  have HC2 := Aside0.mk (Kd.C_below HC2.out hb4)
  have HC3 := Aside0.mk (Kd.C_below HC3.out hb4)
  have HB4 := Aside0.mk (HB3.out.trans (hb4.mono HB3.out.size))
  clear hb4
  go_wp2_with fail
  go_at_call 15
  refine (pack_any q HOB.out w4 A3 c3 HC3.out).mono ?_
  rintro _ w5 ⟨rfl, hb5⟩
  have HC2 := Aside0.mk (Kd.C_below HC2.out hb5)
  have HC3 := Aside0.mk (Kd.C_below HC3.out hb5)
  have HB5 := Aside0.mk (HB4.out.trans (hb5.mono HB4.out.size))
  clear hb5
  go_wp2_with fail
  go_at_call 19
  refine (compareL_any p q HOA.out HOB.out w5 A2 A3 c2 c3 HC2.out HC3.out).mono ?_
  rintro _ w6 ⟨rfl, hb6⟩
  have HC2 := Aside0.mk (Kd.C_below HC2.out hb6)
  have HC3 := Aside0.mk (Kd.C_below HC3.out hb6)
  have HB6 := Aside0.mk (HB5.out.trans (hb6.mono HB5.out.size))
  clear hb6
  go_wp2_with fail
  go_at_call 19
  refine (compareL_any q p HOB.out HOA.out w6 A3 A2 c3 c2 HC3.out HC2.out).mono ?_
  rintro _ w7 ⟨rfl, hb7⟩
  have HC2 := Aside0.mk (Kd.C_below HC2.out hb7)
  have HC3 := Aside0.mk (Kd.C_below HC3.out hb7)
  have HB7 := Aside0.mk (HB6.out.trans (hb7.mono HB6.out.size))
  clear hb7
  go_wp2_with fail
  go_at_call 11
  refine (same_any p q w7 A2 A3 c2 c3 HC2.out HC3.out).mono ?_
  rintro _ w8 ⟨rfl, hb8⟩
  have HB8 := Aside0.mk (HB7.out.trans (hb8.mono HB7.out.size))
  have hs1 := packS_size HOA.out
  have hs2 := packS_size HOB.out
  clear hb8
  go_wp2_with fail
  go_at_call 20
  refine (bytes_order (packS p) (packS q) (by omega) (by omega) w8).mono ?_
  rintro _ w9 ⟨rfl, hb9⟩
  have HB9 := Aside0.mk (HB8.out.trans (hb9.mono HB8.out.size))
  obtain ⟨n, hn, h1, h2, h3, h4⟩ := HN.out
  rw [h1, h2, h3, h4]
  clear hb9 h1 h2 h3 h4
  rcases hn with rfl | rfl | rfl
  all_goals
    go_wp2_with fail
    go_ret
    exact ⟨rfl, HB9.out⟩
theorem cells46 : Tryd.prog.cellsOf 46 = 4 := by kernel_rfl
theorem bytes46 : Tryd.prog.bytesOf 46 = 56 := by kernel_rfl
theorem F46_up {w : World} {x : S46} {cs : List Value} (h : (F46 k46).K w x cs) : k46.K w x cs := by
  obtain ⟨_, _, rfl, rfl, ⟨_, _, rfl, rfl, ⟨_, _, rfl, rfl, ⟨A3, c3, rfl, l3, g3⟩⟩⟩⟩ := h
  exact k46_mk w x l3 g3
theorem opens46 (N : Nat) : ∀ n, n ≤ N → OpensAt Tryd.prog n 46 k46 Fit46 := by
  induction N with
  | zero =>
    intro n hn
    refine ⟨fun enc W sp held cs x hx => ?_⟩
    obtain rfl : n = 0 := by omega
    simp [DataW.trod] at hx
  | succ N ih =>
    intro n hn
    have hs : OpensAt Tryd.prog n 46 (F46 k46) _ := opens_iso (fun x : S46 => (x.f0, x.f1, x.f2, x.f3)) (fun p => ⟨p.1, p.2.1, p.2.2.1, p.2.2.2⟩) (fun _ => rfl)
      (opens_struct Tryd.underlying46 (fun m hm => by
        rw [cells46]
        exact opensF_cons rfl (by kernel_rfl) (opens_int Tryd.underlying3) (opensF_cons rfl (by kernel_rfl) (opens_int Tryd.underlying3) (opensF_cons rfl (by kernel_rfl) (opens_string Tryd.underlying9)
          (opensF_last rfl (by kernel_rfl) (opens_slice Tryd.underlying22 (by rw [cells46]; rfl) (fun k hk => ih k (by omega))))))))
    refine ⟨fun enc W sp held cs x hx hw => ?_⟩
    obtain ⟨a, h1, q0, q1, q2, q3, _, q4⟩ := hs.run enc W sp held cs x hx hw
    rw [bytes46] at q3
    exact ⟨a, F46_up h1, .mk a (bounds_i64 q1) q2 q3 q4⟩
theorem opens22 (n : Nat) : OpensAt Tryd.prog n 22 (Kd.slice 46 k46) (fun l => l.length * 56 ≤ 140737488351232 ∧ ∀ x ∈ l, Fit46 x) :=
  opens_mono (opens_slice Tryd.underlying22 (by rw [cells46]; rfl) (fun m _ => opens46 m m (Nat.le_refl _))) (fun l h => ⟨by have := h.1; rw [bytes46] at this; exact this, h.2.2⟩)
/-- The parameter of the law: two lists. -/
theorem opens33 (n : Nat) : OpensAt Tryd.prog n 33 (Kd.pair (Kd.slice 46 k46) (Kd.slice 46 k46)) (fun x => (∀ y ∈ x.1, Fit46 y) ∧ (∀ y ∈ x.2, Fit46 y)) := by
  have hs : OpensAt Tryd.prog n 33 (Kd.pair (Kd.slice 46 k46) (Kd.slice 46 k46)) _ := opens_struct Tryd.underlying33 (fun m hm => by
    rw [show Tryd.prog.cellsOf 33 = 2 by kernel_rfl]
    exact opensF_cons (off' := 1) rfl (by kernel_rfl) (opens22 m) (opensF_last rfl (by kernel_rfl) (opens22 m)))
  exact opens_mono hs (fun _ h => ⟨h.1.2, h.2.2⟩)
end Go.Proofs.YthlolfncdjaniaaDoor.Tu
